/- Soundness of the abstract evaluator: the machine's steps, for a frame of whatever make. -/
import Derived.Test.YtfdnfeillopflaaGreatMd
noncomputable section
namespace Go.Ab

section steps
variable {P : Program} {b : Frame} {k : List Item} {cs : List Frame} {w : World}

theorem mk_skip (hb : b.mode = .run) : step P (lone { b with todo := .code .skip :: k } cs w) = .next (lone { b with todo := k } cs w) :=
  step_lone_go (by simp [stepG, stepG.exec, hb])
theorem mk_inBlock (hb : b.mode = .run) {id : Nat} : step P (lone { b with todo := .inBlock id :: k } cs w) = .next (lone { b with todo := k } cs w) :=
  step_lone_go (by simp [stepG, stepG.exec, hb])
theorem mk_seq (hb : b.mode = .run) {x y : Code} : step P (lone { b with todo := .code (.seq x y) :: k } cs w) = .next (lone { b with todo := .code x :: .code y :: k } cs w) :=
  step_lone_go (by simp [stepG, stepG.exec, hb])
theorem mk_block (hb : b.mode = .run) {id : Nat} {c : Code} : step P (lone { b with todo := .code (.block id c) :: k } cs w) = .next (lone { b with todo := .code c :: .inBlock id :: k } cs w) :=
  step_lone_go (by simp [stepG, stepG.exec, hb])
theorem mk_loop (hb : b.mode = .run) {c : Code} : step P (lone { b with todo := .code (.loop c) :: k } cs w) = .next (lone { b with todo := .code c :: .inLoop c :: k } cs w) :=
  step_lone_go (by simp [stepG, stepG.exec, hb])
theorem mk_inLoop (hb : b.mode = .run) {c : Code} : step P (lone { b with todo := .inLoop c :: k } cs w) = .next (lone { b with todo := .code c :: .inLoop c :: k } cs w) :=
  step_lone_go (by simp [stepG, stepG.exec, hb])
theorem mk_exit (hb : b.mode = .run) {id : Nat} {k' : List Item} (h : exitTo id k = some k') :
    step P (lone { b with todo := .code (.exit id) :: k } cs w) = .next (lone { b with todo := k' } cs w) :=
  step_lone_go (by simp [stepG, stepG.exec, hb, h])
theorem mk_cond (hb : b.mode = .run) {c : Operand} {x y : Code} {t : Bool} (h : b.eval c = .bool t) :
    step P (lone { b with todo := .code (.cond c x y) :: k } cs w) = .next (lone { b with todo := .code (if t then x else y) :: k } cs w) := by
  have h' : ∀ fr : Frame, fr.tmps = b.tmps → fr.eval c = .bool t := by
    intro fr hf; rw [← h]; cases c <;> simp [Frame.eval, hf]
  exact step_lone_go (by simp [stepG, stepG.exec, hb, h'])
theorem mk_region (hb : b.mode = .run) {id : Nat} {ops : Array Oper} :
    step P (lone { b with todo := .code (.region id ops false) :: k } cs w) = .next (lone { b with todo := .inRegion ops (List.range ops.size) :: k } cs w) :=
  step_lone_go (by simp [stepG, stepG.exec, hb])
theorem mk_region_draw (hb : b.mode = .run) {id : Nat} {ops : Array Oper} :
    step P (lone { b with todo := .code (.region id ops true) :: k } cs w) =
      .next (lone { b with todo := .inRegion ops (Region.schedule (P.follows .mixedOrders) ops (w.tape w.drawn (.order b.fn id))) :: k } cs w.drew) :=
  step_lone_go (by simp [stepG, stepG.exec, hb, choose, Sem.run, Question.forced, Question.cut])
theorem mk_region_end (hb : b.mode = .run) {ops : Array Oper} : step P (lone { b with todo := .inRegion ops [] :: k } cs w) = .next (lone { b with todo := k } cs w) :=
  step_lone_go (by simp [stepG, stepG.exec, hb])
theorem mk_unwanted (hb : b.mode = .run) {ops : Array Oper} {i : Nat} {rest : List Nat} (h : ((ops[i]?).map (Region.wanted · (yielded ops b.tmps))).getD false = false) :
    step P (lone { b with todo := .inRegion ops (i :: rest) :: k } cs w) = .next (lone (({ b with todo := .inRegion ops (i :: rest) :: k } : Frame).finish Go.undef) cs w) :=
  step_lone_go (by simp [stepG, stepG.exec, hb, h])
end steps

/-- No frame whose step is a wrapped call. -/
def plainTop (fr : Frame) : Prop := ∀ d r s k, fr.todo ≠ .call d true r s :: k

/-- What invoking a function value comes to: the caller goes on with the result. -/
def CallSim (P : Program) (f : Value) (args : Array Value) (w : World) (v : Value) (w' : World) : Prop :=
  ∀ (fr : Frame) (cs : List Frame), fr.mode = .run → plainTop fr →
    ∃ fr₁ cs₁ w₁, (stepG.apply P true fr cs none (do let d ← Deferred.ofValue f args; invoke d.target d.args) w).bare = .go { frame := fr₁, callers := cs₁, status := .running, dying := none } w₁ ∧
      Steps P (lone fr₁ cs₁ w₁) (lone (fr.finish v) cs w')

/-- An oracle that is right. -/
def ClOk (P : Program) (E : Env) (cl : Oracle) : Prop :=
  ∀ (f : AV) (args : List AV) (s : AS) (v : AV) (s' : AS) (σ : Sg) (w : World), cl f args s = some (v, s') → Rel P σ s w → EOk E σ → In σ f → InL σ args →
    ∃ σ' w', Rel P σ' s' w' ∧ In σ' v ∧ Ext σ s w σ' s' w' ∧ CallSim P (conc σ f) (concL σ args).toArray w (conc σ' v) w'

/-- One operation of a region, carried out. -/
def OpSim (P : Program) (ops : Array Oper) (i : Nat) (tmps : Array Value) (w : World) (tmps' : Array Value) (w' : World) : Prop :=
  ∀ (b : Frame) (k : List Item) (cs : List Frame) (rest : List Nat), b.mode = .run → b.tmps = tmps →
    Steps P (lone { b with todo := .inRegion ops (i :: rest) :: k } cs w) (lone { b with tmps := tmps', todo := .inRegion ops rest :: k } cs w')

def putV (tmps : Array Value) (d : Option Nat) (v : Value) : Array Value :=
  match d with
  | some d => tmps.setIfInBounds d v
  | none => tmps

theorem finish_region (b : Frame) (ops : Array Oper) (i : Nat) (rest : List Nat) (k : List Item) (v : Value) {o : Oper} (ho : ops[i]? = some o) :
    ({ b with todo := .inRegion ops (i :: rest) :: k } : Frame).finish v = { b with tmps := putV b.tmps o.dst v, todo := .inRegion ops rest :: k } := by
  simp only [Frame.finish, ho, Option.bind_some]
  cases o.dst <;> rfl

theorem stepG_oper {P : Program} {b : Frame} {k : List Item} {cs : List Frame} {w : World} {ops : Array Oper} {i : Nat} {rest : List Nat} {o : Oper} (hb : b.mode = .run) (ho : ops[i]? = some o)
    (hw : Region.wanted o (yielded ops b.tmps) = true) (hd : ∀ c, o.op ≠ .defer c) :
    stepG P true { frame := { b with todo := .inRegion ops (i :: rest) :: k }, callers := cs, status := .running, dying := none } w =
      stepG.apply P true { b with todo := .inRegion ops (i :: rest) :: k } cs none (execOp ({ b with todo := .inRegion ops (i :: rest) :: k } : Frame).eval o) w := by
  simp only [stepG, stepG.exec, hb, ho, hw, Option.map_some, Option.getD_some, if_true, stepG.oper, Frame.oper?]
  split
  · rename_i h; exact absurd h (hd _)
  · rfl

theorem apply_value {P : Program} {fr : Frame} {cs : List Frame} {w w' : World} {x : Sem Next} {v : Value} (h : x.run P w = .ok (.value v) w') :
    (stepG.apply P true fr cs none x w).bare = .go { frame := fr.finish v, callers := cs, status := .running, dying := none } w' := by
  simp [stepG.apply, h]
theorem apply_skip {P : Program} {fr : Frame} {cs : List Frame} {w w' : World} {x : Sem Next} (h : x.run P w = .ok .skip w') :
    (stepG.apply P true fr cs none x w).bare = .go { frame := fr.finish Go.undef, callers := cs, status := .running, dying := none } w' := by
  simp [stepG.apply, h]

theorem RTmp.frame {σ : Sg} {N : Nat} {T : Tr AV} {fr : Frame} (r : RTmp σ N T fr.tmps) : REv σ T fr.eval :=
  r.ev (fun _ => rfl) (fun _ => rfl) (fun _ => rfl)

theorem RTmp.put {σ : Sg} {N : Nat} {T : Tr AV} {tmps : Array Value} (r : RTmp σ N T tmps) {d : Option Nat} {v : AV} (hd : ∀ x, d = some x → x < N) (hv : In σ v) :
    RTmp σ N (putD T d v) (putV tmps d (conc σ v)) := by
  cases d with
  | none => exact r
  | some d =>
    have hd := hd d rfl
    refine ⟨by simp [putV, r.1], fun t => ?_⟩
    simp only [putD, putV, EO.ev, Tr.get_set]
    by_cases ht : t = d
    · subst ht
      simp only [if_true]
      refine ⟨hv, ?_⟩
      simp [Array.getD, r.1, hd]
    · simp only [ht, if_false]
      obtain ⟨h1, h2⟩ := r.2 t
      simp only [EO.ev] at h1 h2
      refine ⟨h1, ?_⟩
      rw [← h2]
      simp only [Array.getD_eq_getD_getElem?]
      rw [Array.getElem?_setIfInBounds_ne (fun h => ht h.symm)]

/-- A guard's temporary. -/
theorem wanted_eq {P : Program} {σ : Sg} {N : Nat} {T : Tr AV} {tmps : Array Value} {ops : Array Oper} (r : RTmp σ N T tmps) (o : Oper) {c : Bool}
    (h : wantedE T (cOper P ops o).guard = some c) : Region.wanted o (yielded ops tmps) = c := by
  simp only [cOper] at h
  simp only [Region.wanted]
  cases hg : o.guard with
  | none => simp [hg, wantedE] at h; simp [h]
  | some jb =>
    obtain ⟨j, b⟩ := jb
    simp only [hg, Option.map_some] at h
    simp only [yielded]
    cases hd : (ops[j]?).bind (·.dst) with
    | none => simp [hd, wantedE] at h; simp [h]
    | some d =>
      simp only [hd, wantedE] at h
      simp only [Option.bind_some]
      obtain ⟨_, h2⟩ := r.2 d
      have h3 : tmps[d]? = some (conc σ ((EO.t d).ev T)) ∨ (tmps[d]? = none ∧ conc σ ((EO.t d).ev T) = Go.undef) := by
        rw [Array.getD_eq_getD_getElem?] at h2
        cases hh : tmps[d]? with
        | none => right; simp [hh] at h2; exact ⟨rfl, h2.symm⟩
        | some x => left; simp [hh] at h2; simp [h2]
      generalize (EO.t d).ev T = a at h h2 h3
      cases a with
      | opq i => simp at h
      | bool x =>
        simp at h; subst h
        rcases h3 with h3 | ⟨_, h3⟩
        · simp only [h3, conc]; cases x <;> cases b <;> rfl
        · simp [conc, Go.undef] at h3
      | _ =>
        all_goals
          simp at h; subst h
          rcases h3 with h3 | ⟨h3, _⟩
          · simp only [h3, conc, Go.undef]; rfl
          · simp only [h3]; rfl

end Go.Ab
end

noncomputable section
namespace Go.Ab

theorem callee?_some {o : Op} {f : Operand} {l : List Operand} (h : callee? o = some (f, l)) : ∃ c : Call, o = .call c ∧ c.callee = .value f ∧ c.args.toList = l := by
  unfold callee? at h
  split at h
  · rename_i c
    split at h
    · rename_i f' hf
      simp at h
      exact ⟨c, rfl, by rw [hf, h.1], h.2⟩
    · cases h
  · cases h

theorem cOp_defer {P : Program} {c : Call} {e : EOp} (h : cOp P (.defer c) = some e) : False := by simp [cOp] at h

theorem oper_sound {P : Program} {E : Env} {cl : Oracle} (hcl : ClOk P E cl) {σ : Sg} {s s' : AS} {w : World} {N : Nat} {T : Tr AV} {tmps : Array Value} {ops : Array Oper} {i : Nat} {o : Oper} {v : AV}
    (he : EOk E σ) (r : Rel P σ s w) (rt : RTmp σ N T tmps) (ho : ops[i]? = some o) (h : evOper E cl (cOper P ops o) T s = some (v, s')) :
    ∃ σ' w', Rel P σ' s' w' ∧ In σ' v ∧ Ext σ s w σ' s' w' ∧ OpSim P ops i tmps w (putV tmps o.dst (conc σ' v)) w' := by
  unfold evOper at h
  split at h
  · rename_i hw
    have hw := wanted_eq rt o hw
    simp only [cOper, cOpB] at h
    split at h
    · -- a call
      rename_i f l hcal
      obtain ⟨c, hc1, hc2, hc3⟩ := callee?_some hcal
      split at h
      · rename_i f' hf'
        split at h
        · rename_i l' hl'
          simp only [evOp] at h
          have ev : REv σ T (fun x => match x with | .tmp t => tmps.getD t Go.undef | .const v => v | .global g => .pointer (some ⟨g, 0, none⟩) | .func f => .func (.func f) #[] #[]) :=
            rt.ev (fun _ => rfl) (fun _ => rfl) (fun _ => rfl)
          obtain ⟨hf1, hf2⟩ := ev _ _ hf'
          obtain ⟨hl1, hl2⟩ := cEOs_conc ev hl'
          obtain ⟨σ', w', k1, k2, k3, k4⟩ := hcl _ _ _ _ _ σ w h r he hf2 hl2
          refine ⟨σ', w', k1, k2, k3, ?_⟩
          intro b k cs rest hb ht
          subst ht
          obtain ⟨fr₁, cs₁, w₁, m1, m2⟩ := k4 { b with todo := .inRegion ops (i :: rest) :: k } cs hb (by intro d r s k h; cases h)
          rw [finish_region b ops i rest k _ ho] at m2
          refine .head (step_lone_go ?_) m2
          rw [stepG_oper hb ho hw (by intro d hd; rw [hc1] at hd; cases hd), ← m1]
          have e1 : ({ b with todo := .inRegion ops (i :: rest) :: k } : Frame).eval f = conc σ (f'.ev T) := by rw [← hf1]; cases f <;> rfl
          have e2 : c.args.map ({ b with todo := .inRegion ops (i :: rest) :: k } : Frame).eval = (concL σ (evs T l')).toArray := by
            rw [← hl1, ← hc3]
            apply Array.ext'
            simp only [Array.toList_map]
            apply List.map_congr_left
            intro x _
            cases x <;> rfl
          simp only [execOp, hc1, resolve, hc2, e1, e2]
        · cases h
      · cases h
    · rename_i hcal
      split at h
      · rename_i e hop
        split at h
        · cases h
        · rename_i hn
          have ev : ∀ fr : Frame, fr.tmps = tmps → REv σ T fr.eval := fun fr hfr => RTmp.frame (N := N) (hfr ▸ rt)
          have key : Res P σ s w ((execOp (fun x => match x with | .tmp t => tmps.getD t Go.undef | .const v => v | .global g => .pointer (some ⟨g, 0, none⟩) | .func f => .func (.func f) #[] #[]) o).run P w) v s' :=
            evOp_sound he r (rt.ev (fun _ => rfl) (fun _ => rfl) (fun _ => rfl)) hop h
          obtain ⟨σ', w', k1, k2, k3, k4⟩ := key
          refine ⟨σ', w', k2, k3, k4, ?_⟩
          intro b k cs rest hb ht
          subst ht
          have hd : ∀ c, o.op ≠ .defer c := by intro c hc; rw [hc] at hop; exact cOp_defer hop
          have heq : ({ b with todo := .inRegion ops (i :: rest) :: k } : Frame).eval = (fun x => match x with | .tmp t => b.tmps.getD t Go.undef | .const v => v | .global g => .pointer (some ⟨g, 0, none⟩) | .func f => .func (.func f) #[] #[]) := by
            funext x; cases x <;> rfl
          rw [← finish_region b ops i rest k _ ho]
          refine .one (step_lone_go ?_)
          rw [stepG_oper hb ho hw hd, heq]
          rcases k1 with k1 | ⟨rfl, k1⟩
          · exact apply_value k1
          · exact apply_skip k1
      · cases h
  · rename_i hw
    have hw := wanted_eq rt o hw
    cases h
    refine ⟨σ, w, r, trivial, .refl _ _ _, ?_⟩
    intro b k cs rest hb ht
    subst ht
    have := mk_unwanted (P := P) (b := b) (k := k) (cs := cs) (w := w) hb (ops := ops) (i := i) (rest := rest) (by simp [ho, hw])
    rw [finish_region b ops i rest k _ ho] at this
    exact .one this
  · cases h

/-- A region's operations, one behind the other, as steps. -/
def RegSim (P : Program) (ops : Array Oper) (l : List Nat) (tmps : Array Value) (w : World) (tmps' : Array Value) (w' : World) : Prop :=
  ∀ (b : Frame) (k : List Item) (cs : List Frame), b.mode = .run → b.tmps = tmps →
    Steps P (lone { b with todo := .inRegion ops l :: k } cs w) (lone { b with tmps := tmps', todo := .inRegion ops [] :: k } cs w')

theorem RegSim.nil (P : Program) (ops : Array Oper) (tmps : Array Value) (w : World) : RegSim P ops [] tmps w tmps w := by
  intro b k cs _ ht; subst ht; exact .refl _ _
theorem RegSim.cons {P : Program} {ops : Array Oper} {i : Nat} {l : List Nat} {tmps t₁ t₂ : Array Value} {w w₁ w₂ : World} (h : OpSim P ops i tmps w t₁ w₁) (k : RegSim P ops l t₁ w₁ t₂ w₂) :
    RegSim P ops (i :: l) tmps w t₂ w₂ := by
  intro b q cs hb ht
  exact (h b q cs l hb ht).trans (k { b with tmps := t₁ } q cs hb rfl)

theorem evStep_one {E : Env} {cl : Oracle} {o : EOper} {rc : List EOper} {T T' : Tr AV} {s s' : AS} (h : evStep E cl (.one o rc) T s = some (T', s')) :
    ∃ v, evOper E cl o T s = some (v, s') ∧ T' = putD T o.dst v ∧ recheck E cl T' s' rc = true := by
  simp only [evStep] at h
  split at h
  · rename_i v s₁ hv
    split at h
    · cases h; exact ⟨v, hv, rfl, rfl⟩
    · split at h
      · rename_i hr; cases h; exact ⟨v, hv, rfl, hr⟩
      · cases h
  · cases h

/-- A region in the order of its text. -/
theorem text_sound {P : Program} {E : Env} {cl : Oracle} (hcl : ClOk P E cl) {ops : Array Oper} {N : Nat} : ∀ (l : List Oper) (i₀ : Nat), (∀ k, l[k]? = ops[i₀ + k]?) → (l.map fun o => EStep.one (cOper P ops o) []).all (dstS N) = true →
    ∀ {σ : Sg} {s s' : AS} {w : World} {T T' : Tr AV} {tmps : Array Value}, EOk E σ → Rel P σ s w → RTmp σ N T tmps →
    evSteps E cl (l.map fun o => EStep.one (cOper P ops o) []) T s = some (T', s') →
    ∃ σ' w' tmps', Rel P σ' s' w' ∧ RTmp σ' N T' tmps' ∧ Ext σ s w σ' s' w' ∧ RegSim P ops (List.range' i₀ l.length) tmps w tmps' w' := by
  intro l
  induction l with
  | nil =>
    intro i₀ _ _ σ s s' w T T' tmps he r rt h
    simp [evSteps] at h
    obtain ⟨rfl, rfl⟩ := h
    exact ⟨σ, w, tmps, r, rt, .refl _ _ _, RegSim.nil _ _ _ _⟩
  | cons o l ih =>
    intro i₀ hl hd σ s s' w T T' tmps he r rt h
    simp only [List.map_cons, evSteps] at h
    split at h
    · rename_i T₁ s₁ h1
      obtain ⟨v, h2, h3, _⟩ := evStep_one h1
      have ho : ops[i₀]? = some o := by have := hl 0; simpa using this.symm
      obtain ⟨σ₁, w₁, k1, k2, k3, k4⟩ := oper_sound hcl he r rt ho h2
      simp only [List.map_cons, List.all_cons, Bool.and_eq_true] at hd
      have hdst : ∀ x, o.dst = some x → x < N := by
        intro x hx
        have := hd.1
        simp only [dstS, cOper, hx, ltb_eq, decide_eq_true_eq] at this
        exact this
      have rt₁ : RTmp σ₁ N T₁ (putV tmps o.dst (conc σ₁ v)) := by rw [h3]; exact (rt.le k3.le).put hdst k2
      obtain ⟨σ₂, w₂, t₂, m1, m2, m3, m4⟩ := ih (i₀ + 1) (fun k => by have := hl (k + 1); simp at this; rw [this]; congr 1; omega) hd.2 (he.le k3.le) k1 rt₁ h
      refine ⟨σ₂, w₂, t₂, m1, m2, k3.trans m3, ?_⟩
      rw [List.length_cons, List.range'_succ]
      exact RegSim.cons k4 m4
    · cases h

end Go.Ab
end

noncomputable section
namespace Go.Ab

/-- The temporaries behind those operations of a row that Q takes, in the row's order. -/
def foldT (V : Nat → AV) (Q : Nat → RI → Bool) : List RI → Nat → Tr AV → Tr AV
  | [], _, T => T
  | r :: L, p, T => foldT V Q L (p + 1) (if Q p r then putD T r.o.dst (V p) else T)

theorem ev_putD (T : Tr AV) (d : Option Nat) (v : AV) (t : Nat) : (EO.t t).ev (putD T d v) = if d = some t then v else (EO.t t).ev T := by
  cases d with
  | none => simp [putD]
  | some d =>
    simp only [putD, EO.ev, Tr.get_set, Option.some.injEq]
    by_cases h : t = d
    · subst h; simp
    · rw [if_neg h, if_neg (fun e => h e.symm)]

theorem foldT_ev (V : Nat → AV) (Q Q' : Nat → RI → Bool) (t : Nat) : ∀ (L : List RI) (p : Nat) (T T' : Tr AV), (EO.t t).ev T = (EO.t t).ev T' →
    (∀ (k : Nat) (r : RI), L[k]? = some r → r.o.dst = some t → Q (p + k) r = Q' (p + k) r) → (EO.t t).ev (foldT V Q L p T) = (EO.t t).ev (foldT V Q' L p T')
  | [], _, _, _, h, _ => h
  | r :: L, p, T, T', h, hq => by
    simp only [foldT]
    refine foldT_ev V Q Q' t L (p + 1) _ _ ?_ ?_
    · by_cases hd : r.o.dst = some t
      · have := hq 0 r rfl hd
        simp only [Nat.add_zero] at this
        rw [this]
        split
        · rw [ev_putD, ev_putD]; simp [hd]
        · exact h
      · have e : ∀ (b : Bool) (U : Tr AV), (EO.t t).ev (if b = true then putD U r.o.dst (V p) else U) = (EO.t t).ev U := by
          intro b U; split
          · rw [ev_putD, if_neg hd]
          · rfl
        rw [e, e, h]
    · intro k r' hk hd
      have := hq (k + 1) r' (by simpa using hk) hd
      rw [show p + 1 + k = p + (k + 1) from by omega]; exact this

structure Tra (P : Program) (E : Env) (cl : Oracle) (ops : Array Oper) (N : Nat) (L : List RI) (T : Nat → Tr AV) (S : Nat → AS) (V : Nat → AV) : Prop where
  facts' : ∀ (p : Nat) (r : RI), L[p]? = some r → ∃ o, ops[r.i]? = some o ∧ r.o = cOper P ops o ∧ r.cls = clsOf r.o.op ∧ r.rd = tmpsOper r.o
  inj' : ∀ (p p' : Nat) (r r' : RI), L[p]? = some r → L[p']? = some r' → r.i = r'.i → p = p'
  pos' : ∀ (p p' : Nat) (r r' : RI), L[p]? = some r → L[p']? = some r' → bfr r.i r' = true → p < p'
  closed' : ∀ (D : Nat → Prop), Closed ops D → ∀ r, r ∈ L → D r.i → ∀ j, bfr j r = true → D j
  cov : ∀ i, i < ops.size → ∃ r, r ∈ L ∧ r.i = i
  ev : ∀ (p : Nat) (r : RI), L[p]? = some r → evOper E cl r.o (T p) (S p) = some (V p, S (p + 1)) ∧ T (p + 1) = putD (T p) r.o.dst (V p)
  apart : ∀ (p p' : Nat) (r r' : RI), L[p]? = some r → L[p']? = some r' → p ≠ p' → free r r' = true → tmpsApart r r' = true
  asap : ∀ (p c : Nat) (r rc : RI), L[p]? = some r → L[c]? = some rc → c < p → rc.cls = .change → (r.cls = .read ∨ r.cls = .alloc) → bfr rc.i r = true
  rchk : ∀ (p c : Nat) (z rc : RI), p < c → L[p]? = some z → L[c]? = some rc → z.cls = .read → rc.cls = .change → bfr z.i rc = false → ∃ s, evOper E cl z.o (T p) (S (c + 1)) = some (V p, s)
  dst : ∀ (r : RI), r ∈ L → ∀ d, r.o.dst = some d → d < N

section
variable {P : Program} {E : Env} {cl : Oracle} {ops : Array Oper} {N : Nat} {L : List RI} {T : Nat → Tr AV} {S : Nat → AS} {V : Nat → AV}

theorem split_at {L : List RI} {p : Nat} {r : RI} (h : L[p]? = some r) : L = L.take p ++ r :: L.drop (p + 1) ∧ (L.take p).length = p := by
  have hp : p < L.length := by
    rcases Nat.lt_or_ge p L.length with h' | h'
    · exact h'
    · rw [List.getElem?_eq_none h'] at h; cases h
  refine ⟨?_, by simp; omega⟩
  have e : L[p] = r := by rw [List.getElem?_eq_getElem hp] at h; cases h; rfl
  rw [← e, List.getElem_cons_drop hp, List.take_append_drop]

theorem Tra.facts (tr : Tra P E cl ops N L T S V) {p : Nat} {r : RI} (h : L[p]? = some r) : ∃ o, ops[r.i]? = some o ∧ r.o = cOper P ops o ∧ r.cls = clsOf r.o.op ∧ r.rd = tmpsOper r.o := tr.facts' p r h
theorem Tra.inj (tr : Tra P E cl ops N L T S V) {p p' : Nat} {r r' : RI} (h : L[p]? = some r) (h' : L[p']? = some r') (he : r.i = r'.i) : p = p' := tr.inj' p p' r r' h h' he
/-- Who comes before stands ahead. -/
theorem Tra.pos (tr : Tra P E cl ops N L T S V) {p p' : Nat} {r r' : RI} (h : L[p]? = some r) (h' : L[p']? = some r') (hb : bfr r.i r' = true) : p < p' := tr.pos' p p' r r' h h' hb
theorem Tra.closed (tr : Tra P E cl ops N L T S V) {D : Nat → Prop} (hD : Closed ops D) {p : Nat} {r : RI} (h : L[p]? = some r) (hr : D r.i) {j : Nat} (hb : bfr j r = true) : D j :=
  tr.closed' D hD r (List.mem_of_getElem? h) hr j hb

def inD (D : List Nat) : Nat → RI → Bool := fun _ r => decide (r.i ∈ D)

theorem T_eq (tr : Tra P E cl ops N L T S V) (t p : Nat) : ∀ (n m : Nat), m + n = L.length → m ≤ p → (EO.t t).ev (foldT V (fun k _ => decide (k < p)) (L.drop m) m (T m)) = (EO.t t).ev (T (min p L.length)) := by
  intro n
  induction n with
  | zero =>
    intro m hm hp
    rw [List.drop_eq_nil_of_le (by omega)]
    simp only [foldT]
    rw [show min p L.length = m from by omega]
  | succ n ih =>
    intro m hm hp
    have hlt : m < L.length := by omega
    rw [List.drop_eq_getElem_cons hlt]
    simp only [foldT]
    by_cases hmp : m < p
    · simp only [hmp, decide_true, if_true]
      obtain ⟨_, h2⟩ := tr.ev m L[m] (List.getElem?_eq_getElem hlt)
      rw [← h2]
      exact ih (m + 1) (by omega) (by omega)
    · have hmp' : m = p := by omega
      subst hmp'
      simp only [Nat.lt_irrefl, decide_false, Bool.false_eq_true, if_false]
      rw [show min m L.length = m from by omega]
      have key : ∀ (l : List RI) (k : Nat) (U : Tr AV), m ≤ k → foldT V (fun k _ => decide (k < m)) l k U = U := by
        intro l
        induction l with
        | nil => intro k U _; rfl
        | cons x l ihl =>
          intro k U hk
          simp only [foldT]
          rw [if_neg (by simp; omega)]
          exact ihl (k + 1) U (by omega)
      rw [key _ _ _ (by omega)]

/-- What an operation reads stands as it stood when it was carried out in the row's order. -/
theorem Tra.reads (tr : Tra P E cl ops N L T S V) {D : List Nat} {p : Nat} {r : RI} (h : L[p]? = some r) (hn : r.i ∉ D) (hD : Closed ops (fun i => i ∈ D)) (hD' : Closed ops (fun i => i ∈ r.i :: D)) {t : Nat} (ht : t ∈ r.rd) :
    (EO.t t).ev (foldT V (inD D) L 0 (T 0)) = (EO.t t).ev (T p) := by
  have hp : p < L.length := by
    rcases Nat.lt_or_ge p L.length with h' | h'
    · exact h'
    · rw [List.getElem?_eq_none h'] at h; cases h
  have e := T_eq tr t p L.length 0 (by omega) (Nat.zero_le _)
  rw [show min p L.length = p from by omega, List.drop_zero] at e
  rw [← e]
  refine foldT_ev V _ _ t L 0 _ _ rfl fun k y hk hd => ?_
  simp only [inD, Nat.zero_add]
  by_cases hkp : k = p
  · subst hkp; rw [h] at hk; cases hk; simp [hn]
  · have hord : bfr y.i r = true ∨ bfr r.i y = true := by
      refine Classical.byContradiction fun hno => ?_
      simp only [not_or, Bool.not_eq_true] at hno
      have hfree : free y r = true := by simp [free, hno.1, hno.2]
      have := tr.apart k p y r hk h hkp hfree
      simp only [tmpsApart, hd, Bool.and_eq_true, Bool.not_eq_true'] at this
      have h1 := this.1.1
      rw [List.contains_eq_mem] at h1
      simp [ht] at h1
    rcases hord with hb | hb
    · have h1 := tr.pos hk h hb
      have h2 : y.i ∈ D := by
        have := tr.closed hD' h (List.mem_cons_self ..) hb
        rcases List.mem_cons.1 this with h3 | h3
        · exact absurd (tr.inj hk h h3) hkp
        · exact h3
      simp [h1, h2]
    · have h1 := tr.pos h hk hb
      have h2 : y.i ∉ D := fun h2 => hn (tr.closed hD hk h2 hb)
      simp [h2]; omega

/-- The temporaries behind one operation more. -/
theorem Tra.puts (tr : Tra P E cl ops N L T S V) {D : List Nat} {p : Nat} {r : RI} (h : L[p]? = some r) (hn : r.i ∉ D) (hD : Closed ops (fun i => i ∈ D)) (hD' : Closed ops (fun i => i ∈ r.i :: D)) (t : Nat) :
    (EO.t t).ev (foldT V (inD (r.i :: D)) L 0 (T 0)) = (EO.t t).ev (putD (foldT V (inD D) L 0 (T 0)) r.o.dst (V p)) := by
  have hp : p < L.length := by
    rcases Nat.lt_or_ge p L.length with h' | h'
    · exact h'
    · rw [List.getElem?_eq_none h'] at h; cases h
  rw [ev_putD]
  by_cases hdt : r.o.dst = some t
  · rw [if_pos hdt]
    have e := T_eq tr t (p + 1) L.length 0 (by omega) (Nat.zero_le _)
    rw [show min (p + 1) L.length = p + 1 from by omega, List.drop_zero] at e
    have e2 : (EO.t t).ev (T (p + 1)) = V p := by rw [(tr.ev p r h).2, ev_putD, if_pos hdt]
    rw [← e2, ← e]
    refine foldT_ev V _ _ t L 0 _ _ rfl fun k y hk hd => ?_
    simp only [inD, Nat.zero_add]
    by_cases hkp : k = p
    · subst hkp; rw [h] at hk; cases hk; simp
    · have hord : bfr y.i r = true ∨ bfr r.i y = true := by
        refine Classical.byContradiction fun hno => ?_
        simp only [not_or, Bool.not_eq_true] at hno
        have hfree : free y r = true := by simp [free, hno.1, hno.2]
        have := tr.apart k p y r hk h hkp hfree
        simp only [tmpsApart, hd, hdt, Bool.and_eq_true] at this
        have h1 := this.1.2
        simp at h1
      rcases hord with hb | hb
      · have h1 := tr.pos hk h hb
        have h2 := tr.closed hD' h (List.mem_cons_self ..) hb
        simp only [h2, decide_true]; simp; omega
      · have h1 := tr.pos h hk hb
        have h2 : y.i ∉ r.i :: D := fun h2 => by
          rcases List.mem_cons.1 h2 with h3 | h3
          · exact hkp (tr.inj hk h h3)
          · exact hn (tr.closed hD hk h3 hb)
        simp only [h2, decide_false]; simp; omega
  · rw [if_neg hdt]
    refine foldT_ev V _ _ t L 0 _ _ rfl fun k y hk hd => ?_
    simp only [inD, Nat.zero_add]
    have hne : y.i ≠ r.i := fun he => by
      have := tr.inj hk h he
      subst this; rw [h] at hk; cases hk; exact hdt hd
    simp [hne]

end
end Go.Ab
end

noncomputable section
namespace Go.Ab

theorem RTmp.ext {σ : Sg} {N : Nat} {T T' : Tr AV} {tmps : Array Value} (r : RTmp σ N T tmps) (h : ∀ t, (EO.t t).ev T' = (EO.t t).ev T) : RTmp σ N T' tmps :=
  ⟨r.1, fun t => by rw [h t]; exact r.2 t⟩

/-- An operation in its frame, once what it comes to is known. -/
theorem opsim_of_run {P : Program} {ops : Array Oper} {i : Nat} {o : Oper} {tmps : Array Value} {w w' : World} {V : Value} (ho : ops[i]? = some o) (hw : Region.wanted o (yielded ops tmps) = true)
    (hd : ∀ c, o.op ≠ .defer c)
    (h : (execOp (fun x => match x with | .tmp t => tmps.getD t Go.undef | .const v => v | .global g => .pointer (some ⟨g, 0, none⟩) | .func f => .func (.func f) #[] #[]) o).run P w = .ok (.value V) w') :
    OpSim P ops i tmps w (putV tmps o.dst V) w' := by
  intro b k cs rest hb ht
  subst ht
  have heq : ({ b with todo := .inRegion ops (i :: rest) :: k } : Frame).eval = (fun x => match x with | .tmp t => b.tmps.getD t Go.undef | .const v => v | .global g => .pointer (some ⟨g, 0, none⟩) | .func f => .func (.func f) #[] #[]) := by
    funext x; cases x <;> rfl
  rw [← finish_region b ops i rest k _ ho]
  refine .one (step_lone_go ?_)
  rw [stepG_oper hb ho hw hd, heq]
  exact apply_value h

theorem cOpB_alloc {P : Program} {o : Op} {e : EOp} (h : cOpB P o = e) (hc : clsOf e = .alloc) : cOp P o = some e := by
  unfold cOpB at h
  split at h
  · split at h
    · split at h
      · subst h; cases hc
      · subst h; cases hc
    · subst h; cases hc
  · split at h
    · split at h
      · subst h; cases hc
      · subst h; assumption
    · subst h; cases hc

theorem evOper_same {E : Env} {cl : Oracle} {o : EOper} {T : Tr AV} {s s₁ : AS} {v : AV} (hc : clsOf o.op ≠ .change) (h : evOper E cl o T s = some (v, s₁)) : OneMore s s₁ := by
  unfold evOper at h
  split at h
  · cases hk : clsOf o.op with
    | pure => exact .inl (evOp_pure hk h).1
    | read => exact .inl (evOp_read hk h).1
    | alloc => exact evOp_alloc hk h
    | change => exact absurd hk hc
  · cases h; exact .inl rfl
  · cases h

theorem evOper_pure {E : Env} {cl : Oracle} {o : EOper} {T : Tr AV} {s s₁ : AS} {v : AV} (hc : clsOf o.op = .pure) (h : evOper E cl o T s = some (v, s₁)) : ∀ s₂, evOper E cl o T s₂ = some (v, s₂) := by
  intro s₂
  unfold evOper at h ⊢
  split at h
  · exact (evOp_pure hc h).2 s₂
  · cases h; rfl
  · cases h

theorem evOper_read {E : Env} {cl : Oracle} {o : EOper} {T : Tr AV} {s s₁ : AS} {v : AV} (hc : clsOf o.op = .read) (h : evOper E cl o T s = some (v, s₁)) : ∀ s₂, AExt s s₂ → evOper E cl o T s₂ = some (v, s₂) := by
  intro s₂ hs
  unfold evOper at h ⊢
  split at h
  · exact (evOp_read hc h).2 s₂ hs
  · cases h; rfl
  · cases h

/-- Changes come in the row's order. -/
def ChainOk (L : List RI) : List Nat → List Nat → Prop
  | _, [] => True
  | D, i :: l => (∀ (p p' : Nat) (c c' : RI), L[p]? = some c → L[p']? = some c' → p < p' → c.cls = .change → c'.cls = .change → c'.i = i → c.i ∈ D) ∧ ChainOk L (i :: D) l

structure Inv (P : Program) (N : Nat) (L : List RI) (T : Nat → Tr AV) (S : Nat → AS) (V : Nat → AV) (D : List Nat) (q : Nat) (σ : Sg) (tmps : Array Value) (w : World) : Prop where
  hq : q ≤ L.length
  cD : ∀ (p : Nat) (r : RI), L[p]? = some r → r.cls = .change → (r.i ∈ D ↔ p < q)
  stop : q = L.length ∨ ∃ r, L[q]? = some r ∧ r.cls = .change
  mid : ∃ c0, c0 ≤ q ∧ (∀ (p : Nat) (r : RI), c0 ≤ p → p < q → L[p]? = some r → r.cls ≠ .change) ∧ (c0 = 0 ∨ ∃ c r, c0 = c + 1 ∧ L[c]? = some r ∧ r.cls = .change) ∧ (S c0).wf
  rel : Rel P σ (S q) w
  tmp : RTmp σ N (foldT V (inD D) L 0 (T 0)) tmps
  pend : ∀ (p : Nat) (r : RI), p < q → L[p]? = some r → r.cls = .alloc → r.i ∉ D →
    (∀ a, (S p).na ≤ a → a < (S (p + 1)).na → σ.ar a = [] ∧ (S q).arrs.get a = (S (p + 1)).arrs.get a) ∧ (∀ m, (S p).nm ≤ m → m < (S (p + 1)).nm → σ.mp m = none ∧ (S q).maps.get m = (S (p + 1)).maps.get m)
  mono : ∀ p p', p ≤ p' → p' ≤ q → (S p).na ≤ (S p').na ∧ (S p).nm ≤ (S p').nm

theorem mono4 {S : Nat → AS} {q : Nat} (h : ∀ p p', p ≤ p' → p' ≤ q → (S p).na ≤ (S p').na ∧ (S p).nm ≤ (S p').nm) : ∀ p, p ≤ q → (S 0).na ≤ (S p).na ∧ (S p).na ≤ (S q).na ∧ (S 0).nm ≤ (S p).nm ∧ (S p).nm ≤ (S q).nm :=
  fun p hp => ⟨(h 0 p (Nat.zero_le _) hp).1, (h p q hp (Nat.le_refl _)).1, (h 0 p (Nat.zero_le _) hp).2, (h p q hp (Nat.le_refl _)).2⟩

section
variable {P : Program} {E : Env} {cl : Oracle} {ops : Array Oper} {N : Nat} {L : List RI} {T : Nat → Tr AV} {S : Nat → AS} {V : Nat → AV}

theorem lt_of_get {L : List RI} {p : Nat} {r : RI} (h : L[p]? = some r) : p < L.length := by
  rcases Nat.lt_or_ge p L.length with h' | h'
  · exact h'
  · rw [List.getElem?_eq_none h'] at h; cases h

/-- A stretch without a change. -/
theorem Tra.stretch (tr : Tra P E cl ops N L T S V) {c0 q : Nat} (hq : q ≤ L.length) (hc : ∀ (p : Nat) (r : RI), c0 ≤ p → p < q → L[p]? = some r → r.cls ≠ .change) (hw : (S c0).wf) :
    ∀ n p, c0 ≤ p → p + n ≤ q → (S p).wf ∧ More (S p) (S (p + n)) ∧ AExt (S p) (S (p + n)) ∧ (S (p + n)).wf := by
  have wfp : ∀ n, c0 + n ≤ q → (S (c0 + n)).wf := by
    intro n
    induction n with
    | zero => intro _; exact hw
    | succ n ih =>
      intro h
      have hlt : c0 + n < L.length := by omega
      have hg : L[c0 + n]? = some L[c0 + n] := List.getElem?_eq_getElem hlt
      obtain ⟨o, _, _, k3, _⟩ := tr.facts hg
      have hne := hc (c0 + n) _ (by omega) (by omega) hg
      rw [k3] at hne
      exact (evOper_same hne (tr.ev _ _ hg).1).wf (ih (by omega))
  intro n
  induction n with
  | zero => intro p hp h; have := wfp (p - c0) (by omega); rw [show c0 + (p - c0) = p from by omega] at this; exact ⟨this, .refl _, .refl _, this⟩
  | succ n ih =>
    intro p hp h
    obtain ⟨k1, k2, k3, k4⟩ := ih p hp (by omega)
    have hlt : p + n < L.length := by omega
    have hg : L[p + n]? = some L[p + n] := List.getElem?_eq_getElem hlt
    obtain ⟨o, _, _, m3, _⟩ := tr.facts hg
    have hne := hc (p + n) _ (by omega) (by omega) hg
    rw [m3] at hne
    have hone := evOper_same hne (tr.ev _ _ hg).1
    exact ⟨k1, k2.trans hone.more, k3.trans (hone.aext k4), hone.wf k4⟩

/-- The next change, or the end. -/
theorem next_change (L : List RI) : ∀ (n q : Nat), q + n = L.length → ∃ q', q ≤ q' ∧ q' ≤ L.length ∧ (∀ (p : Nat) (r : RI), q ≤ p → p < q' → L[p]? = some r → r.cls ≠ .change) ∧ (q' = L.length ∨ ∃ r, L[q']? = some r ∧ r.cls = .change) := by
  intro n
  induction n with
  | zero => intro q h; exact ⟨q, Nat.le_refl _, by omega, fun p r h1 h2 => by omega, .inl (by omega)⟩
  | succ n ih =>
    intro q h
    have hlt : q < L.length := by omega
    by_cases hc : L[q].cls = .change
    · exact ⟨q, Nat.le_refl _, by omega, fun p r h1 h2 => by omega, .inr ⟨_, List.getElem?_eq_getElem hlt, hc⟩⟩
    · obtain ⟨q', h1, h2, h3, h4⟩ := ih (q + 1) (by omega)
      refine ⟨q', by omega, h2, fun p r k1 k2 k3 => ?_, h4⟩
      by_cases hp : p = q
      · subst hp; rw [List.getElem?_eq_getElem hlt] at k3; cases k3; exact hc
      · exact h3 p r (by omega) k2 k3

/-- From behind a change to ahead of the next. -/
theorem Tra.advance (tr : Tra P E cl ops N L T S V) {D : List Nat} {q q' : Nat} {σ : Sg} {tmps : Array Value} {w : World} (hqq : q ≤ q') (hq' : q' ≤ L.length)
    (hc : ∀ (p : Nat) (r : RI), q ≤ p → p < q' → L[p]? = some r → r.cls ≠ .change) (hstop : q' = L.length ∨ ∃ r, L[q']? = some r ∧ r.cls = .change)
    (hc0 : q = 0 ∨ ∃ c r, q = c + 1 ∧ L[c]? = some r ∧ r.cls = .change)
    (cD : ∀ (p : Nat) (r : RI), L[p]? = some r → r.cls = .change → (r.i ∈ D ↔ p < q'))
    (rel : Rel P σ (S q) w) (tmp : RTmp σ N (foldT V (inD D) L 0 (T 0)) tmps)
    (pend : ∀ (p : Nat) (r : RI), p < q → L[p]? = some r → r.cls = .alloc → r.i ∉ D →
      (∀ a, (S p).na ≤ a → a < (S (p + 1)).na → σ.ar a = [] ∧ (S q).arrs.get a = (S (p + 1)).arrs.get a) ∧ (∀ m, (S p).nm ≤ m → m < (S (p + 1)).nm → σ.mp m = none ∧ (S q).maps.get m = (S (p + 1)).maps.get m))
    (mono : ∀ p p', p ≤ p' → p' ≤ q → (S p).na ≤ (S p').na ∧ (S p).nm ≤ (S p').nm) :
    Inv P N L T S V D q' σ tmps w ∧ More (S q) (S q') := by
  have st := tr.stretch (c0 := q) (q := q') hq' hc rel.wf
  obtain ⟨_, hmore, _, hwf⟩ := st (q' - q) q (Nat.le_refl _) (by omega)
  rw [show q + (q' - q) = q' from by omega] at hmore hwf
  refine ⟨⟨hq', cD, hstop, ⟨q, hqq, hc, hc0, rel.wf⟩, rel.more hmore hwf, tmp, ?_, ?_⟩, hmore⟩
  · intro p r hp hr hcl hn
    rcases Nat.lt_or_ge p q with hpq | hpq
    · obtain ⟨k1, k2⟩ := pend p r hpq hr hcl hn
      have hm := mono4 mono (p + 1) (by omega)
      refine ⟨fun a h1 h2 => ?_, fun m h1 h2 => ?_⟩
      · obtain ⟨k3, k4⟩ := k1 a h1 h2
        exact ⟨k3, by rw [hmore.arr a (by omega)]; exact k4⟩
      · obtain ⟨k3, k4⟩ := k2 m h1 h2
        exact ⟨k3, by rw [hmore.map m (by omega)]; exact k4⟩
    · obtain ⟨_, m1, _, _⟩ := st (p - q) q (Nat.le_refl _) (by omega)
      rw [show q + (p - q) = p from by omega] at m1
      obtain ⟨_, m2, _, _⟩ := st (q' - (p + 1)) (p + 1) (by omega) (by omega)
      rw [show p + 1 + (q' - (p + 1)) = q' from by omega] at m2
      exact ⟨fun a h1 h2 => ⟨rel.na a (Nat.le_trans m1.na h1), m2.arr a h2⟩, fun m h1 h2 => ⟨rel.nm m (Nat.le_trans m1.nm h1), m2.map m h2⟩⟩
  · intro p p' hpp hp
    rcases Nat.lt_or_ge p' q with hpq | hpq
    · exact mono p p' hpp (by omega)
    · obtain ⟨_, m1, _, _⟩ := st (p' - q) q (Nat.le_refl _) (by omega)
      rw [show q + (p' - q) = p' from by omega] at m1
      rcases Nat.lt_or_ge p q with hp1 | hp1
      · have h0 := mono p q (by omega) (Nat.le_refl _)
        have := m1.na; have := m1.nm
        omega
      · obtain ⟨_, m2, _, _⟩ := st (p' - p) p hp1 (by omega)
        rw [show p + (p' - p) = p' from by omega] at m2
        exact ⟨m2.na, m2.nm⟩

/-- Whatever the order: the same temporaries, the same memory. -/
theorem Tra.run (hcl : ClOk P E cl) (tr : Tra P E cl ops N L T S V) : ∀ (l D : List Nat), LinP ops D l → ChainOk L D l → Closed ops (fun i => i ∈ D) →
    ∀ {q : Nat} {σ : Sg} {tmps : Array Value} {w : World}, Inv P N L T S V D q σ tmps w → EOk E σ →
    ∃ σ' w' tmps', RegSim P ops l tmps w tmps' w' ∧ Rel P σ' (S L.length) w' ∧ RTmp σ' N (T L.length) tmps' ∧ ExtB (S 0).na (S 0).nm σ (S q) w σ' (S L.length) w' := by
  intro l
  induction l with
  | nil =>
    intro D hl _ hD q σ tmps w inv _
    cases hl with
    | nil hall =>
      have hin : ∀ r, r ∈ L → r.i ∈ D := by
        intro r hr
        obtain ⟨k, hk⟩ := List.getElem?_of_mem hr
        obtain ⟨o, ho, _⟩ := tr.facts hk
        refine hall _ ?_
        rcases Nat.lt_or_ge r.i ops.size with h | h
        · exact h
        · rw [Array.getElem?_eq_none h] at ho; cases ho
      have hqn : q = L.length := by
        rcases inv.stop with h | ⟨r, h1, h2⟩
        · exact h
        · have := (inv.cD q r h1 h2).1 (hin r (List.mem_of_getElem? h1)); omega
      subst hqn
      refine ⟨σ, w, tmps, RegSim.nil _ _ _ _, inv.rel, inv.tmp.ext fun t => ?_, .refl _ _ _ _ _⟩
      have e := T_eq tr t L.length L.length 0 (by omega) (Nat.zero_le _)
      rw [Nat.min_self, List.drop_zero] at e
      rw [← e]
      refine foldT_ev V _ _ t L 0 _ _ rfl fun k y hk _ => ?_
      have h1 := lt_of_get hk
      have h2 := hin y (List.mem_of_getElem? hk)
      simp [inD, h1, h2]
  | cons i l ih =>
    intro D hl hch hD q σ tmps w inv he
    cases hl with
    | cons ho hn hp hl' =>
      rename_i o
      have hD' : Closed ops (fun j => j ∈ i :: D) := by
        intro j hj o' ho' k hk
        rcases List.mem_cons.1 hj with rfl | hj
        · rw [ho] at ho'; cases ho'; exact List.mem_cons_of_mem _ (hp k hk)
        · exact List.mem_cons_of_mem _ (hD j hj o' ho' k hk)
      have hi : i < ops.size := by
        rcases Nat.lt_or_ge i ops.size with h | h
        · exact h
        · rw [Array.getElem?_eq_none h] at ho; cases ho
      obtain ⟨r, hr1, hr2⟩ := tr.cov i hi
      obtain ⟨p, hrp⟩ := List.getElem?_of_mem hr1
      subst hr2
      obtain ⟨o', ho', f1, f2, f3⟩ := tr.facts hrp
      rw [ho] at ho'; cases ho'
      have hplt := lt_of_get hrp
      obtain ⟨hev, hT⟩ := tr.ev p r hrp
      -- what it reads stands as it stood
      have hrd : ∀ s, evOper E cl r.o (foldT V (inD D) L 0 (T 0)) s = evOper E cl r.o (T p) s := fun s =>
        evOper_congr fun t ht => tr.reads hrp hn hD hD' (f3 ▸ ht)
      have hdst : ∀ x, o.dst = some x → x < N := fun x hx => tr.dst r hr1 x (by rw [f1]; exact hx)
      have hdo : r.o.dst = o.dst := by rw [f1]; rfl
      -- the temporaries behind it
      have hput : ∀ {σ' : Sg} {tm : Array Value}, RTmp σ' N (putD (foldT V (inD D) L 0 (T 0)) o.dst (V p)) tm → RTmp σ' N (foldT V (inD (r.i :: D)) L 0 (T 0)) tm := fun h =>
        h.ext fun t => by rw [tr.puts hrp hn hD hD' t, hdo]
      obtain ⟨c0, m1, m2, m3, m4⟩ := inv.mid
      have st := tr.stretch inv.hq m2 m4
      by_cases hcc : r.cls = .change
      · -- a change: the next one
        have hpq : p = q := by
          have h1 : ¬ p < q := fun h => hn ((inv.cD p r hrp hcc).2 h)
          rcases inv.stop with h | ⟨rq, h2, h3⟩
          · omega
          · rcases Nat.lt_or_ge q p with h4 | h4
            · have := hch.1 q p rq r h2 hrp h4 h3 hcc rfl
              have := (inv.cD q rq h2 h3).1 this; omega
            · omega
        subst hpq
        have hev' : evOper E cl (cOper P ops o) (foldT V (inD D) L 0 (T 0)) (S p) = some (V p, S (p + 1)) := by rw [← f1, hrd]; exact hev
        obtain ⟨σ₁, w₁, k1, k2, k3, k4⟩ := oper_sound hcl he inv.rel inv.tmp ho hev'
        obtain ⟨q', n1, n2, n3, n4⟩ := next_change L (L.length - (p + 1)) (p + 1) (by omega)
        have cD' : ∀ (p' : Nat) (r' : RI), L[p']? = some r' → r'.cls = .change → (r'.i ∈ r.i :: D ↔ p' < q') := by
          intro p' r' h1 h2
          constructor
          · intro h3
            rcases List.mem_cons.1 h3 with h4 | h4
            · have := tr.inj h1 hrp h4; omega
            · have := (inv.cD p' r' h1 h2).1 h4; omega
          · intro h3
            by_cases h4 : p' = p
            · subst h4; rw [hrp] at h1; cases h1; exact List.mem_cons_self ..
            · refine List.mem_cons_of_mem _ ((inv.cD p' r' h1 h2).2 ?_)
              rcases Nat.lt_or_ge p' p with h5 | h5
              · exact h5
              · exact absurd h2 (n3 p' r' (by omega) h3 h1)
        have mono' : ∀ p₁ p', p₁ ≤ p' → p' ≤ p + 1 → (S p₁).na ≤ (S p').na ∧ (S p₁).nm ≤ (S p').nm := by
          intro p₁ p' h1 hp'
          have e1 := k3.na; have e2 := k3.nm
          rcases Nat.lt_or_ge p p' with h | h
          · have : p' = p + 1 := by omega
            subst this
            rcases Nat.lt_or_ge p p₁ with h2 | h2
            · have : p₁ = p + 1 := by omega
              subst this; exact ⟨Nat.le_refl _, Nat.le_refl _⟩
            · have := inv.mono p₁ p h2 (Nat.le_refl _); omega
          · exact inv.mono p₁ p' h1 h
        have pend' : ∀ (p' : Nat) (r' : RI), p' < p + 1 → L[p']? = some r' → r'.cls = .alloc → r'.i ∉ r.i :: D →
            (∀ a, (S p').na ≤ a → a < (S (p' + 1)).na → σ₁.ar a = [] ∧ (S (p + 1)).arrs.get a = (S (p' + 1)).arrs.get a) ∧ (∀ m, (S p').nm ≤ m → m < (S (p' + 1)).nm → σ₁.mp m = none ∧ (S (p + 1)).maps.get m = (S (p' + 1)).maps.get m) := by
          intro p' r' h1 h2 h3 h4
          have hne : p' ≠ p := by rintro rfl; rw [hrp] at h2; cases h2; rw [hcc] at h3; cases h3
          obtain ⟨x1, x2⟩ := inv.pend p' r' (by omega) h2 h3 (fun h => h4 (List.mem_cons_of_mem _ h))
          have hm := mono4 inv.mono (p' + 1) (by omega)
          refine ⟨fun a h5 h6 => ?_, fun m h5 h6 => ?_⟩
          · obtain ⟨y1, y2⟩ := x1 a h5 h6
            obtain ⟨z1, z2⟩ := k3.fa a (by omega) y1
            exact ⟨z2, z1.trans y2⟩
          · obtain ⟨y1, y2⟩ := x2 m h5 h6
            obtain ⟨z1, z2⟩ := k3.fm m (by omega) y1
            exact ⟨z2, z1.trans y2⟩
        obtain ⟨inv', hmore⟩ := tr.advance (D := r.i :: D) n1 n2 n3 n4 (.inr ⟨p, r, rfl, hrp, hcc⟩) cD' k1 (hput ((inv.tmp.le k3.le).put hdst k2)) pend' mono'
        obtain ⟨σ₂, w₂, t₂, y1, y2, y3, y4⟩ := ih (r.i :: D) hl' hch.2 hD' inv' (he.le k3.le)
        have b1 := mono4 inv.mono p (Nat.le_refl _)
        have b2 := mono4 mono' (p + 1) (Nat.le_refl _)
        exact ⟨σ₂, w₂, t₂, RegSim.cons k4 y1, y2, y3, ((k3.toB b1.1 b1.2.2.1).trans (ExtB.more hmore b2.1 b2.2.2.1)).trans y4⟩
      · -- no change: the abstract memory stays
        have finish : ∀ {σ₁ : Sg} {w₁ : World}, Rel P σ₁ (S q) w₁ → In σ₁ (V p) → ExtB (S 0).na (S 0).nm σ (S q) w σ₁ (S q) w₁ → OpSim P ops r.i tmps w (putV tmps o.dst (conc σ₁ (V p))) w₁ →
            (∀ (p' : Nat) (r' : RI), p' < q → L[p']? = some r' → r'.cls = .alloc → r'.i ∉ r.i :: D → (∀ a, (S p').na ≤ a → a < (S (p' + 1)).na → σ.ar a = [] → σ₁.ar a = []) ∧ (∀ m, (S p').nm ≤ m → m < (S (p' + 1)).nm → σ.mp m = none → σ₁.mp m = none)) →
            ∃ σ' w' tmps', RegSim P ops (r.i :: l) tmps w tmps' w' ∧ Rel P σ' (S L.length) w' ∧ RTmp σ' N (T L.length) tmps' ∧ ExtB (S 0).na (S 0).nm σ (S q) w σ' (S L.length) w' := by
          intro σ₁ w₁ k1 k2 k3 k4 hkeep
          have inv' : Inv P N L T S V (r.i :: D) q σ₁ (putV tmps o.dst (conc σ₁ (V p))) w₁ := by
            refine ⟨inv.hq, ?_, inv.stop, inv.mid, k1, hput ((inv.tmp.le k3.le).put hdst k2), ?_, inv.mono⟩
            · intro p' r' h1 h2
              rw [← inv.cD p' r' h1 h2]
              constructor
              · intro h3
                rcases List.mem_cons.1 h3 with h4 | h4
                · have := tr.inj h1 hrp h4; subst this; rw [hrp] at h1; cases h1; exact absurd h2 hcc
                · exact h4
              · exact List.mem_cons_of_mem _
            · intro p' r' h1 h2 h3 h4
              obtain ⟨x1, x2⟩ := inv.pend p' r' h1 h2 h3 (fun h => h4 (List.mem_cons_of_mem _ h))
              obtain ⟨z1, z2⟩ := hkeep p' r' h1 h2 h3 h4
              exact ⟨fun a h5 h6 => ⟨z1 a h5 h6 (x1 a h5 h6).1, (x1 a h5 h6).2⟩, fun m h5 h6 => ⟨z2 m h5 h6 (x2 m h5 h6).1, (x2 m h5 h6).2⟩⟩
          obtain ⟨σ₂, w₂, t₂, y1, y2, y3, y4⟩ := ih (r.i :: D) hl' hch.2 hD' inv' (he.le k3.le)
          exact ⟨σ₂, w₂, t₂, RegSim.cons k4 y1, y2, y3, k3.trans y4⟩
        have b1 := mono4 inv.mono q (Nat.le_refl _)
        have plain : evOper E cl r.o (T p) (S q) = some (V p, S q) →
            ∃ σ' w' tmps', RegSim P ops (r.i :: l) tmps w tmps' w' ∧ Rel P σ' (S L.length) w' ∧ RTmp σ' N (T L.length) tmps' ∧ ExtB (S 0).na (S 0).nm σ (S q) w σ' (S L.length) w' := by
          intro hh
          have hev' : evOper E cl (cOper P ops o) (foldT V (inD D) L 0 (T 0)) (S q) = some (V p, S q) := by rw [← f1, hrd]; exact hh
          obtain ⟨σ₁, w₁, k1, k2, k3, k4⟩ := oper_sound hcl he inv.rel inv.tmp ho hev'
          refine finish k1 k2 (k3.toB b1.1 b1.2.2.1) k4 ?_
          intro p' r' h1 h2 h3 h4
          have hm := mono4 inv.mono (p' + 1) (by omega)
          exact ⟨fun a _ h6 h7 => (k3.fa a (by omega) h7).2, fun m _ h6 h7 => (k3.fm m (by omega) h7).2⟩
        -- what is no pure operation stands ahead of the next change
        have hbefore : (r.cls = .read ∨ r.cls = .alloc) → p < q := by
          intro hk
          rcases inv.stop with h | ⟨rq, h2, h3⟩
          · omega
          · rcases Nat.lt_trichotomy p q with h4 | h4 | h4
            · exact h4
            · subst h4; rw [hrp] at h2; cases h2; exact absurd h3 hcc
            · have hb := tr.asap p q r rq hrp h2 h4 h3 hk
              have h5 := tr.closed hD' hrp (List.mem_cons_self ..) hb
              rcases List.mem_cons.1 h5 with h6 | h6
              · have := tr.inj h2 hrp h6; omega
              · have := (inv.cD q rq h2 h3).1 h6; omega
        cases hk : r.cls with
        | change => exact absurd hk hcc
        | pure => exact plain (evOper_pure (f2 ▸ hk) hev _)
        | read =>
          have hpq := hbefore (.inl hk)
          refine plain ?_
          rcases Nat.lt_or_ge p c0 with hpc | hpc
          · rcases m3 with h0 | ⟨c, rc, h1, h2, h3⟩
            · omega
            · subst h1
              have hne : p ≠ c := by rintro rfl; rw [hrp] at h2; cases h2; exact hcc h3
              have hb : bfr r.i rc = false := by
                cases hb : bfr r.i rc with
                | false => rfl
                | true =>
                  have h5 := (inv.cD c rc h2 h3).2 (by omega)
                  exact absurd (tr.closed hD h2 h5 hb) hn
              obtain ⟨s', hs'⟩ := tr.rchk p c r rc (by omega) hrp h2 hk h3 hb
              obtain ⟨_, _, hx, _⟩ := st (q - (c + 1)) (c + 1) (Nat.le_refl _) (by omega)
              rw [show c + 1 + (q - (c + 1)) = q from by omega] at hx
              exact evOper_read (f2 ▸ hk) hs' _ hx
          · obtain ⟨_, _, hx, _⟩ := st (q - p) p hpc (by omega)
            rw [show p + (q - p) = q from by omega] at hx
            exact evOper_read (f2 ▸ hk) hev _ hx
        | alloc =>
          have hpq := hbefore (.inr hk)
          have hca : clsOf r.o.op = .alloc := f2 ▸ hk
          unfold evOper at hev
          cases hwt : wantedE (T p) r.o.guard with
          | none => rw [hwt] at hev; cases hev
          | some b =>
            rw [hwt] at hev
            cases b with
            | false =>
              simp only [Option.some.injEq, Prod.mk.injEq] at hev
              refine plain ?_
              unfold evOper
              rw [hwt, ← hev.1]
            | true =>
              simp only at hev
              have hcong : wantedE (foldT V (inD D) L 0 (T 0)) r.o.guard = some true ∧ evOp E cl r.o.op (foldT V (inD D) L 0 (T 0)) (S p) = some (V p, S (p + 1)) := by
                constructor
                · rw [← hwt]
                  unfold wantedE
                  split
                  · rfl
                  · rfl
                  · rename_i t b hg
                    rw [tr.reads hrp hn hD hD' (t := t) (by rw [f3]; simp [tmpsOper, hg])]
                · rw [← hev]
                  exact evOp_congr fun t ht => tr.reads hrp hn hD hD' (by rw [f3]; simp [tmpsOper, ht])
              have hop : cOp P o.op = some r.o.op := cOpB_alloc (by rw [f1]; rfl) hca
              have hw := wanted_eq (ops := ops) inv.tmp o (by rw [← f1]; exact hcong.1)
              have ar := alloc_fact he inv.rel (inv.tmp.ev (fun _ => rfl) (fun _ => rfl) (fun _ => rfl)) hop hca hcong.2
                (ρ := fun x => match x with | .tmp t => tmps.getD t Go.undef | .const v => v | .global g => .pointer (some ⟨g, 0, none⟩) | .func f => .func (.func f) #[] #[]) (w := w)
              have bp := mono4 inv.mono p (by omega)
              have bp1 := mono4 inv.mono (p + 1) (by omega)
              obtain ⟨x1, x2⟩ := inv.pend p r hpq hrp hk hn
              obtain ⟨σ₁, w₁, y1, y2, y3, y4, y5, y6⟩ := ar.late inv.rel bp.1 bp.2.2.1 bp1.2.1 bp1.2.2.2 x1 x2
              refine finish y2 y3 y4 (opsim_of_run ho hw (by intro c hc; rw [hc] at hop; exact cOp_defer hop) y1) ?_
              intro p' r' h1 h2 h3 h4
              have hne : p' ≠ p := by rintro rfl; rw [hrp] at h2; cases h2; exact h4 (List.mem_cons_self ..)
              have hord : (S (p' + 1)).na ≤ (S p).na ∧ (S (p' + 1)).nm ≤ (S p).nm ∨ (S (p + 1)).na ≤ (S p').na ∧ (S (p + 1)).nm ≤ (S p').nm := by
                rcases Nat.lt_or_ge p' p with h9 | h9
                · exact .inl (inv.mono (p' + 1) p (by omega) (by omega))
                · exact .inr (inv.mono (p + 1) p' (by omega) (by omega))
              refine ⟨fun a h5 h6 h7 => ?_, fun m h5 h6 h7 => ?_⟩
              · rw [y5 a (by omega)]; exact h7
              · rw [y6 m (by omega)]; exact h7

end
end Go.Ab
end

noncomputable section
namespace Go.Ab

theorem Tr.sing_fuel {α : Type} (x : α) : ∀ (n f g k : Nat), k ≤ n → k ≤ f → k ≤ g → Tr.sing f k x = Tr.sing g k x := by
  intro n
  induction n with
  | zero =>
    intro f g k h _ _
    obtain rfl : k = 0 := by omega
    cases f <;> cases g <;> simp [Tr.sing_zero, Tr.sing_succ, beq_eq]
  | succ n ih =>
    intro f g k h hf hg
    by_cases h0 : k = 0
    · subst h0; cases f <;> cases g <;> simp [Tr.sing_zero, Tr.sing_succ, beq_eq]
    · cases f with
      | zero => omega
      | succ f =>
        cases g with
        | zero => omega
        | succ g =>
          simp only [Tr.sing_zero, Tr.sing_succ, beq_eq, h0, decide_false]
          rw [ih f g (k / 2) (by omega) (by omega) (by omega), ih f g (k / 2 - 1) (by omega) (by omega) (by omega)]

theorem Tr.sing_e {α : Type} (f k : Nat) (x : α) (h : k ≤ f) : Tr.sing f k x = (Tr.e : Tr α).set k x := Tr.sing_fuel x k f k k (Nat.le_refl _) h (Nat.le_refl _)

theorem Tr.set_e {α : Type} (k : Nat) (x : α) : (Tr.e : Tr α).set k x = (Tr.n .e none .e : Tr α).set k x := by
  show Tr.sing k k x = _
  cases k with
  | zero => simp [Tr.sing_zero, Tr.sing_succ, Tr.set_nil, Tr.set_node, beq_eq]
  | succ k =>
    simp only [Tr.sing_zero, Tr.sing_succ, Tr.set_nil, Tr.set_node, beq_eq]
    rw [Tr.sing_fuel x ((k + 1) / 2) k ((k + 1) / 2) ((k + 1) / 2) (Nat.le_refl _) (by omega) (Nat.le_refl _),
      Tr.sing_fuel x ((k + 1) / 2 - 1) k ((k + 1) / 2 - 1) ((k + 1) / 2 - 1) (Nat.le_refl _) (by omega) (Nat.le_refl _)]

theorem Tr.set_comm_n {α : Type} (x y : α) : ∀ (n k k' : Nat) (t : Tr α), k ≤ n → k' ≤ n → k ≠ k' → (t.set k x).set k' y = (t.set k' y).set k x := by
  intro n
  induction n with
  | zero => intro k k' t h h' hne; omega
  | succ n ih =>
    intro k k' t h h' hne
    have key : ∀ (l : Tr α) (v : Option α) (r : Tr α), ((Tr.n l v r).set k x).set k' y = ((Tr.n l v r).set k' y).set k x := by
      intro l v r
      by_cases h0 : k = 0
      · subst h0
        have h1 : k' ≠ 0 := fun e => hne e.symm
        by_cases h2 : k' % 2 = 1 <;> simp [Tr.set_nil, Tr.set_node, beq_eq, h1, h2]
      · by_cases h1 : k' = 0
        · subst h1
          by_cases h2 : k % 2 = 1 <;> simp [Tr.set_nil, Tr.set_node, beq_eq, h0, h2]
        · by_cases h2 : k % 2 = 1 <;> by_cases h3 : k' % 2 = 1
          · simp only [Tr.set_nil, Tr.set_node, beq_eq, h0, h1, h2, h3, decide_false, decide_true]
            rw [ih (k / 2) (k' / 2) l (by omega) (by omega) (by omega)]
          · simp [Tr.set_nil, Tr.set_node, beq_eq, h0, h1, h2, h3]
          · simp [Tr.set_nil, Tr.set_node, beq_eq, h0, h1, h2, h3]
          · simp only [Tr.set_nil, Tr.set_node, beq_eq, h0, h1, h2, h3, decide_false]
            rw [ih (k / 2 - 1) (k' / 2 - 1) r (by omega) (by omega) (by omega)]
    cases t with
    | n l v r => exact key l v r
    | e => rw [Tr.set_e k x, Tr.set_e k' y]; exact key _ _ _

theorem Tr.set_comm {α : Type} (t : Tr α) (x y : α) {k k' : Nat} (h : k ≠ k') : (t.set k x).set k' y = (t.set k' y).set k x :=
  Tr.set_comm_n x y (max k k') k k' t (by omega) (by omega) h

theorem setAll_set (l : List AV) : ∀ (t : Tr (Nat × AV)) (m i k : Nat) (x : Nat × AV), (k < i ∨ i + l.length ≤ k) → setAll (t.set k x) m i l = (setAll t m i l).set k x := by
  induction l with
  | nil => intro t m i k x _; rfl
  | cons v l ih =>
    intro t m i k x h
    simp only [setAll, List.length_cons] at h ⊢
    rw [Tr.set_comm t x (m, v) (by omega), ih _ m (i + 1) k x (by omega)]

theorem setAll_comm (l l' : List AV) : ∀ (t : Tr (Nat × AV)) (m m' i i' : Nat), (i + l.length ≤ i' ∨ i' + l'.length ≤ i) → setAll (setAll t m i l) m' i' l' = setAll (setAll t m' i' l') m i l := by
  induction l with
  | nil => intro t m m' i i' _; rfl
  | cons v l ih =>
    intro t m m' i i' h
    simp only [setAll, List.length_cons] at h ⊢
    rw [ih _ m m' (i + 1) i' (by omega), setAll_set l' t m' i' i _ (by omega)]

/-- What a row of writes is. -/
theorem wrN_eq {j : Nat} : ∀ {l : List AV} {A A' : Arr} {i : Nat}, wrN A j i l = some A' → A' = { A with cells := setAll A.cells j i l } ∧ (l = [] ∨ (j = A.ver ∧ (∀ v, v ∈ l → leaf v = true) ∧ A.lo ≤ i ∧ i + l.length ≤ A.n))
  | [], A, A', i, h => by simp [wrN] at h; subst h; exact ⟨rfl, .inl rfl⟩
  | v :: l, A, A', i, h => by
    simp only [wrN] at h
    split at h
    · rename_i A₁ hA
      simp only [Arr.wr, beq_eq, ltb_eq, ble_eq] at hA
      split at hA
      · rename_i hc
        simp at hc hA
        subst hA
        obtain ⟨h1, h2⟩ := wrN_eq h
        refine ⟨by rw [h1]; rfl, .inr ⟨hc.1, ?_, hc.2.2.2, ?_⟩⟩
        · intro u hu
          rcases List.mem_cons.1 hu with rfl | hu
          · exact hc.2.1
          · rcases h2 with rfl | h2
            · simp at hu
            · exact h2.2.1 u hu
        · rcases h2 with rfl | h2
          · simp; omega
          · have := h2.2.2.2; simp only [List.length_cons] at this ⊢; omega
      · cases hA
    · cases h

theorem wrN_of {j : Nat} : ∀ {l : List AV} {A : Arr} {i : Nat}, (l = [] ∨ (j = A.ver ∧ (∀ v, v ∈ l → leaf v = true) ∧ A.lo ≤ i ∧ i + l.length ≤ A.n)) → wrN A j i l = some { A with cells := setAll A.cells j i l }
  | [], A, i, _ => rfl
  | v :: l, A, i, h => by
    rcases h with h | ⟨h1, h2, h3, h4⟩
    · cases h
    · simp only [List.length_cons] at h4
      have hc : (Nat.beq j A.ver && (leaf v && (ltb i A.n && Nat.ble A.lo i))) = true := by
        simp [beq_eq, ltb_eq, ble_eq, h1, h2 v (List.mem_cons_self ..), h3]; omega
      simp only [wrN, Arr.wr, hc]
      exact wrN_of (.inr ⟨h1, fun u hu => h2 u (List.mem_cons_of_mem _ hu), by simp only; omega, by simp only; omega⟩)

theorem AS.wrN_eq {s s' : AS} {a j i : Nat} {l : List AV} (h : s.wrN a j i l = some s') :
    ∃ A, s.arrs.get a = some A ∧ s' = { s with arrs := s.arrs.set a { A with cells := setAll A.cells j i l } } ∧ (l = [] ∨ (j = A.ver ∧ (∀ v, v ∈ l → leaf v = true) ∧ A.lo ≤ i ∧ i + l.length ≤ A.n)) := by
  simp only [AS.wrN] at h
  split at h
  · rename_i A hA
    split at h
    · rename_i A' hA'
      obtain ⟨h1, h2⟩ := Ab.wrN_eq hA'
      cases h; subst h1
      exact ⟨A, hA, rfl, h2⟩
    · cases h
  · cases h

/-- Two rows of writes that do not meet. -/
theorem AS.wrN_comm {s s₁ s₂ s₃ : AS} {a a' j j' i i' : Nat} {l l' : List AV} (h1 : s.wrN a j i l = some s₁) (h2 : s₁.wrN a' j' i' l' = some s₂) (h3 : s.wrN a' j' i' l' = some s₃)
    (hd : a ≠ a' ∨ i + l.length ≤ i' ∨ i' + l'.length ≤ i) : s₃.wrN a j i l = some s₂ := by
  obtain ⟨A, e1, e2, e3⟩ := AS.wrN_eq h1
  obtain ⟨A', f1, f2, f3⟩ := AS.wrN_eq h3
  obtain ⟨A₂, g1, g2, g3⟩ := AS.wrN_eq h2
  subst e2 f2 g2
  by_cases ha : a = a'
  · subst ha
    rw [e1] at f1; cases f1
    simp only [Tr.get_set_same, Option.some.injEq] at g1
    subst g1
    have hd' : i + l.length ≤ i' ∨ i' + l'.length ≤ i := hd.resolve_left (fun h => h rfl)
    simp only [AS.wrN, Tr.get_set_same]
    rw [wrN_of (A := { A with cells := setAll A.cells j' i' l' }) e3]
    simp only [Tr.set_set, Option.some.injEq]
    rw [setAll_comm l l' A.cells j j' i i' hd']
  · simp only at g1
    rw [Tr.get_set_ne _ _ (fun h => ha h.symm), f1] at g1; cases g1
    simp only [AS.wrN]
    rw [Tr.get_set_ne _ _ ha, e1]
    simp only
    rw [wrN_of e3]
    simp only [Option.some.injEq]
    rw [Tr.set_comm _ _ _ ha]

theorem evOper_plain {E : Env} {cl : Oracle} {o : EOper} {T : Tr AV} {s : AS} (h : o.guard = none) : evOper E cl o T s = evOp E cl o.op T s := by
  unfold evOper; rw [h]; rfl

/-- Two stores that do not meet, the other way round. -/
theorem stores_comm {E : Env} {cl : Oracle} {x y : EOper} {T : Tr AV} {s s₁ s₂ s₃ : AS} {v v' u : AV} {p q : Nat × Nat × Nat} (hx : isStore x.op = true) (hy : isStore y.op = true) (gx : x.guard = none) (gy : y.guard = none)
    (h1 : evOper E cl x T s = some (v, s₁)) (h2 : evOper E cl y T s₁ = some (v', s₂)) (h3 : evOper E cl y T s = some (u, s₃)) (tx : target T x.op = some p) (ty : target T y.op = some q) (hd : apart p q = true) :
    evOper E cl x T s₃ = some (v, s₂) ∧ u = v' := by
  rw [evOper_plain gx] at h1 ⊢
  rw [evOper_plain gy] at h2 h3
  obtain ⟨d, g, opx⟩ := x
  obtain ⟨d', g', opy⟩ := y
  simp only at *
  cases opx <;> simp [isStore] at hx
  cases opy <;> simp [isStore] at hy
  rename_i n a b n' a' b'
  simp only [evOp] at h1 h2 h3 ⊢
  simp only [target] at tx ty
  split at tx
  · rename_i a₀ j₀ o₀ ha
    cases tx
    split at ty
    · rename_i a₁ j₁ o₁ ha'
      cases ty
      simp only [ha] at h1 ⊢
      simp only [ha'] at h2 h3
      split at h1
      · rename_i hl
        split at h1
        · rename_i t₁ ht₁
          cases h1
          split at h2
          · rename_i hl'
            split at h2
            · rename_i t₂ ht₂
              cases h2
              split at h3
              · split at h3
                · rename_i t₃ ht₃
                  cases h3
                  have key := AS.wrN_comm ht₁ ht₂ ht₃ (by
                    simp only [beq_eq, decide_eq_true_eq] at hl hl'
                    simp only [apart, beq_eq, ble_eq, Bool.or_eq_true, Bool.not_eq_true', decide_eq_true_eq, decide_eq_false_iff_not] at hd
                    rw [hl, hl']; exact hd)
                  simp [hl, key]
                · cases h3
              · cases h3
            · cases h2
          · cases h2
        · cases h1
      · cases h1
    · cases ty
  · cases tx

end Go.Ab
end

noncomputable section
namespace Go.Ab

theorem sameL_of {l m : List AV} (h1 : ∀ x y, x ∈ l → same1 x y = true → x = y) : sameL l m = true → l = m := by
  induction l generalizing m with
  | nil => intro h; cases m <;> simp [sameL] at h ⊢
  | cons x l ih =>
    intro h
    cases m with
    | nil => simp [sameL] at h
    | cons y m =>
      simp only [sameL] at h
      split at h
      · rename_i hxy
        rw [h1 x y (List.mem_cons_self ..) hxy, ih (fun a b ha => h1 a b (List.mem_cons_of_mem _ ha)) h]
      · cases h

theorem bytes_eq {a b : ByteArray} (h : (a.toList == b.toList) = true) : a = b := by
  have h := eq_of_beq h
  rw [ByteArray.toList_eq, ByteArray.toList_eq] at h
  obtain ⟨⟨x⟩⟩ := a
  obtain ⟨⟨y⟩⟩ := b
  simp only at h
  rw [h]

theorem same1_eq {x y : AV} (h : same1 x y = true) : x = y := by
  cases x <;> cases y <;> first
    | rfl
    | (simp [same1] at h; done)
    | (simp only [same1, beq_eq, Bool.and_eq_true, decide_eq_true_eq, beq_iff_eq] at h; simp_all; done)
    | skip
  · simp only [same1, Bool.and_eq_true, decide_eq_true_eq] at h; rw [same_kind h.1, h.2]
  · simp only [same1] at h; rw [bytes_eq h]
  · rename_i a j o l c a' j' o' l' c'
    cases c <;> cases c' <;> simp [same1, beq_eq] at h
    · simp [h]
    · simp [h]
  · rename_i f a b g c d
    cases a <;> cases b <;> cases c <;> cases d <;> simp [same1, beq_eq] at h
    simp [h]

theorem same_eq {x y : AV} (h : same x y = true) : x = y := by
  unfold same at h
  split at h
  · rw [sameL_of (fun _ _ _ => same1_eq) h]
  · rw [sameL_of (fun _ _ _ => same1_eq) h]
  · simp only [beq_eq, Bool.and_eq_true, decide_eq_true_eq] at h
    rw [h.1, sameL_of (fun _ _ _ => same1_eq) h.2.1, sameL_of (fun _ _ _ => same1_eq) h.2.2]
  · exact same1_eq h

theorem recheck_spec {E : Env} {cl : Oracle} {T : Tr AV} {s : AS} : ∀ {rc : List EOper}, recheck E cl T s rc = true → ∀ o, o ∈ rc → ∃ d w s', o.dst = some d ∧ T.get d = some w ∧ evOper E cl o T s = some (w, s')
  | [], _, o, ho => by simp at ho
  | x :: l, h, o, ho => by
    simp only [recheck] at h
    split at h
    · rename_i v s' hv
      split at h
      · rename_i d hd
        split at h
        · rename_i w hw
          split at h
          · rename_i hs
            rcases List.mem_cons.1 ho with rfl | ho
            · exact ⟨d, w, s', hd, hw, by rw [← same_eq hs]; exact hv⟩
            · exact recheck_spec h o ho
          · cases h
        · cases h
      · cases h
    · cases h

/-- What holds of a load that may come behind a change. -/
def Late (done : List RI) (z r : RI) : Prop := (∀ y, y = r ∨ y ∈ done → y.i = z.i ∨ bfr y.i z = true ∨ noWrite z y = true) ∧ ∃ d, z.o.dst = some d ∧ d ∉ z.rd

theorem rcGo_spec {all : List RI} : ∀ {l : List RI} {r : RI} {rc : List EOper}, rcGo all l r = some rc → ∀ z, z ∈ l → z.cls = .read → bfr z.i r = false → z.o ∈ rc ∧ Late all z r
  | [], _, _, _, z, hz, _, _ => by simp at hz
  | x :: l, r, rc, h, z, hz, hc, hb => by
    simp only [rcGo] at h
    split at h
    · cases h
    · rename_i rc' hrc
      split at h
      · rename_i hx
        cases h
        rcases List.mem_cons.1 hz with rfl | hz
        · simp [hc, hb] at hx
        · exact rcGo_spec hrc z hz hc hb
      · split at h
        · rename_i hall
          cases h
          rcases List.mem_cons.1 hz with rfl | hz
          · refine ⟨List.mem_cons_self .., ?_⟩
            rw [Bool.and_eq_true] at hall
            obtain ⟨h1, h2⟩ := hall
            rw [List.all_eq_true] at h1
            refine ⟨fun y hy => ?_, ?_⟩
            · have := h1 y (by simpa using hy)
              simpa using this
            · split at h2
              · rename_i d hd
                refine ⟨d, hd, ?_⟩
                simpa using h2
              · cases h2
          · obtain ⟨k1, k2⟩ := rcGo_spec hrc z hz hc hb
            exact ⟨List.mem_cons_of_mem _ k1, k2⟩
        · cases h

/-- A row of operations carried out, so far. -/
structure Pre (E : Env) (cl : Oracle) (L : List RI) (T : Nat → Tr AV) (S : Nat → AS) (V : Nat → AV) : Prop where
  ev : ∀ (p : Nat) (r : RI), L[p]? = some r → evOper E cl r.o (T p) (S p) = some (V p, S (p + 1)) ∧ T (p + 1) = putD (T p) r.o.dst (V p)
  asap : ∀ (p c : Nat) (r rc : RI), L[p]? = some r → L[c]? = some rc → c < p → rc.cls = .change → (r.cls = .read ∨ r.cls = .alloc) → bfr rc.i r = true
  rchk : ∀ (p c : Nat) (z rc : RI), p < c → L[p]? = some z → L[c]? = some rc → z.cls = .read → rc.cls = .change → bfr z.i rc = false → ∃ s, evOper E cl z.o (T p) (S (c + 1)) = some (V p, s)
  inj : ∀ (p p' : Nat) (r r' : RI), L[p]? = some r → L[p']? = some r' → r.i = r'.i → p = p'
  pos : ∀ (p p' : Nat) (r r' : RI), L[p]? = some r → L[p']? = some r' → bfr r.i r' = true → p < p'

theorem get_snoc {L : List RI} {r x : RI} {p : Nat} (h : (L ++ [r])[p]? = some x) : (p < L.length ∧ L[p]? = some x) ∨ (p = L.length ∧ x = r) := by
  rcases Nat.lt_trichotomy p L.length with h1 | h1 | h1
  · rw [List.getElem?_append_left h1] at h; exact .inl ⟨h1, h⟩
  · subst h1; simp at h; exact .inr ⟨rfl, h.symm⟩
  · rw [List.getElem?_eq_none (by simp; omega)] at h; cases h

theorem Pre.snoc {E : Env} {cl : Oracle} {L : List RI} {T : Nat → Tr AV} {S : Nat → AS} {V : Nat → AV} (h : Pre E cl L T S V) {r : RI} {v : AV} {s₁ : AS}
    (hn : ∀ z, z ∈ L → z.i ≠ r.i) (hb : ∀ z, z ∈ L → bfr r.i z = false) (hbb : bfr r.i r = false) (hev : evOper E cl r.o (T L.length) (S L.length) = some (v, s₁))
    (has : (r.cls = .read ∨ r.cls = .alloc) → ∀ c, c ∈ L → c.cls = .change → bfr c.i r = true)
    (hrc : r.cls = .change → ∀ (p : Nat) (z : RI), L[p]? = some z → z.cls = .read → bfr z.i r = false → ∃ s, evOper E cl z.o (T p) s₁ = some (V p, s)) :
    ∃ T' S' V', Pre E cl (L ++ [r]) T' S' V' ∧ (∀ p, p ≤ L.length → T' p = T p ∧ S' p = S p) ∧ (∀ p, p < L.length → V' p = V p) ∧
      T' (L.length + 1) = putD (T L.length) r.o.dst v ∧ S' (L.length + 1) = s₁ ∧ V' L.length = v := by
  refine ⟨fun p => if p ≤ L.length then T p else putD (T L.length) r.o.dst v, fun p => if p ≤ L.length then S p else s₁, fun p => if p < L.length then V p else v, ?_, ?_, ?_, ?_, ?_, ?_⟩
  · constructor
    · intro p x hx
      rcases get_snoc hx with ⟨h1, h2⟩ | ⟨rfl, rfl⟩
      · obtain ⟨e1, e2⟩ := h.ev p x h2
        rw [if_pos (Nat.le_of_lt h1), if_pos (Nat.le_of_lt h1), if_pos h1, if_pos (show p + 1 ≤ L.length from h1), if_pos (show p + 1 ≤ L.length from h1)]
        exact ⟨e1, e2⟩
      · rw [if_pos (Nat.le_refl _), if_pos (Nat.le_refl _), if_neg (Nat.lt_irrefl _), if_neg (by omega), if_neg (by omega)]
        exact ⟨hev, rfl⟩
    · intro p c x y hx hy hc h1 h2
      rcases get_snoc hy with ⟨k1, k2⟩ | ⟨rfl, rfl⟩
      · rcases get_snoc hx with ⟨m1, m2⟩ | ⟨rfl, rfl⟩
        · exact h.asap p c x y m2 k2 hc h1 h2
        · exact has h2 y (List.mem_of_getElem? k2) h1
      · have := lt_of_get hx; simp at this; omega
    · intro p c z y hpc hz hy h1 h2 h3
      have hz' : p < L.length ∧ L[p]? = some z := by
        rcases get_snoc hz with k | ⟨rfl, rfl⟩
        · exact k
        · have := lt_of_get hy; simp at this; omega
      rw [if_pos (Nat.le_of_lt hz'.1), if_pos hz'.1]
      rcases get_snoc hy with ⟨k1, k2⟩ | ⟨rfl, rfl⟩
      · rw [if_pos (show c + 1 ≤ L.length from k1)]
        exact h.rchk p c z y hpc hz'.2 k2 h1 h2 h3
      · rw [if_neg (by omega)]
        exact hrc h2 p z hz'.2 h1 h3
    · intro p p' x y hx hy he
      rcases get_snoc hx with ⟨k1, k2⟩ | ⟨rfl, rfl⟩ <;> rcases get_snoc hy with ⟨m1, m2⟩ | ⟨rfl, rfl⟩
      · exact h.inj p p' x y k2 m2 he
      · exact absurd he (hn x (List.mem_of_getElem? k2))
      · exact absurd he.symm (hn y (List.mem_of_getElem? m2))
      · rfl
    · intro p p' x y hx hy he
      rcases get_snoc hx with ⟨k1, k2⟩ | ⟨rfl, rfl⟩ <;> rcases get_snoc hy with ⟨m1, m2⟩ | ⟨rfl, rfl⟩
      · exact h.pos p p' x y k2 m2 he
      · exact k1
      · rw [hb y (List.mem_of_getElem? m2)] at he; cases he
      · rw [hbb] at he; cases he
  · intro p hp; simp [hp]
  · intro p hp; simp [hp]
  · simp only; rw [if_neg (by omega)]
  · simp only; rw [if_neg (by omega)]
  · simp

/-- A temporary that is not written stays. -/
theorem Pre.keep {E : Env} {cl : Oracle} {L : List RI} {T : Nat → Tr AV} {S : Nat → AS} {V : Nat → AV} (h : Pre E cl L T S V) {t : Nat} : ∀ (n p : Nat), p + n ≤ L.length →
    (∀ (k : Nat) (y : RI), p ≤ k → k < p + n → L[k]? = some y → y.o.dst ≠ some t) → (EO.t t).ev (T (p + n)) = (EO.t t).ev (T p) := by
  intro n
  induction n with
  | zero => intro p _ _; rfl
  | succ n ih =>
    intro p hp hk
    have hlt : p + n < L.length := by omega
    rw [show p + (n + 1) = p + n + 1 from rfl, (h.ev (p + n) _ (List.getElem?_eq_getElem hlt)).2, ev_putD, if_neg (hk (p + n) _ (by omega) (by omega) (List.getElem?_eq_getElem hlt))]
    exact ih p (by omega) fun k y h1 h2 => hk k y h1 (by omega)

/-- A load behind a change: what it gave. -/
theorem Pre.again {E : Env} {cl : Oracle} {L : List RI} {T : Nat → Tr AV} {S : Nat → AS} {V : Nat → AV} (h : Pre E cl L T S V) {done : List RI} (hd : ∀ z, z ∈ L ↔ z ∈ done) {r : RI} (hn : ∀ z, z ∈ L → z.i ≠ r.i) (hbr : ∀ z, z ∈ L → bfr r.i z = false) {v : AV} {rc : List EOper} {s₁ : AS}
    (hrd : ∀ z, z ∈ L → z.rd = tmpsOper z.o) (hrc : rcOf done r = some rc) (hre : recheck E cl (putD (T L.length) r.o.dst v) s₁ rc = true) :
    ∀ (p : Nat) (z : RI), L[p]? = some z → z.cls = .read → bfr z.i r = false → ∃ s, evOper E cl z.o (T p) s₁ = some (V p, s) := by
  intro p z hz hc hb
  have hzL := List.mem_of_getElem? hz
  obtain ⟨k1, k2, d, k3, k4⟩ := rcGo_spec hrc z ((hd z).1 hzL) hc hb
  obtain ⟨d', w, s', m1, m2, m3⟩ := recheck_spec hre _ k1
  rw [k3] at m1; cases m1
  have hp := lt_of_get hz
  have hno : ∀ (k : Nat) (y : RI), p + 1 ≤ k → k < L.length → L[k]? = some y → noWrite z y = true := by
    intro k y h1 h2 h3
    rcases k2 y (.inr ((hd y).1 (List.mem_of_getElem? h3))) with h4 | h4 | h4
    · have := h.inj k p y z h3 hz h4; omega
    · have := h.pos k p y z h3 hz h4; omega
    · exact h4
  have hnr : noWrite z r = true := by
    rcases k2 r (.inl rfl) with h4 | h4 | h4
    · exact absurd h4.symm (hn z hzL)
    · rw [hbr z hzL] at h4; cases h4
    · exact h4
  have nw : ∀ (y : RI) (t : Nat), noWrite z y = true → (t ∈ z.rd ∨ t = d) → y.o.dst ≠ some t := by
    intro y t hw ht he
    simp only [noWrite, he, k3, Bool.and_eq_true, Bool.not_eq_true', bne_iff_ne, ne_eq, Option.some.injEq] at hw
    rcases ht with ht | ht
    · have := hw.1; rw [List.contains_eq_mem] at this; simp [ht] at this
    · exact hw.2 ht.symm
  have e1 : ∀ t, t ∈ z.rd → (EO.t t).ev (putD (T L.length) r.o.dst v) = (EO.t t).ev (T p) := by
    intro t ht
    rw [ev_putD, if_neg (nw r t hnr (.inl ht))]
    have := h.keep (t := t) (L.length - p) p (by omega) (fun k y h1 h2 h3 => by
      by_cases hkp : k = p
      · subst hkp; rw [hz] at h3; cases h3
        rw [k3]; intro he; cases he; exact k4 ht
      · exact nw y t (hno k y (by omega) (by omega) h3) (.inl ht))
    rw [show p + (L.length - p) = L.length from by omega] at this
    exact this
  have e2 : V p = w := by
    have f1 : (EO.t d).ev (putD (T L.length) r.o.dst v) = w := by simp only [EO.ev, m2]
    rw [ev_putD, if_neg (nw r d hnr (.inr rfl))] at f1
    have f2 := h.keep (t := d) (L.length - (p + 1)) (p + 1) (by omega) (fun k y h1 h2 h3 => nw y d (hno k y h1 (by omega) h3) (.inr rfl))
    rw [show p + 1 + (L.length - (p + 1)) = L.length from by omega, (h.ev p z hz).2, ev_putD, if_pos k3] at f2
    rw [← f2, f1]
  refine ⟨s', ?_⟩
  rw [e2, ← m3]
  exact (evOper_congr fun t ht => e1 t (by rw [hrd z hzL]; exact ht)).symm

end Go.Ab
end

noncomputable section
namespace Go.Ab

def ChainL (dec : RI → RI → Prop) (L : List RI) : Prop :=
  ∀ (p p' : Nat) (c c' : RI), L[p]? = some c → L[p']? = some c' → p < p' → c.cls = .change → c'.cls = .change → bfr c.i c' = true ∨ dec c c'

theorem ChainL.snoc {dec : RI → RI → Prop} {L : List RI} (h : ChainL dec L) {r : RI} (hr : r.cls = .change → ∀ c, c ∈ L → c.cls = .change → bfr c.i r = true ∨ dec c r) : ChainL dec (L ++ [r]) := by
  intro p p' c c' h1 h2 hlt k1 k2
  rcases get_snoc h2 with ⟨m1, m2⟩ | ⟨rfl, rfl⟩
  · rcases get_snoc h1 with ⟨n1, n2⟩ | ⟨rfl, rfl⟩
    · exact h p p' c c' n2 m2 hlt k1 k2
    · omega
  · rcases get_snoc h1 with ⟨n1, n2⟩ | ⟨rfl, rfl⟩
    · exact hr k2 c (List.mem_of_getElem? n2) k1
    · omega

theorem behind_spec {done : List RI} {r : RI} (h : behind done r = true) : ∀ c, c ∈ done → c.cls = .change → bfr c.i r = true := by
  intro c hc hk
  unfold behind at h
  rw [List.all_eq_true] at h
  have := h c hc
  simpa [hk] using this

structure At (P : Program) (ops : Array Oper) (done : List RI) (r : RI) : Prop where
  hn : ∀ z, z ∈ done → z.i ≠ r.i
  hb : ∀ z, z ∈ done → bfr r.i z = false
  hbb : bfr r.i r = false

theorem GoodL.at {P : Program} {ops : Array Oper} {done l : List RI} {r : RI} (h : GoodL P ops (done ++ r :: l)) : At P ops done r := by
  obtain ⟨o, p, _, _, _, h4⟩ := h done r l rfl
  refine ⟨h4, fun z hz => ?_, ?_⟩
  · cases hb : bfr r.i z with
    | false => rfl
    | true =>
      obtain ⟨A, B, rfl⟩ := List.append_of_mem hz
      obtain ⟨q, hq1, hq2⟩ := h.ahead A.length A z (B ++ r :: l) rfl (by simp) _ hb
      exact absurd hq2 (h4 q (by simp [hq1]))
  · cases hb : bfr r.i r with
    | false => rfl
    | true =>
      obtain ⟨q, hq1, hq2⟩ := h.ahead done.length done r l rfl rfl _ hb
      exact absurd hq2 (h4 q hq1)

theorem GoodL.fact {P : Program} {ops : Array Oper} {L : List RI} (h : GoodL P ops L) {r : RI} (hr : r ∈ L) : ∃ o, ops[r.i]? = some o ∧ r.o = cOper P ops o ∧ r.cls = clsOf r.o.op ∧ r.rd = tmpsOper r.o := by
  obtain ⟨A, B, rfl⟩ := List.append_of_mem hr
  obtain ⟨o, p, h1, _, h3, _⟩ := h A r B rfl
  exact ⟨o, h1, by rw [h3]; rfl, by rw [h3]; rfl, by rw [h3]; rfl⟩

theorem evStep_two {E : Env} {cl : Oracle} {x y : EOper} {rc : List EOper} {T T' : Tr AV} {s s' : AS} (h : evStep E cl (.two x y rc) T s = some (T', s')) :
    ∃ vx s₁ vy u s₃ p q, evOper E cl x T s = some (vx, s₁) ∧ evOper E cl y T s₁ = some (vy, s') ∧ evOper E cl y T s = some (u, s₃) ∧ target T x.op = some p ∧ target T y.op = some q ∧ apart p q = true ∧
      recheck E cl T s₁ rc = true ∧ recheck E cl T s' rc = true ∧ recheck E cl T s₃ rc = true ∧ T' = T := by
  simp only [evStep] at h
  split at h
  · cases h
  · rename_i vx s₁ h1
    split at h
    · cases h
    · rename_i vy s₂ h2
      split at h
      · cases h
      · rename_i u s₃ h3
        split at h
        · cases h
        · rename_i p hp
          split at h
          · cases h
          · rename_i q hq
            split at h
            · rename_i hc
              cases h
              simp only [Bool.and_eq_true] at hc
              exact ⟨vx, s₁, vy, u, s₃, p, q, h1, h2, h3, hp, hq, hc.1, hc.2.1, hc.2.2.1, hc.2.2.2, rfl⟩
            · cases h

theorem steps_pre {P : Program} {E : Env} {cl : Oracle} {ops : Array Oper} {dec : RI → RI → Prop} (hdec : ∀ x y : RI, x.i ≠ y.i → dec x y ∨ dec y x) :
    ∀ (n : Nat) (rest done : List RI) (st : List EStep) (T : Tr AV) (s : AS) (T' : Tr AV) (s' : AS), rest.length ≤ n → stepsOf done rest = some st → evSteps E cl st T s = some (T', s') → GoodL P ops (done ++ rest) →
      ∀ (L₁ : List RI) (T₁ : Nat → Tr AV) (S₁ : Nat → AS) (V₁ : Nat → AV), Pre E cl L₁ T₁ S₁ V₁ → (∀ z, z ∈ L₁ ↔ z ∈ done) → L₁.length = done.length → T₁ L₁.length = T → S₁ L₁.length = s → ChainL dec L₁ →
      ∃ (L₂ : List RI) (T₂ : Nat → Tr AV) (S₂ : Nat → AS) (V₂ : Nat → AV), Pre E cl L₂ T₂ S₂ V₂ ∧ (∀ z, z ∈ L₂ ↔ z ∈ done ++ rest) ∧ L₂.length = (done ++ rest).length ∧ T₂ L₂.length = T' ∧ S₂ L₂.length = s' ∧ T₂ 0 = T₁ 0 ∧ S₂ 0 = S₁ 0 ∧ ChainL dec L₂ := by
  intro n
  induction n with
  | zero =>
    intro rest done st T s T' s' hlen hst hev _ L₁ T₁ S₁ V₁ pre hmem hl hT hS hch
    obtain rfl : rest = [] := List.eq_nil_of_length_eq_zero (by omega)
    simp only [stepsOf] at hst; cases hst
    simp only [evSteps] at hev; cases hev
    exact ⟨L₁, T₁, S₁, V₁, pre, by simpa using hmem, by simpa using hl, hT, hS, rfl, rfl, hch⟩
  | succ n ih =>
    intro rest done st T s T' s' hlen hst hev hg L₁ T₁ S₁ V₁ pre hmem hl hT hS hch
    cases rest with
    | nil =>
      simp only [stepsOf] at hst; cases hst
      simp only [evSteps] at hev; cases hev
      exact ⟨L₁, T₁, S₁, V₁, pre, by simpa using hmem, by simpa using hl, hT, hS, rfl, rfl, hch⟩
    | cons r l =>
      have at_ := hg.at
      have hrd : ∀ z, z ∈ L₁ → z.rd = tmpsOper z.o := fun z hz => by
        obtain ⟨o, _, _, _, h4⟩ := hg.fact (r := z) (List.mem_append_left _ ((hmem z).1 hz)); exact h4
      have hn : ∀ z, z ∈ L₁ → z.i ≠ r.i := fun z hz => at_.hn z ((hmem z).1 hz)
      have hb : ∀ z, z ∈ L₁ → bfr r.i z = false := fun z hz => at_.hb z ((hmem z).1 hz)
      simp only [List.length_cons] at hlen
      -- one operation more, and on
      have go : ∀ (rc : List EOper) (st' : List EStep), st = .one r.o rc :: st' → stepsOf (done ++ [r]) l = some st' →
          ((r.cls = .read ∨ r.cls = .alloc ∨ r.cls = .change) → behind done r = true) → (r.cls = .change → rcOf done r = some rc) →
          ∃ (L₂ : List RI) (T₂ : Nat → Tr AV) (S₂ : Nat → AS) (V₂ : Nat → AV), Pre E cl L₂ T₂ S₂ V₂ ∧ (∀ z, z ∈ L₂ ↔ z ∈ done ++ r :: l) ∧ L₂.length = (done ++ r :: l).length ∧ T₂ L₂.length = T' ∧ S₂ L₂.length = s' ∧ T₂ 0 = T₁ 0 ∧ S₂ 0 = S₁ 0 ∧ ChainL dec L₂ := by
        intro rc st' hst' hl' hbeh hrc
        subst hst'
        simp only [evSteps] at hev
        split at hev
        · rename_i Tn sn hone
          obtain ⟨v, h1, h2, h3⟩ := evStep_one hone
          subst hT hS
          obtain ⟨T₂, S₂, V₂, k1, k2, k3, k4, k5, k6⟩ := pre.snoc hn hb at_.hbb h1
            (fun hc c hcm hcc => behind_spec (hbeh (by rcases hc with hc | hc <;> simp [hc])) c ((hmem c).1 hcm) hcc)
            (fun hc => pre.again hmem hn hb hrd (hrc hc) (h2 ▸ h3))
          obtain ⟨L₃, T₃, S₃, V₃, m1, m2, m3, m4, m5, m6, m7, m8⟩ := ih l (done ++ [r]) st' Tn sn T' s' (by omega) hl' hev (by simpa using hg) (L₁ ++ [r]) T₂ S₂ V₂ k1
            (by intro z; simp [hmem z]) (by simp [hl]) (by simp [k4, h2]) (by simp [k5])
            (hch.snoc fun hc c hcm hcc => .inl (behind_spec (hbeh (by simp [hc])) c ((hmem c).1 hcm) hcc))
          exact ⟨L₃, T₃, S₃, V₃, m1, by intro z; rw [m2 z]; simp, by rw [m3]; simp, m4, m5, by rw [m6, (k2 0 (Nat.zero_le _)).1], by rw [m7, (k2 0 (Nat.zero_le _)).2], m8⟩
        · cases hev
      cases hcls : r.cls with
      | pure =>
        unfold stepsOf at hst
        simp only [hcls] at hst
        split at hst
        · rename_i st' hst'; cases hst
          exact go [] st' rfl hst' (by simp [hcls]) (by simp [hcls])
        · cases hst
      | read =>
        unfold stepsOf at hst
        simp only [hcls] at hst
        split at hst
        · rename_i hbe
          split at hst
          · rename_i st' hst'; cases hst
            exact go [] st' rfl hst' (fun _ => hbe) (by simp [hcls])
          · cases hst
        · cases hst
      | alloc =>
        unfold stepsOf at hst
        simp only [hcls] at hst
        split at hst
        · rename_i hbe
          split at hst
          · rename_i st' hst'; cases hst
            exact go [] st' rfl hst' (fun _ => hbe) (by simp [hcls])
          · cases hst
        · cases hst
      | change =>
        unfold stepsOf at hst
        simp only [hcls] at hst
        split at hst
        · cases hst
        · rename_i hbe
          split at hst
          · split at hst
            · rename_i rc hrc; cases hst
              exact go rc [] rfl (by simp [stepsOf]) (fun _ => hbe) (fun _ => hrc)
            · cases hst
          · rename_i y l'
            split at hst
            · rename_i hpair
              simp only [Bool.and_eq_true, decide_eq_true_eq, Bool.not_eq_true'] at hpair
              obtain ⟨hyc, hyr⟩ := hpair
              split at hst
              · rename_i hok
                rw [Bool.and_eq_true] at hok
                obtain ⟨hok, hby⟩ := hok
                split at hst
                · rename_i rc st' hrc hst'
                  cases hst
                  simp only [evSteps] at hev
                  split at hev
                  · rename_i Tn sn htwo
                    obtain ⟨vx, s₁, vy, u, s₃, p, q, e1, e2, e3, e4, e5, e6, e7, e8, e9, e10⟩ := evStep_two htwo
                    subst e10
                    simp only [pairOk, Bool.and_eq_true, Option.isNone_iff_eq_none, List.all_eq_true, Bool.or_eq_true, decide_eq_true_eq, beq_iff_eq] at hok
                    obtain ⟨⟨o1, o2⟩, ⟨o3, o4⟩, ⟨o5, o6⟩, o7⟩ := hok
                    subst hT hS
                    have hgy : GoodL P ops ((done ++ [r]) ++ y :: l') := by simpa using hg
                    have aty := hgy.at
                    have hny : ∀ z, z ∈ L₁ → z.i ≠ y.i := fun z hz => aty.hn z (by simp [(hmem z).1 hz])
                    have hyb : ∀ z, z ∈ L₁ → bfr y.i z = false := fun z hz => aty.hb z (by simp [(hmem z).1 hz])
                    have hry : r.i ≠ y.i := aty.hn r (by simp)
                    have hyr' : bfr y.i r = false := aty.hb r (by simp)
                    -- the loads, behind either or both
                    have rd : ∀ sx, recheck E cl (T₁ L₁.length) sx rc = true → ∀ (k : Nat) (z : RI), L₁[k]? = some z → z.cls = .read → bfr z.i r = false → ∃ s'', evOper E cl z.o (T₁ k) sx = some (V₁ k, s'') := fun sx hsx =>
                      pre.again (r := r) (v := .undef) hmem hn hb hrd hrc (by rw [o3]; exact hsx)
                    have same_bf : ∀ z, z ∈ L₁ → z.cls = .read → bfr z.i y = false → bfr z.i r = false := by
                      intro z hz hc hz'
                      rcases o7 z (List.mem_append_left _ ((hmem z).1 hz)) with h | h
                      · rw [hc] at h; cases h
                      · rw [h.1]; exact hz'
                    obtain ⟨c1, _⟩ := stores_comm o1 o2 o5 o6 e1 e2 e3 e4 e5 e6
                    have chr : ∀ c, c ∈ L₁ → c.cls = .change → bfr c.i r = true := fun c hc hk => behind_spec hbe c ((hmem c).1 hc) hk
                    have chy : ∀ c, c ∈ L₁ → c.cls = .change → bfr c.i y = true := fun c hc hk => behind_spec hby c ((hmem c).1 hc) hk
                    have fin : ∀ (L₂ : List RI) (T₂ : Nat → Tr AV) (S₂ : Nat → AS) (V₂ : Nat → AV), Pre E cl L₂ T₂ S₂ V₂ → (∀ z, z ∈ L₂ ↔ z ∈ done ++ [r, y]) → L₂.length = L₁.length + 2 → T₂ L₂.length = T₁ L₁.length → S₂ L₂.length = sn →
                        T₂ 0 = T₁ 0 → S₂ 0 = S₁ 0 → ChainL dec L₂ →
                        ∃ (L₂ : List RI) (T₂ : Nat → Tr AV) (S₂ : Nat → AS) (V₂ : Nat → AV), Pre E cl L₂ T₂ S₂ V₂ ∧ (∀ z, z ∈ L₂ ↔ z ∈ done ++ r :: y :: l') ∧ L₂.length = (done ++ r :: y :: l').length ∧ T₂ L₂.length = T' ∧ S₂ L₂.length = s' ∧ T₂ 0 = T₁ 0 ∧ S₂ 0 = S₁ 0 ∧ ChainL dec L₂ := by
                      intro L₂ T₂ S₂ V₂ h1 h2 h3 h4 h5 h6 h7 h8
                      obtain ⟨L₃, T₃, S₃, V₃, m1, m2, m3, m4, m5, m6, m7, m8⟩ := ih l' (done ++ [r, y]) st' _ sn T' s' (by simp at hlen; omega) hst' hev (by simpa using hg) L₂ T₂ S₂ V₂ h1 h2 (by rw [h3, hl]; simp) h4 h5 h8
                      exact ⟨L₃, T₃, S₃, V₃, m1, by intro z; rw [m2 z]; simp, by rw [m3]; simp, m4, m5, by rw [m6, h6], by rw [m7, h7], m8⟩
                    rcases hdec r y hry with hd | hd
                    · -- as they stand
                      obtain ⟨T₂, S₂, V₂, k1, k2, k3, k4, k5, k6⟩ := pre.snoc hn hb at_.hbb e1 (by simp [hcls]) (fun _ => rd s₁ e7)
                      rw [o3] at k4
                      have hT2 : T₂ (L₁ ++ [r]).length = T₁ L₁.length := by simp [k4, putD]
                      have hS2 : S₂ (L₁ ++ [r]).length = s₁ := by simp [k5]
                      obtain ⟨T₃, S₃, V₃, q1, q2, q3, q4, q5, q6⟩ := k1.snoc (r := y) (v := vy) (s₁ := sn)
                        (by intro z hz; rcases List.mem_append.1 hz with h | h
                            · exact hny z h
                            · simp at h; subst h; exact hry)
                        (by intro z hz; rcases List.mem_append.1 hz with h | h
                            · exact hyb z h
                            · simp at h; subst h; exact hyr')
                        aty.hbb (by rw [hT2, hS2]; exact e2) (by simp [hyc])
                        (by intro _ k z hz hc hzb
                            rcases get_snoc hz with ⟨n1, n2⟩ | ⟨rfl, rfl⟩
                            · rw [(k2 k (Nat.le_of_lt n1)).1, k3 k n1]
                              exact rd sn e8 k z n2 hc (same_bf z (List.mem_of_getElem? n2) hc hzb)
                            · rw [hcls] at hc; cases hc)
                      refine fin _ T₃ S₃ V₃ q1 (by intro z; simp [hmem z]) (by simp) ?_ ?_ ?_ ?_ ?_
                      · rw [show (L₁ ++ [r] ++ [y]).length = (L₁ ++ [r]).length + 1 from by simp, q4, o4, hT2]; rfl
                      · rw [show (L₁ ++ [r] ++ [y]).length = (L₁ ++ [r]).length + 1 from by simp, q5]
                      · rw [(q2 0 (Nat.zero_le _)).1, (k2 0 (Nat.zero_le _)).1]
                      · rw [(q2 0 (Nat.zero_le _)).2, (k2 0 (Nat.zero_le _)).2]
                      · refine (hch.snoc fun _ c hc hk => .inl (chr c hc hk)).snoc fun _ c hc hk => ?_
                        rcases List.mem_append.1 hc with h | h
                        · exact .inl (chy c h hk)
                        · simp at h; subst h; exact .inr hd
                    · -- the other way round
                      obtain ⟨T₂, S₂, V₂, k1, k2, k3, k4, k5, k6⟩ := pre.snoc (r := y) hny hyb aty.hbb e3 (by simp [hyc])
                        (fun _ k z hz hc hzb => rd s₃ e9 k z hz hc (same_bf z (List.mem_of_getElem? hz) hc hzb))
                      rw [o4] at k4
                      have hT2 : T₂ (L₁ ++ [y]).length = T₁ L₁.length := by simp [k4, putD]
                      have hS2 : S₂ (L₁ ++ [y]).length = s₃ := by simp [k5]
                      obtain ⟨T₃, S₃, V₃, q1, q2, q3, q4, q5, q6⟩ := k1.snoc (r := r) (v := vx) (s₁ := sn)
                        (by intro z hz; rcases List.mem_append.1 hz with h | h
                            · exact hn z h
                            · simp at h; subst h; exact fun e => hry e.symm)
                        (by intro z hz; rcases List.mem_append.1 hz with h | h
                            · exact hb z h
                            · simp at h; subst h; exact hyr)
                        at_.hbb (by rw [hT2, hS2]; exact c1) (by simp [hcls])
                        (by intro _ k z hz hc hzb
                            rcases get_snoc hz with ⟨n1, n2⟩ | ⟨rfl, rfl⟩
                            · rw [(k2 k (Nat.le_of_lt n1)).1, k3 k n1]
                              exact rd sn e8 k z n2 hc hzb
                            · rw [hyc] at hc; cases hc)
                      refine fin _ T₃ S₃ V₃ q1 (by intro z; simp [hmem z]; constructor <;> (rintro (h | h | h) <;> simp [h])) (by simp) ?_ ?_ ?_ ?_ ?_
                      · rw [show (L₁ ++ [y] ++ [r]).length = (L₁ ++ [y]).length + 1 from by simp, q4, o3, hT2]; rfl
                      · rw [show (L₁ ++ [y] ++ [r]).length = (L₁ ++ [y]).length + 1 from by simp, q5]
                      · rw [(q2 0 (Nat.zero_le _)).1, (k2 0 (Nat.zero_le _)).1]
                      · rw [(q2 0 (Nat.zero_le _)).2, (k2 0 (Nat.zero_le _)).2]
                      · refine (hch.snoc fun _ c hc hk => .inl (chy c hc hk)).snoc fun _ c hc hk => ?_
                        rcases List.mem_append.1 hc with h | h
                        · exact .inl (chr c h hk)
                        · simp at h; subst h; exact .inr hd
                  · cases hev
                · cases hst
              · cases hst
            · split at hst
              · rename_i rc st' hrc hst'
                cases hst
                exact go rc st' rfl hst' (fun _ => hbe) (fun _ => hrc)
              · cases hst

end Go.Ab
end

noncomputable section
namespace Go.Ab

theorem steps_dst {N : Nat} : ∀ (n : Nat) (rest done : List RI) (st : List EStep), rest.length ≤ n → stepsOf done rest = some st → st.all (dstS N) = true → ∀ r, r ∈ rest → ∀ d, r.o.dst = some d → d < N := by
  intro n
  induction n with
  | zero =>
    intro rest done st hl _ _ r hr
    obtain rfl : rest = [] := List.eq_nil_of_length_eq_zero (by omega)
    simp at hr
  | succ n ih =>
    intro rest done st hl h hd
    cases rest with
    | nil => intro r hr; simp at hr
    | cons x l =>
      simp only [List.length_cons] at hl
      have one : ∀ (rc : List EOper) (st' : List EStep) (done' : List RI), st = .one x.o rc :: st' → stepsOf done' l = some st' → ∀ r, r ∈ x :: l → ∀ d, r.o.dst = some d → d < N := by
        intro rc st' done' e h' r hr d hrd
        subst e
        simp only [List.all_cons, Bool.and_eq_true] at hd
        rcases List.mem_cons.1 hr with rfl | hr
        · have := hd.1
          simp only [dstS, hrd, ltb_eq, decide_eq_true_eq] at this
          exact this
        · exact ih l done' st' (by omega) h' hd.2 r hr d hrd
      unfold stepsOf at h
      split at h
      · split at h
        · cases h
        · split at h
          · split at h
            · cases h; exact one _ [] [] rfl (by simp [stepsOf])
            · cases h
          · rename_i y l'
            split at h
            · split at h
              · split at h
                · rename_i rc st' _ hst'
                  cases h
                  intro r hr d hrd
                  simp only [List.all_cons, Bool.and_eq_true, dstS] at hd
                  rcases List.mem_cons.1 hr with rfl | hr
                  · have := hd.1.1; rw [hrd] at this; simpa [ltb_eq] using this
                  · rcases List.mem_cons.1 hr with rfl | hr
                    · have := hd.1.2; rw [hrd] at this; simpa [ltb_eq] using this
                    · exact ih l' _ st' (by simp at hl; omega) hst' hd.2 r hr d hrd
                · cases h
              · cases h
            · split at h
              · rename_i rc st' _ hst'; cases h; exact one _ st' _ rfl hst'
              · cases h
      · split at h
        · rename_i st' hst'; cases h; exact one _ st' _ rfl hst'
        · cases h
      · split at h
        · split at h
          · rename_i st' hst'; cases h; exact one _ st' _ rfl hst'
          · cases h
        · cases h

theorem LinP.rest {ops : Array Oper} {D l : List Nat} (h : LinP ops D l) : (∀ i, i < ops.size → i ∈ D ∨ i ∈ l) ∧ (∀ i, i ∈ l → i ∉ D) ∧ l.Nodup := by
  induction h with
  | nil h => exact ⟨fun i hi => .inl (h i hi), by simp, List.nodup_nil⟩
  | cons ho hn hp h ih =>
    obtain ⟨k1, k2, k3⟩ := ih
    refine ⟨fun i hi => ?_, fun i hi => ?_, ?_⟩
    · rcases k1 i hi with h | h
      · rcases List.mem_cons.1 h with rfl | h
        · exact .inr (List.mem_cons_self ..)
        · exact .inl h
      · exact .inr (List.mem_cons_of_mem _ h)
    · rcases List.mem_cons.1 hi with rfl | hi
      · exact hn
      · exact fun hh => k2 i hi (List.mem_cons_of_mem _ hh)
    · rw [List.nodup_cons]
      exact ⟨fun hh => k2 _ hh (List.mem_cons_self ..), k3⟩

def before (l : List Nat) (i j : Nat) : Prop := ∃ A B, l = A ++ j :: B ∧ i ∈ A

theorem chain_ok {ops : Array Oper} {L : List RI} {l₀ : List Nat} (hcl : ∀ (D : Nat → Prop), Closed ops D → ∀ r, r ∈ L → D r.i → ∀ j, bfr j r = true → D j) (hlt : ∀ r, r ∈ L → r.i < ops.size)
    (hne : ∀ (p p' : Nat) (r r' : RI), L[p]? = some r → L[p']? = some r' → r.i = r'.i → p = p')
    (hch : ChainL (fun x y => ¬ before l₀ y.i x.i) L) : ∀ (l D pre : List Nat), LinP ops D l → Closed ops (fun i => i ∈ D) → (∀ j, j ∈ D ↔ j ∈ pre) → l₀ = pre ++ l → ChainOk L D l := by
  intro l
  induction l with
  | nil => intro D pre _ _ _ _; trivial
  | cons i l ih =>
    intro D pre h hD hmem he
    have hrest := h.rest
    cases h with
    | cons ho hn hp h' =>
      have hD' : Closed ops (fun j => j ∈ i :: D) := by
        intro j hj o' ho' k hk
        rcases List.mem_cons.1 hj with rfl | hj
        · rw [ho] at ho'; cases ho'; exact List.mem_cons_of_mem _ (hp k hk)
        · exact List.mem_cons_of_mem _ (hD j hj o' ho' k hk)
      refine ⟨?_, ih (i :: D) (pre ++ [i]) h' hD' (by intro j; simp [hmem j]; constructor <;> (rintro (h | h) <;> simp [h])) (by simp [he])⟩
      intro p p' c c' h1 h2 h3 h4 h5 h6
      have hci : c.i ≠ i := fun e => by have := hne p p' c c' h1 h2 (e.trans h6.symm); omega
      rcases hch p p' c c' h1 h2 h3 h4 h5 with hb | hb
      · have := hcl _ hD' c' (List.mem_of_getElem? h2) (by simp [h6]) c.i hb
        rcases List.mem_cons.1 this with h | h
        · exact absurd h hci
        · exact h
      · refine Classical.byContradiction fun hcD => hb ?_
        rcases hrest.1 c.i (hlt c (List.mem_of_getElem? h1)) with h | h
        · exact absurd h hcD
        · rcases List.mem_cons.1 h with h | h
          · exact absurd h hci
          · obtain ⟨A, B, rfl⟩ := List.append_of_mem h
            exact ⟨pre ++ i :: A, B, by simp [he], by simp [h6]⟩

theorem foldT_none (V : Nat → AV) (t : Nat) : ∀ (L : List RI) (p : Nat) (T : Tr AV), (EO.t t).ev (foldT V (inD []) L p T) = (EO.t t).ev T
  | [], _, _ => rfl
  | r :: L, p, T => by
    simp only [foldT]
    rw [foldT_none V t L (p + 1)]
    simp [inD]

theorem cRegion_draw {P : Program} {ops : Array Oper} {st : List EStep} (h : cRegion P ops true = .reg st) :
    ∃ L, orderOf P ops ops.size [] (ops.toList.zipIdx.map fun (o, i) => (i, o)) = some L ∧ allPairs L (fun a b => !(free a b) || tmpsApart a b) = true ∧ stepsOf [] L = some st := by
  unfold cRegion at h
  simp only [if_true] at h
  split at h
  · rename_i L hL
    split at h
    · rename_i ha
      split at h
      · rename_i s hs; cases h; exact ⟨L, hL, ha, hs⟩
      · cases h
    · cases h
  · cases h

theorem draw_sound {P : Program} {E : Env} {cl : Oracle} (hcl : ClOk P E cl) {ops : Array Oper} {N : Nat} {st : List EStep} (hreg : cRegion P ops true = .reg st) (hd : st.all (dstS N) = true)
    {σ : Sg} {s s' : AS} {w : World} {T T' : Tr AV} {tmps : Array Value} (he : EOk E σ) (r : Rel P σ s w) (rt : RTmp σ N T tmps) (h : evSteps E cl st T s = some (T', s')) (t : Nat) :
    ∃ σ' w' tmps', Rel P σ' s' w' ∧ RTmp σ' N T' tmps' ∧ Ext σ s w σ' s' w' ∧ RegSim P ops (Region.schedule true ops t) tmps w tmps' w' := by
  obtain ⟨L, h1, h2, h3⟩ := cRegion_draw hreg
  obtain ⟨hg, hcov⟩ := order_good _ _ _ _ h1 (GoodL.nil P ops)
    (by intro x hx
        rw [List.mem_map] at hx
        obtain ⟨⟨o, i⟩, hx1, rfl⟩ := hx
        have := List.mem_zipIdx_iff_getElem?.1 hx1
        exact ⟨by simpa using this, by simp⟩)
    (by intro i hi
        right
        refine ⟨ops[i], ?_⟩
        rw [List.mem_map]
        refine ⟨(ops[i], i), List.mem_zipIdx_iff_getElem?.2 (by simp [hi]), rfl⟩)
  have hlin := lin_schedule hg hcov t
  have hclosed : ∀ (D : Nat → Prop), Closed ops D → ∀ r, r ∈ L → D r.i → ∀ j, bfr j r = true → D j := by
    intro D hD x hx hDx j hj
    obtain ⟨A, B, e⟩ := List.append_of_mem hx
    exact hg.closed hD A.length A x B rfl e hDx j hj
  have hnd := hlin.rest.2.2
  obtain ⟨L₂, T₂, S₂, V₂, k1, k2, k3, k4, k5, k6, k7, k8⟩ := steps_pre (P := P) (E := E) (cl := cl) (ops := ops) (dec := fun x y => ¬ before (Region.schedule true ops t) y.i x.i)
    (by intro x y hxy
        refine Classical.byContradiction fun hno => ?_
        simp only [not_or, Classical.not_not] at hno
        obtain ⟨⟨A, B, e1, m1⟩, ⟨A', B', e2, m2⟩⟩ := hno
        rw [e1] at hnd e2
        -- y before x, and x before y
        obtain ⟨A₁, A₂, rfl⟩ := List.append_of_mem m1
        have hx1 : x.i ∉ A₁ ++ y.i :: A₂ := by
          rw [List.nodup_append] at hnd
          intro hx
          exact hnd.2.2 _ hx _ (List.mem_cons_self ..) rfl
        obtain ⟨A₃, A₄, rfl⟩ := List.append_of_mem m2
        have e3 : A₁ ++ y.i :: (A₂ ++ x.i :: B) = (A₃ ++ x.i :: A₄) ++ y.i :: B' := by simpa using e2
        have hnd' : (A₁ ++ y.i :: (A₂ ++ x.i :: B)).Nodup := by simpa using hnd
        have hy1 : y.i ∉ A₁ := by
          rw [List.nodup_append] at hnd'
          intro hy; exact hnd'.2.2 _ hy _ (List.mem_cons_self ..) rfl
        have hy2 : y.i ∉ A₃ ++ x.i :: A₄ := by
          rw [e3, List.nodup_append] at hnd'
          intro hy; exact hnd'.2.2 _ hy _ (List.mem_cons_self ..) rfl
        have : A₁ = A₃ ++ x.i :: A₄ := by
          rcases List.append_eq_append_iff.1 e3 with ⟨X, f1, f2⟩ | ⟨X, f1, f2⟩
          · cases X with
            | nil => simpa using f1.symm
            | cons z X => simp at f2; exact absurd (by rw [f1, ← f2.1]; simp) hy2
          · cases X with
            | nil => simpa using f1
            | cons z X => simp at f2; exact absurd (by rw [f1, ← f2.1]; simp) hy1
        exact hx1 (by rw [this]; simp))
    L.length L [] st T s T' s' (Nat.le_refl _) h3 h (by simpa using hg) [] (fun _ => T) (fun _ => s) (fun _ => .undef)
    ⟨by intro p r h; simp at h, by intro p c r rc h; simp at h, by intro p c z rc _ h; simp at h, by intro p p' r r' h; simp at h, by intro p p' r r' h; simp at h⟩
    (by simp) rfl rfl rfl (by intro p p' c c' h; simp at h)
  simp only [List.nil_append] at k2 k3
  have tr : Tra P E cl ops N L₂ T₂ S₂ V₂ := by
    refine ⟨?_, k1.inj, k1.pos, fun D hD x hx => hclosed D hD x ((k2 x).1 hx), ?_, k1.ev, ?_, k1.asap, k1.rchk, fun x hx => steps_dst L.length L [] st (Nat.le_refl _) h3 hd x ((k2 x).1 hx)⟩
    · intro p x hx
      exact hg.fact ((k2 x).1 (List.mem_of_getElem? hx))
    · intro i hi
      obtain ⟨x, hx1, hx2⟩ := hcov i hi
      exact ⟨x, (k2 x).2 hx1, hx2⟩
    · intro p p' x x' hx hx' hpp hf
      unfold allPairs at h2
      rw [List.all_eq_true] at h2
      have := h2 x ((k2 x).1 (List.mem_of_getElem? hx))
      rw [List.all_eq_true] at this
      have := this x' ((k2 x').1 (List.mem_of_getElem? hx'))
      have hii : x.i ≠ x'.i := fun e => hpp (k1.inj p p' x x' hx hx' e)
      simpa [hii, hf] using this
  have hlt : ∀ x, x ∈ L₂ → x.i < ops.size := by
    intro x hx
    obtain ⟨o, ho, _⟩ := hg.fact ((k2 x).1 hx)
    rcases Nat.lt_or_ge x.i ops.size with h | h
    · exact h
    · rw [Array.getElem?_eq_none h] at ho; cases ho
  have hchain := chain_ok (fun D hD x hx => hclosed D hD x ((k2 x).1 hx)) hlt k1.inj k8 _ [] [] hlin (by intro i hi; simp at hi) (by simp) (by simp)
  obtain ⟨q', n1, n2, n3, n4⟩ := next_change L₂ L₂.length 0 (by omega)
  have hS0 : S₂ 0 = s := k7
  have hT0 : T₂ 0 = T := k6
  obtain ⟨inv, hmore⟩ := tr.advance (D := []) (q := 0) (σ := σ) (tmps := tmps) (w := w) n1 n2 n3 n4 (.inl rfl)
    (by intro p x hx hc
        constructor
        · intro h; simp at h
        · intro h; exact absurd hc (n3 p x (Nat.zero_le _) h hx))
    (by rw [hS0]; exact r) (rt.ext fun t => by rw [foldT_none, hT0]) (by intro p x h; omega)
    (by intro p p' h1 h2
        obtain rfl : p' = 0 := by omega
        obtain rfl : p = 0 := by omega
        exact ⟨Nat.le_refl _, Nat.le_refl _⟩)
  obtain ⟨σ', w', tmps', m1, m2, m3, m4⟩ := tr.run hcl _ _ hlin hchain (by intro i hi; simp at hi) inv he
  refine ⟨σ', w', tmps', by rw [← k5]; exact m2, by rw [← k4]; exact m3, ?_, m1⟩
  have hx := (ExtB.more (σ := σ) (w := w) (B := (S₂ 0).na) (Bm := (S₂ 0).nm) hmore (Nat.le_refl _) (Nat.le_refl _)).trans m4
  rw [hS0, k5] at hx
  exact hx.toExt

end Go.Ab
end
