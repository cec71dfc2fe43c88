/- Soundness of the abstract evaluator: the machine's steps, for a frame of whatever make. -/
import Derived.Test.YthekpkcmlndcmaaGreatAbOps
noncomputable section
namespace Go.Ab

section steps
variable {P : Program} {b : Frame} {k : List Item} {cs : List Frame} {w : World}

theorem mk_skip (hb : b.mode = .run) : step P (lone { b with todo := .code .skip :: k } cs w) = .next (lone { b with todo := k } cs w) :=
  step_lone_go (by simp [stepG, stepG.exec, hb])
theorem mk_inBlock (hb : b.mode = .run) {id : Nat} : step P (lone { b with todo := .inBlock id :: k } cs w) = .next (lone { b with todo := k } cs w) :=
  step_lone_go (by simp [stepG, stepG.exec, hb])
theorem mk_seq (hb : b.mode = .run) {x y : Code} : step P (lone { b with todo := .code (.seq x y) :: k } cs w) = .next (lone { b with todo := .code x :: .code y :: k } cs w) :=
  step_lone_go (by simp [stepG, stepG.exec, hb])
theorem mk_block (hb : b.mode = .run) {id : Nat} {c : Code} : step P (lone { b with todo := .code (.block id c) :: k } cs w) = .next (lone { b with todo := .code c :: .inBlock id :: k } cs w) :=
  step_lone_go (by simp [stepG, stepG.exec, hb])
theorem mk_loop (hb : b.mode = .run) {c : Code} : step P (lone { b with todo := .code (.loop c) :: k } cs w) = .next (lone { b with todo := .code c :: .inLoop c :: k } cs w) :=
  step_lone_go (by simp [stepG, stepG.exec, hb])
theorem mk_inLoop (hb : b.mode = .run) {c : Code} : step P (lone { b with todo := .inLoop c :: k } cs w) = .next (lone { b with todo := .code c :: .inLoop c :: k } cs w) :=
  step_lone_go (by simp [stepG, stepG.exec, hb])
theorem mk_exit (hb : b.mode = .run) {id : Nat} {k' : List Item} (h : exitTo id k = some k') :
    step P (lone { b with todo := .code (.exit id) :: k } cs w) = .next (lone { b with todo := k' } cs w) :=
  step_lone_go (by simp [stepG, stepG.exec, hb, h])
theorem mk_cond (hb : b.mode = .run) {c : Operand} {x y : Code} {t : Bool} (h : b.eval c = .bool t) :
    step P (lone { b with todo := .code (.cond c x y) :: k } cs w) = .next (lone { b with todo := .code (if t then x else y) :: k } cs w) := by
  have h' : ∀ fr : Frame, fr.tmps = b.tmps → fr.eval c = .bool t := by
    intro fr hf; rw [← h]; cases c <;> simp [Frame.eval, hf]
  exact step_lone_go (by simp [stepG, stepG.exec, hb, h'])
theorem mk_region (hb : b.mode = .run) {id : Nat} {ops : Array Oper} :
    step P (lone { b with todo := .code (.region id ops false) :: k } cs w) = .next (lone { b with todo := .inRegion ops (List.range ops.size) :: k } cs w) :=
  step_lone_go (by simp [stepG, stepG.exec, hb])
theorem mk_region_draw (hb : b.mode = .run) {id : Nat} {ops : Array Oper} :
    step P (lone { b with todo := .code (.region id ops true) :: k } cs w) =
      .next (lone { b with todo := .inRegion ops (Region.schedule (P.follows .mixedOrders) ops (w.tape w.drawn (.order b.fn id))) :: k } cs w.drew) :=
  step_lone_go (by simp [stepG, stepG.exec, hb, choose, Sem.run, Question.forced, Question.cut])
theorem mk_region_end (hb : b.mode = .run) {ops : Array Oper} : step P (lone { b with todo := .inRegion ops [] :: k } cs w) = .next (lone { b with todo := k } cs w) :=
  step_lone_go (by simp [stepG, stepG.exec, hb])
theorem mk_unwanted (hb : b.mode = .run) {ops : Array Oper} {i : Nat} {rest : List Nat} (h : ((ops[i]?).map (Region.wanted · (yielded ops b.tmps))).getD false = false) :
    step P (lone { b with todo := .inRegion ops (i :: rest) :: k } cs w) = .next (lone (({ b with todo := .inRegion ops (i :: rest) :: k } : Frame).finish Go.undef) cs w) :=
  step_lone_go (by simp [stepG, stepG.exec, hb, h])
end steps

/-- No frame whose step is a wrapped call. -/
def plainTop (fr : Frame) : Prop := ∀ d r s k, fr.todo ≠ .call d true r s :: k

/-- What invoking a function value comes to: the caller goes on with the result. -/
def CallSim (P : Program) (f : Value) (args : Array Value) (w : World) (v : Value) (w' : World) : Prop :=
  ∀ (fr : Frame) (cs : List Frame), fr.mode = .run → plainTop fr →
    ∃ fr₁ cs₁ w₁, (stepG.apply P true fr cs none (do let d ← Deferred.ofValue f args; invoke d.target d.args) w).bare = .go { frame := fr₁, callers := cs₁, status := .running, dying := none } w₁ ∧
      Steps P (lone fr₁ cs₁ w₁) (lone (fr.finish v) cs w')

/-- An oracle that is right. -/
def ClOk (P : Program) (E : Env) (cl : Oracle) : Prop :=
  ∀ (f : AV) (args : List AV) (s : AS) (v : AV) (s' : AS) (σ : Sg) (w : World), cl f args s = some (v, s') → Rel P σ s w → EOk E σ → In σ f → InL σ args →
    ∃ σ' w', Rel P σ' s' w' ∧ In σ' v ∧ Ext σ s w σ' s' w' ∧ CallSim P (conc σ f) (concL σ args).toArray w (conc σ' v) w'

/-- One operation of a region, carried out. -/
def OpSim (P : Program) (ops : Array Oper) (i : Nat) (tmps : Array Value) (w : World) (tmps' : Array Value) (w' : World) : Prop :=
  ∀ (b : Frame) (k : List Item) (cs : List Frame) (rest : List Nat), b.mode = .run → b.tmps = tmps →
    Steps P (lone { b with todo := .inRegion ops (i :: rest) :: k } cs w) (lone { b with tmps := tmps', todo := .inRegion ops rest :: k } cs w')

def putV (tmps : Array Value) (d : Option Nat) (v : Value) : Array Value :=
  match d with
  | some d => tmps.setIfInBounds d v
  | none => tmps

theorem finish_region (b : Frame) (ops : Array Oper) (i : Nat) (rest : List Nat) (k : List Item) (v : Value) {o : Oper} (ho : ops[i]? = some o) :
    ({ b with todo := .inRegion ops (i :: rest) :: k } : Frame).finish v = { b with tmps := putV b.tmps o.dst v, todo := .inRegion ops rest :: k } := by
  simp only [Frame.finish, ho, Option.bind_some]
  cases o.dst <;> rfl

theorem stepG_oper {P : Program} {b : Frame} {k : List Item} {cs : List Frame} {w : World} {ops : Array Oper} {i : Nat} {rest : List Nat} {o : Oper} (hb : b.mode = .run) (ho : ops[i]? = some o)
    (hw : Region.wanted o (yielded ops b.tmps) = true) (hd : ∀ c, o.op ≠ .defer c) :
    stepG P true { frame := { b with todo := .inRegion ops (i :: rest) :: k }, callers := cs, status := .running, dying := none } w =
      stepG.apply P true { b with todo := .inRegion ops (i :: rest) :: k } cs none (execOp ({ b with todo := .inRegion ops (i :: rest) :: k } : Frame).eval o) w := by
  simp only [stepG, stepG.exec, hb, ho, hw, Option.map_some, Option.getD_some, if_true, stepG.oper, Frame.oper?]
  split
  · rename_i h; exact absurd h (hd _)
  · rfl

theorem apply_value {P : Program} {fr : Frame} {cs : List Frame} {w w' : World} {x : Sem Next} {v : Value} (h : x.run P w = .ok (.value v) w') :
    (stepG.apply P true fr cs none x w).bare = .go { frame := fr.finish v, callers := cs, status := .running, dying := none } w' := by
  simp [stepG.apply, h]
theorem apply_skip {P : Program} {fr : Frame} {cs : List Frame} {w w' : World} {x : Sem Next} (h : x.run P w = .ok .skip w') :
    (stepG.apply P true fr cs none x w).bare = .go { frame := fr.finish Go.undef, callers := cs, status := .running, dying := none } w' := by
  simp [stepG.apply, h]

theorem RTmp.frame {σ : Sg} {N : Nat} {T : Tr AV} {fr : Frame} (r : RTmp σ N T fr.tmps) : REv σ T fr.eval :=
  r.ev (fun _ => rfl) (fun _ => rfl) (fun _ => rfl)

theorem RTmp.put {σ : Sg} {N : Nat} {T : Tr AV} {tmps : Array Value} (r : RTmp σ N T tmps) {d : Option Nat} {v : AV} (hd : ∀ x, d = some x → x < N) (hv : In σ v) :
    RTmp σ N (putD T d v) (putV tmps d (conc σ v)) := by
  cases d with
  | none => exact r
  | some d =>
    have hd := hd d rfl
    refine ⟨by simp [putV, r.1], fun t => ?_⟩
    simp only [putD, putV, EO.ev, Tr.get_set]
    by_cases ht : t = d
    · subst ht
      simp only [if_true]
      refine ⟨hv, ?_⟩
      simp [Array.getD, r.1, hd]
    · simp only [ht, if_false]
      obtain ⟨h1, h2⟩ := r.2 t
      simp only [EO.ev] at h1 h2
      refine ⟨h1, ?_⟩
      rw [← h2]
      simp only [Array.getD_eq_getD_getElem?]
      rw [Array.getElem?_setIfInBounds_ne (fun h => ht h.symm)]

/-- A guard's temporary. -/
theorem wanted_eq {P : Program} {σ : Sg} {N : Nat} {T : Tr AV} {tmps : Array Value} {ops : Array Oper} (r : RTmp σ N T tmps) (o : Oper) {c : Bool}
    (h : wantedE T (cOper P ops o).guard = some c) : Region.wanted o (yielded ops tmps) = c := by
  simp only [cOper] at h
  simp only [Region.wanted]
  cases hg : o.guard with
  | none => simp [hg, wantedE] at h; simp [h]
  | some jb =>
    obtain ⟨j, b⟩ := jb
    simp only [hg, Option.map_some] at h
    simp only [yielded]
    cases hd : (ops[j]?).bind (·.dst) with
    | none => simp [hd, wantedE] at h; simp [h]
    | some d =>
      simp only [hd, wantedE] at h
      simp only [Option.bind_some]
      obtain ⟨_, h2⟩ := r.2 d
      have h3 : tmps[d]? = some (conc σ ((EO.t d).ev T)) ∨ (tmps[d]? = none ∧ conc σ ((EO.t d).ev T) = Go.undef) := by
        rw [Array.getD_eq_getD_getElem?] at h2
        cases hh : tmps[d]? with
        | none => right; simp [hh] at h2; exact ⟨rfl, h2.symm⟩
        | some x => left; simp [hh] at h2; simp [h2]
      generalize (EO.t d).ev T = a at h h2 h3
      cases a with
      | opq i => simp at h
      | bool x =>
        simp at h; subst h
        rcases h3 with h3 | ⟨_, h3⟩
        · simp only [h3, conc]; cases x <;> cases b <;> rfl
        · simp [conc, Go.undef] at h3
      | _ =>
        all_goals
          simp at h; subst h
          rcases h3 with h3 | ⟨h3, _⟩
          · simp only [h3, conc, Go.undef]; rfl
          · simp only [h3]; rfl

end Go.Ab
