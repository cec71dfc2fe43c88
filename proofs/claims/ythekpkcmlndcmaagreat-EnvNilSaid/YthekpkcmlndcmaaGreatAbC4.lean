/- Soundness of the abstract evaluator: calls, rounds, the oracle of every depth. -/
import Derived.Test.YthekpkcmlndcmaaGreatAbC3
noncomputable section
namespace Go.Ab

theorem args0_ev : ∀ (l : List AV) (T : Tr AV) (i t : Nat), (EO.t t).ev (args0 T i l) = if i ≤ t ∧ t < i + l.length then (l[t - i]?).getD .undef else (EO.t t).ev T
  | [], T, i, t => by simp [args0]; omega
  | v :: l, T, i, t => by
    simp only [args0, List.length_cons]
    rw [args0_ev l (T.set i v) (i + 1) t]
    by_cases h1 : i + 1 ≤ t ∧ t < i + 1 + l.length
    · rw [if_pos h1, if_pos (by omega)]
      have : t - i = (t - (i + 1)) + 1 := by omega
      rw [this]; simp
    · rw [if_neg h1]
      by_cases h2 : t = i
      · subst h2; simp [EO.ev]
      · rw [if_neg (by omega)]
        simp only [EO.ev]; rw [Tr.get_set_ne _ _ h2]

theorem args_tmp {σ : Sg} {N : Nat} {args : List AV} (hin : InL σ args) (hn : args.length ≤ N) :
    RTmp σ N (args0 .e 0 args) ((concL σ args).toArray ++ Array.replicate (N - (concL σ args).toArray.size) Go.undef) := by
  refine ⟨by simp [concL_length]; omega, fun t => ?_⟩
  rw [args0_ev]
  by_cases h : t < args.length
  · rw [if_pos (by omega)]
    simp only [Nat.sub_zero, List.getElem?_eq_getElem h, Option.getD_some]
    refine ⟨(InL_iff σ args).1 hin _ (List.getElem_mem h), ?_⟩
    rw [Array.getD_eq_getD_getElem?, Array.getElem?_append_left (by simp [concL_length, h])]
    simp [concL_eq, h]
  · rw [if_neg (by omega)]
    refine ⟨trivial, ?_⟩
    rw [Array.getD_eq_getD_getElem?, Array.getElem?_append_right (by simp [concL_length]; omega)]
    simp only [EO.ev, Tr.get_e, conc]
    rw [Array.getElem?_replicate]
    split <;> rfl

theorem cFunc_some {P : Program} {f : Func} {F : EFunc} (h : cFunc P f = some F) : ∃ b es, f.body = some b ∧ cResL P f.results.toList = some es ∧ F = { ntmps := f.ntmps, body := cCode P b, res := es } ∧ dstC f.ntmps (cCode P b) = true ∧ f.name ≠ "runtime.NumGoroutine" := by
  unfold cFunc at h
  split at h
  · rename_i b r hb hr
    split at h
    · rename_i hc
      cases h
      simp at hc
      exact ⟨b, r, hb, hr, rfl, hc.1, hc.2⟩
    · cases h
  · cases h

/-- A table of functions that are the program's. -/
def TabOk (P : Program) (tab : Tab) : Prop := ∀ k F, tab.get k = some F → ∃ f, P.funcs[k]? = some f ∧ cFunc P f = some F

theorem apply_enter {P : Program} {fr : Frame} {cs : List Frame} {w w' : World} {x : Sem Next} {k : FuncId} {args : Array Value} (hp : plainTop fr) (h : x.run P w = .ok (.enter k args) w') :
    (stepG.apply P true fr cs none x w).bare = .go { frame := Frame.enter P k args .normal, callers := fr :: cs, status := .running, dying := none } w' := by
  simp only [stepG.apply, if_true, Sem.runT_eq, h, GStep.bare_after]
  split
  · rename_i h1; exact absurd h1 (hp _ _ _ _)
  · rfl

theorem apply_round {P : Program} {fr : Frame} {cs : List Frame} {w w' : World} {x : Sem Next} {l : Nat} {k : FuncId} {tmps : Array Value} {a b : Code} (h : x.run P w = .ok (.round l k tmps a b) w') :
    (stepG.apply P true fr cs none x w).bare = .go { frame := Frame.round l k tmps a b .normal, callers := fr :: cs, status := .running, dying := none } w' := by
  simp [stepG.apply, h]

/-- A function that has ended: the way back to its caller. -/
theorem step_back {P : Program} {fr c : Frame} {cs : List Frame} {w : World} {v : Value} {f : Func} (hm : fr.mode = .returning) (hd : fr.defers = []) (hk : fr.kind = .normal) (hf : P.funcs[fr.fn]? = some f)
    (hr : (Go.results f fr.tmps).run P w = .ok v w) : step P (lone fr (c :: cs) w) = .next (lone (c.finish v) cs w) :=
  step_lone_go (by simp [stepG, unwind, doReturn, hm, hd, hk, hf, hr])

theorem to_returning {P : Program} {fr : Frame} {cs : List Frame} {w : World} {x : Ex} {t : List Item} (hb : fr.mode = .run) (hro : fr.roundOf = none) (ht : fr.todo = t) (ha : Arr1 [] x t) (hx : ∀ id, x ≠ .exit id) :
    step P (lone fr cs w) = .next (lone { fr with mode := .returning } cs w) := by
  cases x with
  | normal =>
    simp only [Arr1] at ha; subst ha
    exact step_lone_go (by simp [stepG, stepG.exec, hb, ht, hro])
  | ret =>
    obtain ⟨k₂, rfl⟩ := ha
    exact step_lone_go (by simp [stepG, stepG.exec, hb, ht, hro])
  | exit id => exact absurd rfl (hx id)

theorem func_sound {P : Program} {E : Env} {cl : Oracle} (hcl : ClOk P E cl) (hmix : P.follows .mixedOrders = true) (lf : Nat) {k : FuncId} {f : Func} {F : EFunc} (hf : P.funcs[k]? = some f) (hF : cFunc P f = some F)
    {args : List AV} {s s' : AS} {σ : Sg} {w : World} {v : AV} (h : evFunc E cl lf F args s = some (v, s')) (r : Rel P σ s w) (he : EOk E σ) (hin : InL σ args) :
    ∃ σ' w', Rel P σ' s' w' ∧ In σ' v ∧ Ext σ s w σ' s' w' ∧
      (∀ (c : Frame) (cs : List Frame), Steps P (lone (Frame.enter P k (concL σ args).toArray .normal) (c :: cs) w) (lone (c.finish (conc σ' v)) cs w')) ∧
      (∀ cs, ∃ fr, Steps P (lone (Frame.enter P k (concL σ args).toArray .normal) cs w) (lone fr cs w') ∧ fr.fn = k ∧ fr.leaving P w' (.returned (conc σ' v))) := by
  obtain ⟨b, es, f1, f2, rfl, f3, f4⟩ := cFunc_some hF
  unfold evFunc at h
  simp only at h
  split at h
  · cases h
  · rename_i hlen
    rw [ble_eq] at hlen
    simp only [decide_eq_true_eq] at hlen
    split at h
    · cases h
    · rename_i x T s₁ hno hcode
      split at h
      · rename_i v' hres
        cases h
        have rt := args_tmp hin hlen
        obtain ⟨σ', w', tmps', ds, k1, k2, k3, k4, k5⟩ := code_sound hcl hmix lf k none f.ntmps b hcode f3 he r rt (by intro q hq; cases hq)
        obtain ⟨w'', m1, m2, m3, m4, m5, m6, m7⟩ := unwind_all ds k4 k1
        obtain ⟨q1, q2⟩ := results_run m2 k2 f2 hres
        have hent : Frame.enter P k (concL σ args).toArray .normal = { fn := k, tmps := (concL σ args).toArray ++ Array.replicate (f.ntmps - (concL σ args).toArray.size) Go.undef, todo := [.code b], defers := [], mode := .run, kind := .normal } := by
          simp [Frame.enter, hf, f1]
        have hx : ∀ id, x ≠ .exit id := fun id e => hno id e
        have hx2 : Ext σ s w σ' s' w'' := by
          refine ⟨k3.le, k3.img, fun q hq hn => ?_, by rw [m4]; exact k3.size, by rw [m5, k3.os], by rw [m6, k3.tape], by rw [m7, k3.output], k3.na, k3.nm, k3.nl, k3.fa, k3.fm⟩
          rw [m3 q (.inl hq)]; exact k3.fr q hq hn
        have main : ∀ cs, ∃ fr, Steps P (lone (Frame.enter P k (concL σ args).toArray .normal) cs w) (lone fr cs w'') ∧ fr.fn = k ∧ fr.mode = .returning ∧ fr.defers = [] ∧ fr.kind = .normal ∧ fr.tmps = tmps' := by
          intro cs
          obtain ⟨t, e1, e2⟩ := k5 { fn := k, tmps := (concL σ args).toArray ++ Array.replicate (f.ntmps - (concL σ args).toArray.size) Go.undef, todo := [], defers := [], mode := .run, kind := .normal } [] cs rfl rfl rfl rfl
          have e3 := to_returning (P := P) (cs := cs) (w := w') (fr := { fn := k, tmps := tmps', todo := t, defers := ds ++ [], mode := .run, kind := .normal }) rfl rfl rfl e1 hx
          have e4 := m1 { fn := k, tmps := tmps', todo := t, defers := ds ++ [], mode := .returning, kind := .normal } cs rfl (by simp)
          rw [hent]
          exact ⟨_, e2.trans (.head e3 e4), rfl, rfl, rfl, rfl, rfl⟩
        refine ⟨σ', w'', m2, q2, hx2, ?_, ?_⟩
        · intro c cs
          obtain ⟨fr, g1, g2, g3, g4, g5, g6⟩ := main (c :: cs)
          exact g1.trans (.one (step_back g3 g4 g5 (by rw [g2]; exact hf) (by rw [g6]; exact q1)))
        · intro cs
          obtain ⟨fr, g1, g2, g3, g4, g5, g6⟩ := main cs
          exact ⟨fr, g1, g2, g3, g4, g5, f, by rw [g2]; exact hf, by rw [g6]; exact q1⟩
      · cases h
    · cases h

theorem setPs_spec {σ : Sg} {N : Nat} : ∀ {ps : List Nat} {args : List AV} {T T' : Tr AV} {tmps : Array Value}, setPs T ps args = some T' → RTmp σ N T tmps → InL σ args → ps.all (ltb · N) = true →
    args.length = ps.length ∧ RTmp σ N T' ((ps.zip (concL σ args)).foldl (fun tmps x => tmps.setIfInBounds x.1 x.2) tmps)
  | [], [], T, T', tmps, h, rt, _, _ => by simp [setPs] at h; subst h; exact ⟨rfl, rt⟩
  | [], _ :: _, T, T', tmps, h, _, _, _ => by simp [setPs] at h
  | _ :: _, [], T, T', tmps, h, _, _, _ => by simp [setPs] at h
  | p :: ps, v :: vs, T, T', tmps, h, rt, hin, hp => by
    simp only [setPs] at h
    simp only [List.all_cons, Bool.and_eq_true, ltb_eq, decide_eq_true_eq] at hp
    simp only [InL] at hin
    have rt' : RTmp σ N (T.set p v) (tmps.setIfInBounds p (conc σ v)) := rt.put (d := some p) (by intro x hx; cases hx; exact hp.1) hin.1
    obtain ⟨h1, h2⟩ := setPs_spec h rt' hin.2 (by simpa [ltb_eq] using hp.2)
    exact ⟨by simp [h1], by simpa [concL] using h2⟩

end Go.Ab
