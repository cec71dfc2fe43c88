/- Soundness of the abstract evaluator: rounds of loops over functions; the oracle of every depth. -/
import Derived.Test.YthekpkcmlndcmaaGreatAbC4
noncomputable section
namespace Go.Ab

theorem mk_beginRound {P : Program} {b : Frame} {q : Nat} {k : List Item} {cs : List Frame} {w w' : World} (hb : b.mode = .run) (hr : b.roundOf = some q) (h : (Instr.beginRound q).run P w = .ok () w') :
    step P (lone { b with todo := .beginRound :: k } cs w) = .next (lone { b with todo := k } cs w') :=
  step_lone_go (by simp [stepG, stepG.exec, stepG.apply, hb, hr, h, Frame.finish])

theorem mk_leave {P : Program} {b c : Frame} {q : Nat} {x : Ex} {cs : List Frame} {w w' : World} {v : Value} (hb : b.mode = .run) (hr : b.roundOf = some q) (hk : b.kind = .normal) (ha : Arr1 [] x b.todo)
    (h : (Instr.endRound q (cEx x)).run P w = .ok v w') : step P (lone b (c :: cs) w) = .next (lone (c.finish v) cs w') := by
  cases x with
  | normal =>
    simp only [Arr1] at ha
    simp only [cEx] at h
    exact step_lone_go (by simp [stepG, stepG.exec, hb, hr, ha, h, doReturn, hk])
  | ret =>
    obtain ⟨k₂, ha⟩ := ha
    simp only [cEx] at h
    exact step_lone_go (by simp [stepG, stepG.exec, hb, hr, ha, h, doReturn, hk])
  | exit id =>
    obtain ⟨k₂, ha, hx⟩ := ha
    simp only [cEx] at h
    have hx' : exitTo id k₂ = none := by rw [hx]; rfl
    exact step_lone_go (by simp [stepG, stepG.exec, hb, hr, ha, hx', h, doReturn, hk])

theorem round_sound {P : Program} {E : Env} {cl : Oracle} (hcl : ClOk P E cl) (hmix : P.follows .mixedOrders = true) (lf : Nat) {l : Nat} {args : List AV} {s s' : AS} {σ : Sg} {w : World} {v : AV} {q : Nat}
    (h : evRound E cl lf l args s = some (v, s')) (r : Rel P σ s w) (he : EOk E σ) (hin : InL σ args) (hq : σ.lp l = some q) :
    ∃ σ' w', Rel P σ' s' w' ∧ In σ' v ∧ Ext σ s w σ' s' w' ∧ CallSim P (.func (.yield q) #[] #[]) (concL σ args).toArray w (conc σ' v) w' := by
  unfold evRound at h
  split at h
  · cases h
  · rename_i L hL
    obtain ⟨N, fn, tm, asn, body, d, a1, a2, a3, a4, a5, a6, a7, _⟩ := r.setL hq hL
    split at h
    · cases h
    · rename_i T hT
      obtain ⟨b1, b2⟩ := setPs_spec hT a2 hin a7
      split at h
      · rename_i T₁ s₁ hasn
        rw [a3] at hasn
        have hro : ROk σ (some q) := fun q' hq' => ⟨l, by cases hq'; exact hq⟩
        obtain ⟨σ₁, w₁, t₁, ds₁, k1, k2, k3, k4, k5⟩ := code_sound hcl hmix lf fn (some q) N asn hasn (a3 ▸ a5) he r b2 hro
        split at h
        · cases h
        · rename_i L₁ hL₁
          split at h
          · rename_i hst
            have hq₁ := k3.le.lp _ _ hq
            obtain ⟨N₁, fn₁, tm₁, asn₁, body₁, d₁, c1, _, _, _, _, _, _, c2⟩ := k1.setL hq₁ hL₁
            obtain ⟨c3, c4⟩ := c2 .busy L₁.pend
            split at h
            · cases h
            · rename_i x T₂ s₂ hbody
              rw [a4] at hbody
              obtain ⟨σ₂, w₂, t₂, ds₂, e1, e2, e3, e4, e5⟩ := code_sound hcl hmix lf fn (some q) N body hbody (a4 ▸ a6) (he.le (k3.le.trans c4.le)) c3 (k2.le c4.le) (hro.le (k3.le.trans c4.le))
              split at h
              · cases h
              · rename_i L₂ hL₂
                have hq₂ := e3.le.lp _ _ (c4.le.lp _ _ hq₁)
                obtain ⟨N₂, fn₂, tm₂, asn₂, body₂, d₂, f1, _, _, _, _, _, _, f2⟩ := e1.setL hq₂ hL₂
                -- the machine's way
                have way : ∀ {w' : World} {V : Value}, (Instr.endRound q (cEx x)).run P w₂ = .ok V w' → CallSim P (.func (.yield q) #[] #[]) (concL σ args).toArray w V w' := by
                  intro w' V hend fr cs hm hp
                  have hrun : (do let dd ← Deferred.ofValue (.func (.yield q) #[] #[]) (concL σ args).toArray; invoke dd.target dd.args : Sem Next).run P w =
                      .ok (.round q fn ((L.ps.zip (concL σ args)).foldl (fun tmps x => tmps.setIfInBounds x.1 x.2) tm) asn body) w := by
                    simp only [Deferred.ofValue, pure_bind, invoke, Instr.yield, Sem.run_bind, run_getLoop a1, Result.andThen_ok]
                    simp only [Array.empty_append, List.size_toArray, concL_length, b1, ne_eq, not_true_eq_false, if_false, Sem.run_pure]
                    congr 2
                    rw [← Array.foldl_toList]
                    simp
                  refine ⟨_, _, _, apply_round hrun, ?_⟩
                  obtain ⟨t, g1, g2⟩ := k5 { fn := fn, tmps := (L.ps.zip (concL σ args)).foldl (fun tmps x => tmps.setIfInBounds x.1 x.2) tm, todo := [], defers := [], mode := .run, kind := .normal, roundOf := some q } [.beginRound, .code body] (fr :: cs) rfl rfl rfl rfl
                  simp only [Arr1] at g1
                  subst g1
                  have hbeg : (Instr.beginRound q).run P w₁ = .ok () (setBlk w₁ q (.loop { state := .busy, pending := cEx L₁.pend, fn := fn₁, tmps := tm₁, params := L₁.ps.toArray, assign := asn₁, body := body₁, defers := d₁ })) := by
                    simp only [Instr.beginRound, Sem.run_bind, run_getLoop c1, Result.andThen_ok, run_setObj c1, hst, Sem.run_pure]
                  obtain ⟨t', g3, g4⟩ := e5 { fn := fn, tmps := t₁, todo := [], defers := ds₁ ++ [], mode := .run, kind := .normal, roundOf := some q } [] (fr :: cs) rfl rfl rfl rfl
                  refine g2.trans (.head (mk_beginRound (b := { fn := fn, tmps := t₁, todo := [], defers := ds₁ ++ [], mode := .run, kind := .normal, roundOf := some q }) rfl rfl hbeg) (g4.trans (.one ?_)))
                  exact mk_leave (b := { fn := fn, tmps := t₂, todo := t', defers := ds₂ ++ (ds₁ ++ []), mode := .run, kind := .normal, roundOf := some q }) rfl rfl rfl g3 hend
                have hext := (k3.trans c4).trans e3
                cases x with
                | normal =>
                  simp only at h; cases h
                  obtain ⟨m1, m2⟩ := f2 .ready .normal
                  refine ⟨σ₂, _, m1, trivial, hext.trans m2, way ?_⟩
                  simp only [Instr.endRound, Sem.run_bind, run_getLoop f1, Result.andThen_ok, run_setObj f1, Sem.run_pure]
                  rfl
                | exit id =>
                  simp only at h; cases h
                  obtain ⟨m1, m2⟩ := f2 .done (.exit id)
                  refine ⟨σ₂, _, m1, trivial, hext.trans m2, way ?_⟩
                  simp only [Instr.endRound, Sem.run_bind, run_getLoop f1, Result.andThen_ok, run_setObj f1, Sem.run_pure]
                  rfl
                | ret =>
                  simp only at h; cases h
                  obtain ⟨m1, m2⟩ := f2 .done .ret
                  refine ⟨σ₂, _, m1, trivial, hext.trans m2, way ?_⟩
                  simp only [Instr.endRound, Sem.run_bind, run_getLoop f1, Result.andThen_ok, run_setObj f1, Sem.run_pure]
                  rfl
          · cases h
      · cases h

theorem InL_append {σ : Sg} {a b : List AV} (h : InL σ a) (k : InL σ b) : InL σ (a ++ b) := by
  rw [InL_iff] at *
  intro v hv
  rcases List.mem_append.1 hv with hv | hv
  · exact h v hv
  · exact k v hv
theorem concL_append (σ : Sg) (a b : List AV) : concL σ (a ++ b) = concL σ a ++ concL σ b := by simp [concL_eq]

theorem run_callFunc {P : Program} {w : World} {k : FuncId} {f : Func} {args : Array Value} {b : Code} (hf : P.funcs[k]? = some f) (hb : f.body = some b) (hn : f.name ≠ "runtime.NumGoroutine") :
    (callFunc k args).run P w = .ok (.enter k args) w := by

  simp [callFunc, hf, hb, hn]

theorem evCall_ok {P : Program} {E : Env} {tab : Tab} (htab : TabOk P tab) (hmix : P.follows .mixedOrders = true) (lf : Nat) : ∀ n, ClOk P E (evCall E tab lf n) := by
  intro n
  induction n with
  | zero => intro f args s v s' σ w h; simp [evCall] at h
  | succ n ih =>
    intro f args s v s' σ w h r he hf hargs
    simp only [evCall] at h
    split at h
    · rename_i k first cap
      split at h
      · rename_i F hF
        obtain ⟨fn, h1, h2⟩ := htab k F hF
        simp only [In] at hf
        obtain ⟨b, es, f1, _, _, _, f4⟩ := cFunc_some h2
        obtain ⟨σ', w', k1, k2, k3, k4, _⟩ := func_sound ih hmix lf h1 h2 h r he (InL_append (InL_append hf.1 hargs) hf.2)
        refine ⟨σ', w', k1, k2, k3, ?_⟩
        intro fr cs hm hp
        refine ⟨_, _, _, apply_enter (k := k) (args := (concL σ (first ++ args ++ cap)).toArray) (w' := w) hp ?_, k4 fr cs⟩
        simp only [conc, Deferred.ofValue, pure_bind, invoke]
        rw [run_callFunc h1 f1 f4]
        simp [concL_append]
      · cases h
    · rename_i l
      simp only [In] at hf
      obtain ⟨q, hq⟩ := isSome_get hf
      obtain ⟨σ', w', k1, k2, k3, k4⟩ := round_sound ih hmix lf h r he hargs hq
      refine ⟨σ', w', k1, k2, k3, ?_⟩
      simp only [conc, hq, Option.getD_some]
      exact k4
    · cases h

/-- WHAT THE EVALUATOR ANSWERS THE MACHINE ANSWERS, WHATEVER THE TAPE SAYS. -/
theorem calls_of_ev {P : Program} {E : Env} {tab : Tab} (htab : TabOk P tab) (hmix : P.follows .mixedOrders = true) (lf n : Nat) {k : FuncId} {args : List AV} {s s' : AS} {v : AV} {σ : Sg} {w : World}
    (h : evCall E tab lf (n + 1) (.fn k [] []) args s = some (v, s')) (r : Rel P σ s w) (he : EOk E σ) (hin : InL σ args) :
    ∃ σ' w', Rel P σ' s' w' ∧ In σ' v ∧ Ext σ s w σ' s' w' ∧ Calls P k (concL σ args).toArray w (fun e w'' => e = .returned (conc σ' v) ∧ w'' = w') := by
  simp only [evCall] at h
  split at h
  · rename_i F hF
    obtain ⟨fn, h1, h2⟩ := htab k F hF
    obtain ⟨σ', w', k1, k2, k3, _, k5⟩ := func_sound (evCall_ok htab hmix lf n) hmix lf h1 h2 (by simpa using h) r he hin
    refine ⟨σ', w', k1, k2, k3, fun cs => ?_⟩
    obtain ⟨fr, g1, g2, g3⟩ := k5 cs
    exact ⟨.returned (conc σ' v), w', fr, ⟨rfl, rfl⟩, g1, g2, g3⟩
  · cases h

end Go.Ab
