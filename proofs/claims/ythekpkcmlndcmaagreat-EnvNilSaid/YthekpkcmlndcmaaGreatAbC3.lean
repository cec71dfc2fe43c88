/- Soundness of the abstract evaluator: calls. -/
import Derived.Test.YthekpkcmlndcmaaGreatAbC2
noncomputable section
namespace Go.Ab

/-! ### The results of a function -/
theorem run_asAddr {P : Program} {w : World} {a : Addr} : (asAddr (.pointer (some a))).run P w = .ok a w := rfl

def resSem (tmps : Array Value) : ResultVar → Sem Value
  | .tmp t => pure (tmps.getD t Go.undef)
  | .cell a t => do loadVar t (← asAddr (tmps.getD a Go.undef))

theorem results_eq (fn : Func) (tmps : Array Value) : Go.results fn tmps = (do
    let vs ← fn.results.mapM (resSem tmps)
    pure (if h : vs.size = 1 then vs[0] else .tuple vs)) := by
  unfold Go.results
  congr 2

theorem evRes_run {P : Program} {σ : Sg} {N : Nat} {s : AS} {w : World} {T : Tr AV} {tmps : Array Value} (r : Rel P σ s w) (rt : RTmp σ N T tmps) {x : ResultVar} {e : ERes} {v : AV} (hx : cRes P x = some e) (h : evRes T s e = some v) :
    (resSem tmps x).run P w = .ok (conc σ v) w ∧ In σ v := by
  cases x with
  | tmp t =>
    simp only [cRes] at hx; cases hx
    simp only [evRes] at h; cases h
    exact ⟨by simp only [resSem]; rw [(rt.2 t).2]; rfl, (rt.2 t).1⟩
  | cell a t =>
    simp only [cRes] at hx
    split at hx
    · rename_i g n hg hn
      cases hx
      simp only [evRes] at h
      obtain ⟨h1, h2⟩ := rt.2 a
      generalize (EO.t a).ev T = p at h h1 h2
      cases p <;> simp only at h <;> try (cases h; done)
      rename_i b j o
      simp only [resSem]
      rw [h2]
      cases g with
      | true =>
        simp only at h
        split at h
        · rename_i l hl
          cases h
          obtain ⟨k1, k2⟩ := sim_ldn (t := t) r h1 hg hn hl
          simp only [Instr.loadAt, conc, Instr.sureAddr, Sem.run_bind, Sem.run_pure, Result.andThen_ok] at k1
          exact ⟨by simp only [conc, Sem.run_bind, run_asAddr, Result.andThen_ok]; exact k1, k2⟩
        · cases h
      | false =>
        simp only at h
        obtain ⟨k1, k2⟩ := sim_ld1 (t := t) r h1 hg h
        simp only [Instr.loadAt, conc, Instr.sureAddr, Sem.run_bind, Sem.run_pure, Result.andThen_ok] at k1
        exact ⟨by simp only [conc, Sem.run_bind, run_asAddr, Result.andThen_ok]; exact k1, k2⟩
    · cases hx

theorem evResL_run {P : Program} {σ : Sg} {N : Nat} {s : AS} {w : World} {T : Tr AV} {tmps : Array Value} (r : Rel P σ s w) (rt : RTmp σ N T tmps) : ∀ {l : List ResultVar} {es : List ERes} {vs : List AV}, cResL P l = some es → evResL T s es = some vs →
    (l.mapM (resSem tmps)).run P w = .ok (concL σ vs) w ∧ InL σ vs ∧ vs.length = l.length
  | [], es, vs, h1, h2 => by
    simp only [cResL] at h1; cases h1
    simp only [evResL] at h2; cases h2
    exact ⟨rfl, trivial, rfl⟩
  | x :: l, es, vs, h1, h2 => by
    simp only [cResL] at h1
    split at h1
    · rename_i e es' he hes
      cases h1
      simp only [evResL] at h2
      split at h2
      · rename_i v hv
        split at h2
        · rename_i vs' hvs
          cases h2
          obtain ⟨k1, k2⟩ := evRes_run r rt he hv
          obtain ⟨m1, m2, m3⟩ := evResL_run r rt hes hvs
          refine ⟨?_, ⟨k2, m2⟩, by simp [m3]⟩
          rw [List.mapM_cons]
          simp only [Sem.run_bind]
          rw [k1]
          simp only [Result.andThen_ok, Sem.run_bind]
          rw [m1]
          rfl
        · cases h2
      · cases h2
    · cases h1

theorem results_run {P : Program} {σ : Sg} {N : Nat} {s : AS} {w : World} {T : Tr AV} {tmps : Array Value} (r : Rel P σ s w) (rt : RTmp σ N T tmps) {fn : Func} {es : List ERes} {v : AV} (h1 : cResL P fn.results.toList = some es) (h2 : results T s es = some v) :
    (Go.results fn tmps).run P w = .ok (conc σ v) w ∧ In σ v := by
  have key : ∀ vs, evResL T s es = some vs → (fn.results.mapM (resSem tmps)).run P w = .ok (concL σ vs).toArray w ∧ InL σ vs := by
    intro vs hvs
    obtain ⟨k1, k2, _⟩ := evResL_run r rt h1 hvs
    refine ⟨?_, k2⟩
    rw [Array.mapM_eq_mapM_toList]
    simp only [Sem.run_map]
    rw [k1]
    rfl
  unfold Ab.results at h2
  rw [results_eq]
  split at h2
  · rename_i v' hv
    cases h2
    obtain ⟨k1, k2⟩ := key _ hv
    refine ⟨?_, k2.1⟩
    simp only [Sem.run_bind]
    rw [k1]
    simp [concL]
  · rename_i vs hno hvs
    cases h2
    obtain ⟨k1, k2⟩ := key _ hvs
    refine ⟨?_, by simpa [In] using k2⟩
    simp only [Sem.run_bind]
    rw [k1]
    have hlen : ¬ vs.length = 1 := by
      intro h
      match vs, h with
      | [x], _ => exact hno x rfl
    simp [concL_length, hlen, conc]
  · cases h2

/-! ### Leaving -/
theorem unwind_collected {P : Program} {fr : Frame} {cs : List Frame} {w : World} {r : Nat} {ds : List Deferred} (hm : fr.mode = .returning) (hd : fr.defers = { target := .collected r, args := #[] } :: ds)
    (hr : w.heap[r]? = some (.deferred (some []))) :
    step P (lone fr cs w) = .next (lone { fr with defers := ds } cs (setBlk w r (.deferred none))) := by
  refine step_lone_go ?_
  simp [stepG, unwind, hm, hd, Instr.takeDeferred, getObj, setObj, Sem.run, hr, setBlk]

theorem unwind_all {P : Program} {σ : Sg} {s : AS} {B : Nat} : ∀ (ds : List Deferred) {w : World}, DOk B σ w ds → Rel P σ s w →
    ∃ w', (∀ (fr : Frame) (cs : List Frame), fr.mode = .returning → fr.defers = ds → Steps P (lone fr cs w) (lone { fr with defers := [] } cs w')) ∧ Rel P σ s w' ∧
      (∀ b, (b < B ∨ img σ b) → w'.heap[b]? = w.heap[b]?) ∧ w'.heap.size = w.heap.size ∧ w'.os = w.os ∧ w'.tape = w.tape ∧ w'.output = w.output := by
  intro ds
  induction ds with
  | nil =>
    intro w _ r
    refine ⟨w, fun fr cs _ hd => ?_, r, fun _ _ => rfl, rfl, rfl, rfl, rfl⟩
    have : ({ fr with defers := [] } : Frame) = fr := by cases fr; simp at hd; simp [hd]
    rw [this]; exact .refl _ _
  | cons d ds ih =>
    intro w h r
    obtain ⟨q, h1, h2, h3, h4⟩ := h.1 d (List.mem_cons_self ..)
    subst h1
    have hb : ∀ k, k ≠ q → (setBlk w q (.deferred none)).heap[k]? = w.heap[k]? := fun k hk => by
      simp only [setBlk]; rw [Array.getElem?_setIfInBounds_ne (fun h => hk h.symm)]
    have r' : Rel P σ s (setBlk w q (.deferred none)) := r.world fun b hbi => hb b (fun e => h3 (e ▸ hbi))
    have hp := List.pairwise_cons.1 h.2
    have h' : DOk B σ (setBlk w q (.deferred none)) ds := by
      refine ⟨fun e he => ?_, hp.2⟩
      obtain ⟨p, k1, k2, k3, k4⟩ := h.1 e (List.mem_cons_of_mem _ he)
      have hlt := hp.1 e he q p rfl (by rw [k1])
      exact ⟨p, k1, by rw [hb p (by omega)]; exact k2, k3, k4⟩
    obtain ⟨w', m1, m2, m3, m4, m5, m6, m7⟩ := ih h' r'
    refine ⟨w', fun fr cs hm hd => .head (unwind_collected hm hd h2) (m1 { fr with defers := ds } cs hm rfl), m2, fun b hbi => ?_, by rw [m4]; simp [setBlk], m5, m6, m7⟩
    rw [m3 b hbi, hb b]
    rintro rfl
    rcases hbi with hbi | hbi
    · omega
    · exact h3 hbi

end Go.Ab
