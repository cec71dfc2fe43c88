/- Soundness of the abstract evaluator: operations that are no calls. -/
import Derived.Test.YthekpkcmlndcmaaGreatAbO8
noncomputable section
namespace Go.Ab
section
variable {P : Program} {E : Env} {σ : Sg} {s s₁ t : AS} {w : World} {T : Tr AV} {ρ : Operand → Value}

theorem bind_some {α β : Type} {o : Option α} {f : α → Option β} {y : β} (h : (o >>= f) = some y) : ∃ x, o = some x ∧ f x = some y := Option.bind_eq_some_iff.1 h

theorem REv.at (ev : REv σ T ρ) {x : Operand} {x' : EO} (hx : cEO x = some x') {a : AV} (h : x'.ev T = a) : ρ x = conc σ a ∧ In σ a := h ▸ ev x x' hx

theorem natOf_at (ev : REv σ T ρ) {x : Operand} {x' : EO} (hx : cEO x = some x') {n : Nat} (h : natOf (x'.ev T) = some n) : ∃ k, ρ x = .int k (n : Int) := by
  obtain ⟨k, hk⟩ := natOf_conc (σ := σ) h
  exact ⟨k, by rw [(ev _ _ hx).1, hk]⟩

theorem optEO_map (ev : REv σ T ρ) {x : Option Operand} {x' : Option EO} (h : optEO x = some x') : x.map ρ = (optEv T x').map (conc σ) := by
  cases x with
  | none => simp [optEO] at h; subst h; rfl
  | some x =>
    obtain ⟨y, hy, rfl⟩ := map_some h
    simp [optEv, (ev _ _ hy).1]

/-- What an operation comes to: memory made; or all else. -/
def OpFact (P : Program) (σ : Sg) (t s s₁ : AS) (w : World) (e : EOp) (v : AV) (res : Result Next) : Prop :=
  (clsOf e = .alloc ∧ AllocRes P σ w s v s₁ res) ∨ (clsOf e ≠ .alloc ∧ (t = s → Res P σ s w res v s₁))

theorem OpFact.val {e : EOp} {v : AV} {res : Result Next} (r : Rel P σ t w) (hc : clsOf e ≠ .alloc) (hs : s₁ = s) (h : t = s → Rel P σ s w → res = .ok (.value (conc σ v)) w ∧ In σ v) : OpFact P σ t s s₁ w e v res := by
  refine .inr ⟨hc, fun hts => ?_⟩
  subst hts; subst hs
  obtain ⟨h1, h2⟩ := h rfl r
  exact Res.of r h2 h1

theorem OpFact.res {e : EOp} {v : AV} {res : Result Next} (r : Rel P σ t w) (hc : clsOf e ≠ .alloc) (h : Rel P σ s w → Res P σ s w res v s₁) : OpFact P σ t s s₁ w e v res := by
  refine .inr ⟨hc, fun hts => ?_⟩
  subst hts
  exact h r

theorem run_places : ∀ (l : List Field) (w : World), l.all (fun f => (tsize P.toTables f.type).isSome) = true → (l.mapM (fun f => (do pure (f.offset, ← sizeOf f.type) : Sem (Nat × Nat)))).run P w = .ok (l.map fun f => (f.offset, (tsize P.toTables f.type).getD 0)) w := by
  intro l
  induction l with
  | nil => intro w _; rfl
  | cons f l ih =>
    intro w h
    simp only [List.all_cons, Bool.and_eq_true] at h
    obtain ⟨n, hn⟩ := isSome_get h.1
    simp only [List.mapM_cons, Sem.run_bind, run_size hn, Result.andThen_ok, Sem.run_pure, ih w h.2, List.map_cons, hn, Option.getD_some]

theorem run_placesA (w : World) {fs : Array Field} (h : fs.toList.all (fun f => (tsize P.toTables f.type).isSome) = true) :
    (fs.mapM (fun f => (do pure (f.offset, ← sizeOf f.type) : Sem (Nat × Nat)))).run P w = .ok (fs.toList.map fun f => (f.offset, (tsize P.toTables f.type).getD 0)).toArray w := by
  rw [Array.mapM_eq_mapM_toList]
  have : ∀ {α β : Type} (g : α → β) (x : Sem α) (a : α), x.run P w = .ok a w → (g <$> x).run P w = .ok (g a) w := by
    intro α β g x a h
    have e : (g <$> x) = (do pure (g (← x))) := (bind_pure_comp g x).symm
    rw [e]; simp [h]
  exact this _ _ _ (run_places fs.toList w h)

theorem places_eq {fs : Array Field} (h : fs.toList.all (fun f => (tsize P.toTables f.type).isSome) = true) (i : Nat) : (((fs.toList.map fun f => (f.offset, (tsize P.toTables f.type).getD 0)).toArray)[i]?) = fieldPlaceOf P fs i := by
  simp only [fieldPlaceOf, List.getElem?_toArray, List.getElem?_map, Array.getElem?_toList]
  cases hf : fs[i]? with
  | none => rfl
  | some f =>
    have hm : f ∈ fs.toList := by
      rw [← Array.getElem?_toList] at hf
      exact List.mem_of_getElem? hf
    obtain ⟨n, hn⟩ := isSome_get (List.all_eq_true.1 h f hm)
    simp [hn]

theorem sim_buildS (r : Rel P σ s w) (ev : REv σ T ρ) {t : TypeId} {fs : Array Field} {zs l : List AV} {parts : Array (Nat × Operand)} {ps : List (Nat × Nat × EO)} (ht : P.underlying t = some (.struct fs)) (hz : tzeros P.toTables t = some zs)
    (ha : fs.toList.all (fun f => (tsize P.toTables f.type).isSome) = true) (hp : cPlaces P (fieldPlaceOf P fs) parts.toList = some ps) (h : fillP T zs ps = some l) :
    (Instr.build t (parts.map fun (i, x) => (i, ρ x))).run P w = .ok (.agg (concL σ l).toArray) w ∧ InL σ l := by
  obtain ⟨z, z1, z2, z3⟩ := tzeros_some (w := w) r hz
  obtain ⟨f1, f2⟩ := fill_run r ev hp z3 h
  refine ⟨?_, f2⟩
  have f1' : Instr.fill (fun i => ((fs.toList.map fun f => (f.offset, (tsize P.toTables f.type).getD 0)).toArray)[i]?) z.cells (List.map (fun x => (x.1, ρ x.2)) parts.toList) = some (concL σ l).toArray := by
    rw [z2, ← f1]
    congr 1
    funext i; exact places_eq ha i
  simp only [Instr.build, Sem.run_bind, z1, run_und ht, Result.andThen_ok, run_placesA w ha, Array.toList_map]
  rw [f1']; rfl

theorem sim_buildA (r : Rel P σ s w) (ev : REv σ T ρ) {t e : TypeId} {m n : Nat} {zs l : List AV} {parts : Array (Nat × Operand)} {ps : List (Nat × Nat × EO)} (ht : P.underlying t = some (.array m e)) (hz : tzeros P.toTables t = some zs)
    (hn : tsize P.toTables e = some n) (hp : cPlaces P (fun i => some (i * n, n)) parts.toList = some ps) (h : fillP T zs ps = some l) :
    (Instr.build t (parts.map fun (i, x) => (i, ρ x))).run P w = .ok (.agg (concL σ l).toArray) w ∧ InL σ l := by
  obtain ⟨z, z1, z2, z3⟩ := tzeros_some (w := w) r hz
  obtain ⟨f1, f2⟩ := fill_run r ev hp z3 h
  refine ⟨?_, f2⟩
  have f1' : Instr.fill (fun i => some (i * n, n)) z.cells (List.map (fun x => (x.1, ρ x.2)) parts.toList) = some (concL σ l).toArray := by
    rw [z2]; exact f1
  simp [Instr.build, z1, run_und ht, run_size hn, f1']


theorem asBool_run (b : Bool) : (asBool (.bool b)).run P w = .ok b w := by simp [asBool]

theorem arr_map (a : Array Operand) : (a.map ρ).toList = a.toList.map ρ := by simp

theorem pair_at {a : Array TypeId} {x y : TypeId} (h0 : a[0]? = some x) (h1 : a[1]? = some y) : ∀ (type : TypeId) (args : Array Value), Builtin.append_ a type args = Builtin.append_ #[x, y] type args := by
  intro type args
  simp only [Builtin.append_, h0, h1, List.getElem?_toArray, List.getElem?_cons_zero, List.getElem?_cons_succ]

theorem builtin_fact (he : EOk E σ) (r : Rel P σ t w) (ev : REv σ T ρ) {c : Call} {type : TypeId} {e : EOp} {v : AV} {cl : Oracle} (hc : cCall P c = some e) (h : evOp E cl e T s = some (v, s₁)) :
    OpFact P σ t s s₁ w e v ((do let d ← resolve ρ c type; invoke d.target d.args : Sem Next).run P w) := by
  unfold cCall at hc
  split at hc
  · cases hc
  · cases hc
  · rename_i b hb
    obtain ⟨cs, hrun⟩ : ∃ cs, (do let d ← resolve ρ c type; invoke d.target d.args : Sem Next).run P w = (builtin b c.argTypes type cs (c.args.map ρ)).run P w :=
      ⟨_, by simp only [resolve, hb, pure_bind, invoke]; rfl⟩
    rw [hrun]
    have hat : ∀ {u : TypeDesc} (i : Nat), (c.argTypes[i]?).bind P.underlying = some u → ∃ t', c.argTypes[i]? = some t' ∧ P.underlying t' = some u := by
      intro u i h
      obtain ⟨t', h1, h2⟩ := bind_some h
      exact ⟨t', h1, h2⟩
    have hargl : ∀ {l : List EO}, cEOs c.args.toList = some l → c.args.map ρ = (concL σ (evs T l)).toArray ∧ InL σ (evs T l) := by
      intro l hl
      obtain ⟨q1, q2⟩ := cEOs_conc ev hl
      exact ⟨by rw [← q1]; apply Array.ext'; simp, q2⟩
    split at hc
    · -- len
      rename_i x hl
      obtain ⟨hl1, hl2⟩ := hargl hl
      simp only [evs, InL, and_true] at hl2
      have hargs : (c.args.map ρ)[0]? = some (conc σ (x.ev T)) := by rw [hl1]; rfl
      have lenV : ∀ {k : Nat} {u : TypeDesc}, (c.argTypes[0]?).bind P.underlying = some u → ((u = .string ∧ k = 0) ∨ (∃ e, u = .slice e ∧ k = 1) ∨ (∃ k' e, u = .map k' e ∧ k = 2)) → e = .len k x → OpFact P σ t s s₁ w e v ((builtin .len c.argTypes type cs (c.args.map ρ)).run P w) := by
        intro k u hu hk hee
        subst hee
        obtain ⟨t', h1, h2⟩ := hat 0 hu
        simp only [evOp] at h
        split at h
        · rename_i hi
          split at h
          · rename_i n hn
            cases h
            refine .val r (by simp [clsOf]) rfl fun _ r => ⟨?_, trivial⟩
            have go : (Builtin.len_ c.argTypes type (c.args.map ρ)).run P w = .ok (conc σ (intN n)) w := by
              simp only [Builtin.len_, h1, hargs, Sem.run_bind, run_und h2, Result.andThen_ok]
              generalize x.ev T = a at hn hi hl2
              rcases hk with ⟨rfl, rfl⟩ | ⟨e', rfl, rfl⟩ | ⟨k', e', rfl, rfl⟩
              · cases a <;> first | (simp [lenIs] at hi; done) | (simp [lenAV] at hn; subst hn; simp [conc, intN, goInt])
              · cases a <;> first | (simp [lenIs] at hi; done) | (simp [lenAV] at hn; subst hn; simp [conc, intN, goInt])
              · cases a with
                | nilm => simp [lenAV] at hn; subst hn; simp [conc, intN, goInt]
                | mp m =>
                  simp only [In] at hl2
                  obtain ⟨b, hb⟩ := isSome_get hl2
                  obtain ⟨M, m1, m2, _⟩ := r.map m b hb
                  simp only [lenAV, m1] at hn
                  cases hn
                  simp [conc, hb, run_getMap m2, intN, goInt]
                | _ => simp [lenIs] at hi
            simp only [builtin, Sem.run_bind, go, Result.andThen_ok, Sem.run_pure]
          · cases h
        · cases h
      split at hc
      · rename_i hu; cases hc; exact lenV hu (.inl ⟨rfl, rfl⟩) rfl
      · rename_i hu; cases hc; exact lenV hu (.inr (.inl ⟨_, rfl, rfl⟩)) rfl
      · rename_i hu; cases hc; exact lenV hu (.inr (.inr ⟨_, _, rfl, rfl⟩)) rfl
      · rename_i hu; cases hc
        obtain ⟨t', h1, h2⟩ := hat 0 hu
        simp only [evOp, EO.ev] at h; cases h
        exact .val r (by simp [clsOf]) rfl fun _ _ => ⟨by simp [builtin, Builtin.len_, h1, hargs, run_und h2, goInt, conc, intN], trivial⟩
      · rename_i hu
        split at hc
        · rename_i hu2
          cases hc
          obtain ⟨t', h1, h2⟩ := hat 0 hu
          simp only [evOp, EO.ev] at h; cases h
          exact .val r (by simp [clsOf]) rfl fun _ _ => ⟨by simp [builtin, Builtin.len_, h1, hargs, run_und h2, run_und hu2, goInt, conc, intN], trivial⟩
        · cases hc
      · cases hc
    · -- cap
      rename_i x hl
      obtain ⟨hl1, hl2⟩ := hargl hl
      have hargs : (c.args.map ρ)[0]? = some (conc σ (x.ev T)) := by rw [hl1]; rfl
      split at hc
      · rename_i hu
        cases hc
        obtain ⟨t', h1, h2⟩ := hat 0 hu
        simp only [evOp] at h
        split at h
        · rename_i heq; cases h
          exact .val r (by simp [clsOf]) rfl fun _ _ => ⟨by simp [builtin, Builtin.cap_, h1, hargs, run_und h2, heq, goInt, conc, intN], trivial⟩
        · rename_i heq; cases h
          exact .val r (by simp [clsOf]) rfl fun _ _ => ⟨by simp [builtin, Builtin.cap_, h1, hargs, run_und h2, heq, goInt, conc, intN, Sg.cap], trivial⟩
        · cases h
      · rename_i hu; cases hc
        obtain ⟨t', h1, h2⟩ := hat 0 hu
        simp only [evOp, EO.ev] at h; cases h
        exact .val r (by simp [clsOf]) rfl fun _ _ => ⟨by simp [builtin, Builtin.cap_, h1, hargs, run_und h2, goInt, conc, intN], trivial⟩
      · cases hc
    · -- append
      rename_i x y hl
      obtain ⟨hl1, hl2⟩ := hargl hl
      simp only [evs, InL, and_true] at hl2
      have hargs : c.args.map ρ = #[conc σ (x.ev T), conc σ (y.ev T)] := by rw [hl1]; rfl
      split at hc
      · rename_i e' u hu0 hu1
        split at hc
        · rename_i es bytes z hes hby hz
          split at hc
          · rename_i hcond
            obtain ⟨t0, a0, b0⟩ := hat 0 hu0
            obtain ⟨t1, a1, b1⟩ := hat 1 hu1
            have main : (∀ k, u ≠ .int k) → e = .app es bytes x y → OpFact P σ t s s₁ w e v ((builtin .append c.argTypes type cs (c.args.map ρ)).run P w) := by
              intro hk hee
              subst hee
              simp only [evOp] at h
              split at h
              · cases h
              · rename_i k hk'
                split at h
                · cases h
                · rename_i new hnew
                  refine .res r (by simp [clsOf]) fun r => ?_
                  have hne : (∀ m, y.ev T ≠ .mp m) ∧ y.ev T ≠ .nilm := by
                    constructor
                    · intro m hm; rw [hm] at hnew; simp [srcCells] at hnew
                    · intro hm; rw [hm] at hnew; simp [srcCells] at hnew
                  have hz0 : y.ev T = .nils ∨ (∃ a j o l e, y.ev T = .tail a j o l e) → k = 0 := by
                    rintro (hm | ⟨_, _, _, _, _, hm⟩) <;> (rw [hm] at hk'; simp [lenAV] at hk'; exact hk'.symm)
                  obtain ⟨σ', w', q1, q2, q3, q4⟩ := sim_app (type := type) r b0 hes hby hz hcond.1 hcond.2 b1 hk hl2.1 hl2.2 (lenOf_run hk' hne.1 hne.2) (fun w' r' => (src_run r' hl2.2 hnew hz0).1) (src_run r hl2.2 hnew hz0).2 h
                  refine ⟨σ', w', .inl ?_, q2, q3, q4⟩
                  rw [← q1, hargs]
                  simp only [builtin, pair_at a0 a1]
            split at hc
            · cases hc
            · cases hc; exact main (by intro k h; cases h) rfl
            · cases hc; exact main (by intro k h; cases h) rfl
            · cases hc
          · cases hc
        · cases hc
      · cases hc
    · -- max
      rename_i xs hl
      cases hc
      obtain ⟨hl1, hl2⟩ := hargl hl
      simp only [evOp] at h
      split at h
      · rename_i y l heq
        obtain ⟨h3, rfl⟩ := some2_some h
        rw [heq] at hl1 hl2
        simp only [InL] at hl2
        exact .val r (by simp [clsOf]) rfl fun _ _ => by
          obtain ⟨q1, q2⟩ := sim_fold (P := P) (w := w) (f := mxAV E) (g := Builtin.max2) (fun a b c => sim_mx he a b c) h3 hl2.1 hl2.2
          refine ⟨?_, q2⟩
          have : (Builtin.max_ c.argTypes type (c.args.map ρ)).run P w = .ok (conc σ v) w := by
            rw [hl1]; simp only [Builtin.max_, concL]; exact q1
          simp only [builtin, Sem.run_bind, this, Result.andThen_ok, Sem.run_pure]
      · cases h
    · -- min
      rename_i xs hl
      cases hc
      obtain ⟨hl1, hl2⟩ := hargl hl
      simp only [evOp] at h
      split at h
      · rename_i y l heq
        obtain ⟨h3, rfl⟩ := some2_some h
        rw [heq] at hl1 hl2
        simp only [InL] at hl2
        exact .val r (by simp [clsOf]) rfl fun _ _ => by
          obtain ⟨q1, q2⟩ := sim_fold (P := P) (w := w) (f := mnAV E) (g := Builtin.min2) (fun a b c => sim_mn he a b c) h3 hl2.1 hl2.2
          refine ⟨?_, q2⟩
          have : (Builtin.min_ c.argTypes type (c.args.map ρ)).run P w = .ok (conc σ v) w := by
            rw [hl1]; simp only [Builtin.min_, concL]; exact q1
          simp only [builtin, Sem.run_bind, this, Result.andThen_ok, Sem.run_pure]
      · cases h
    · cases hc

theorem op_fact (he : EOk E σ) (r : Rel P σ t w) (ev : REv σ T ρ) {o : Oper} {e : EOp} {v : AV} {cl : Oracle} (hc : cOp P o.op = some e) (h : evOp E cl e T s = some (v, s₁)) :
    OpFact P σ t s s₁ w e v ((execOp ρ o).run P w) := by
  unfold execOp
  generalize o.op = op at hc ⊢
  generalize o.type = type
  cases op with
  | move x =>
    obtain ⟨x', hx, rfl⟩ := map_some hc
    simp only [evOp] at h; cases h
    exact .val r (by simp [clsOf]) rfl fun _ _ => by obtain ⟨h1, h2⟩ := ev _ _ hx; exact ⟨by simp [h1], h2⟩
  | assign x =>
    obtain ⟨x', hx, rfl⟩ := map_some hc
    simp only [evOp] at h; cases h
    exact .val r (by simp [clsOf]) rfl fun _ _ => by obtain ⟨h1, h2⟩ := ev _ _ hx; exact ⟨by simp [h1], h2⟩
  | pick c a b =>
    obtain ⟨c', hc', hc⟩ := bind_some hc
    obtain ⟨a', ha', hc⟩ := bind_some hc
    obtain ⟨b', hb', hc⟩ := bind_some hc
    cases hc
    obtain ⟨ha1, ha2⟩ := ev _ _ ha'
    obtain ⟨hb1, hb2⟩ := ev _ _ hb'
    simp only [evOp] at h
    split at h
    · rename_i heq
      cases h
      obtain ⟨h1, _⟩ := ev.at hc' heq
      exact .val r (by simp [clsOf]) rfl fun _ _ => ⟨by simp [h1, conc, asBool, ha1], ha2⟩
    · rename_i heq
      cases h
      obtain ⟨h1, _⟩ := ev.at hc' heq
      exact .val r (by simp [clsOf]) rfl fun _ _ => ⟨by simp [h1, conc, asBool, hb1], hb2⟩
    · cases h
  | alloc e' =>
    obtain ⟨zs, hz, rfl⟩ := map_some hc
    exact .inl ⟨rfl, al_alloc r hz h⟩
  | box e' x =>
    obtain ⟨x', hx, rfl⟩ := map_some hc
    exact .inl ⟨rfl, al_box r ev hx h⟩
  | build ty parts =>
    simp only [cOp] at hc
    split at hc
    · rename_i fs zs hu hz
      split at hc
      · rename_i ha
        obtain ⟨ps, hp, rfl⟩ := map_some hc
        simp only [evOp] at h
        split at h
        · rename_i l hl
          cases h
          exact .val r (by simp [clsOf]) rfl fun _ r => by
            obtain ⟨q1, q2⟩ := sim_buildS r ev hu hz ha hp hl
            exact ⟨by rw [run_v, q1]; rfl, q2⟩
        · cases h
      · cases hc
    · rename_i m e' zs hu hz
      split at hc
      · rename_i n hn
        obtain ⟨ps, hp, rfl⟩ := map_some hc
        simp only [evOp] at h
        split at h
        · rename_i l hl
          cases h
          exact .val r (by simp [clsOf]) rfl fun _ r => by
            obtain ⟨q1, q2⟩ := sim_buildA r ev hu hz hn hp hl
            exact ⟨by rw [run_v, q1]; rfl, q2⟩
        · cases h
      · cases hc
    · cases hc
  | buildSlice ty len parts =>
    simp only [cOp] at hc
    split at hc
    · rename_i e' hu
      split at hc
      · rename_i n z hn hz
        split at hc
        · rename_i hcond
          obtain ⟨ps, hp, rfl⟩ := map_some hc
          exact .inl ⟨rfl, al_buildSl r ev hu hn hz hcond.1 hcond.2.1 hcond.2.2 hp h⟩
        · cases hc
      · cases hc
    · cases hc
  | load ty a =>
    simp only [cOp] at hc
    split at hc
    · rename_i n hg hn
      obtain ⟨a', ha, rfl⟩ := map_some hc
      simp only [evOp] at h
      split at h
      · rename_i aa j o heq
        split at h
        · rename_i l hl
          cases h
          obtain ⟨h1, h2⟩ := ev.at ha heq
          exact .val r (by simp [clsOf]) rfl fun _ r => by
            obtain ⟨q1, q2⟩ := sim_ldn r h2 hg hn hl
            exact ⟨by rw [run_v, h1, q1]; rfl, q2⟩
        · cases h
      · cases h
    · rename_i hg
      obtain ⟨a', ha, rfl⟩ := map_some hc
      simp only [evOp] at h
      split at h
      · rename_i aa j o heq
        obtain ⟨hl, rfl⟩ := some2_some h
        obtain ⟨h1, h2⟩ := ev.at ha heq
        exact .val r (by simp [clsOf]) rfl fun _ r => by
          obtain ⟨q1, q2⟩ := sim_ld1 r h2 hg hl
          exact ⟨by rw [run_v, h1, q1]; rfl, q2⟩
      · cases h
    · cases hc
  | store ty a x =>
    simp only [cOp] at hc
    split at hc
    · rename_i n hn
      obtain ⟨a', ha, hc⟩ := bind_some hc
      obtain ⟨x', hx, hc⟩ := bind_some hc
      cases hc
      simp only [evOp] at h
      split at h
      · rename_i aa j o heq
        split at h
        · rename_i hl
          split at h
          · rename_i s' hs
            cases h
            obtain ⟨h1, h2⟩ := ev.at ha heq
            obtain ⟨h3, h4⟩ := ev _ _ hx
            refine .res r (by simp [clsOf]) fun r => ?_
            rw [beq_eq] at hl
            obtain ⟨w', q1, q2, q3⟩ := sim_st r h2 h4 hn (by simpa using hl) hs
            exact ⟨σ, w', .inr ⟨rfl, by rw [run_u, h1, h3, q1]; rfl⟩, q2, trivial, q3⟩
          · cases h
        · cases h
      · cases h
    · cases hc
  | nilCheck x =>
    obtain ⟨x', hx, rfl⟩ := map_some hc
    simp only [evOp] at h
    split at h
    · rename_i heq; cases h
      obtain ⟨h1, h2⟩ := ev.at hx heq
      exact .val r (by simp [clsOf]) rfl fun _ _ => ⟨by simp [h1, conc], h2⟩
    · rename_i heq; cases h
      obtain ⟨h1, h2⟩ := ev.at hx heq
      exact .val r (by simp [clsOf]) rfl fun _ _ => ⟨by simp [h1, conc], h2⟩
    · rename_i heq; cases h
      obtain ⟨h1, h2⟩ := ev.at hx heq
      exact .val r (by simp [clsOf]) rfl fun _ _ => ⟨by simp [h1, conc], h2⟩
    · cases h
  | binOp op ty x y m =>
    simp only [cOp] at hc
    obtain ⟨x', hx, hc⟩ := bind_some hc
    obtain ⟨y', hy, hc⟩ := bind_some hc
    obtain ⟨hx1, hx2⟩ := ev _ _ hx
    obtain ⟨hy1, hy2⟩ := ev _ _ hy
    have eqs : ∀ (n : Bool) (k : EqK), op = eqOp n → eqKind P ty = some k → e = .eq n k x' y' → OpFact P σ t s s₁ w e v ((do pure (Next.value (← (do eqGuard op ty x y (ρ x) (ρ y); binOp op ty (ρ x) (ρ y)))) : Sem Next).run P w) := by
      intro n k ho hk hee
      subst hee; subst ho
      simp only [evOp] at h
      obtain ⟨h1, rfl⟩ := some2_some h
      obtain ⟨b, h2, rfl⟩ := xorb_some h1
      exact .val r (by simp [clsOf]) rfl fun _ r => ⟨by rw [run_v, hx1, hy1, sim_eq he hk hx2 hy2 h2 n x y]; rfl, trivial⟩
    split at hc
    · obtain ⟨k, hk, hee⟩ := map_some hc
      exact eqs false k rfl hk hee.symm
    · obtain ⟨k, hk, hee⟩ := map_some hc
      exact eqs true k rfl hk hee.symm
    · rename_i hn1 hn2
      cases hc
      simp only [evOp] at h
      obtain ⟨h1, rfl⟩ := some2_some h
      exact .val r (by simp [clsOf]) rfl fun _ r => by
        obtain ⟨q1, q2⟩ := sim_bin (P := P) (w := w) he h1 ty
        refine ⟨?_, q2⟩
        rw [run_v, Sem.run_bind, guard_run hn1 hn2, Result.andThen_ok, hx1, hy1, q1]; rfl
  | unOp op ty x =>
    obtain ⟨x', hx, rfl⟩ := map_some hc
    simp only [evOp] at h
    split at h
    · rename_i heq; cases h
      obtain ⟨h1, h2⟩ := ev.at hx heq
      exact .val r (by simp [clsOf]) rfl fun _ _ => ⟨by simp [h1, conc, Op.unary], trivial⟩
    · rename_i heq
      obtain ⟨h3, rfl⟩ := some2_some h
      simp only [intBin] at h3; cases h3
      obtain ⟨h1, h2⟩ := ev.at hx heq
      exact .val r (by simp [clsOf]) rfl fun _ _ => ⟨by rw [run_v, h1]; simp only [conc]; rw [sim_un]; rfl, trivial⟩
    · rename_i heq
      obtain ⟨h3, rfl⟩ := some2_some h
      simp only [intBin] at h3; cases h3
      obtain ⟨h1, h2⟩ := ev.at hx heq
      exact .val r (by simp [clsOf]) rfl fun _ _ => ⟨by rw [run_v, h1]; simp [conc, Op.unary, Op.intBits], trivial⟩
    · cases h
  | convert a d x =>
    simp only [cOp] at hc
    split at hc
    · rename_i u k hu hd
      obtain ⟨x', hx, rfl⟩ := map_some hc
      simp only [evOp] at h
      split at h
      · rename_i heq; cases h
        obtain ⟨h1, h2⟩ := ev.at hx heq
        exact .val r (by simp [clsOf]) rfl fun _ _ => ⟨by rw [run_v, h1]; simp only [conc]; rw [sim_cvInt hu hd]; rfl, trivial⟩
      · rename_i i o heq
        obtain ⟨h1, h2⟩ := ev.at hx heq
        split at h
        · rename_i hk
          have := isI64_eq hk
          subst this
          split at h
          · rename_i hok; cases h
            exact .val r (by simp [clsOf]) rfl fun _ _ => ⟨by rw [run_v, h1]; simp only [conc]; rw [sim_cvInt hu hd, i64ok_spec he hok]; rfl, trivial⟩
          · cases h
        · split at h
          · rename_i hk
            have := isU64_eq hk
            subst this
            split at h
            · rename_i ho
              simp at ho; subst ho
              cases h
              exact .val r (by simp [clsOf]) rfl fun _ _ => ⟨by rw [run_v, h1]; simp only [conc]; rw [sim_cvInt hu hd, Int.add_zero]; rfl, trivial⟩
            · cases h
          · cases h
      · cases h
    · rename_i hu hd
      obtain ⟨x', hx, rfl⟩ := map_some hc
      simp only [evOp] at h
      split at h
      · rename_i heq; cases h
        obtain ⟨h1, h2⟩ := ev.at hx heq
        exact .val r (by simp [clsOf]) rfl fun _ _ => ⟨by rw [run_v, h1]; simp only [conc]; rw [sim_cvStr hu hd]; rfl, trivial⟩
      · cases h
    · rename_i e' hu hd
      split at hc
      · rename_i he'
        obtain ⟨x', hx, rfl⟩ := map_some hc
        exact .inl ⟨rfl, al_cvSB r ev hu hd he' hx h⟩
      · cases hc
    · rename_i e' hu hd
      split at hc
      · rename_i he'
        obtain ⟨x', hx, rfl⟩ := map_some hc
        simp only [evOp] at h
        split at h
        · rename_i heq; cases h
          obtain ⟨h1, h2⟩ := ev.at hx heq
          exact .val r (by simp [clsOf]) rfl fun _ _ => ⟨by rw [run_v, h1, sim_cvBS hu hd he' (x := conc σ .nils) (ns := []) (.inl ⟨rfl, rfl⟩)]; rfl, trivial⟩
        · rename_i heq; cases h
          obtain ⟨h1, h2⟩ := ev.at hx heq
          exact .val r (by simp [clsOf]) rfl fun _ _ => ⟨by rw [run_v, h1, sim_cvBS hu hd he' (x := conc σ (.tail _ _ _ _ _)) (ns := []) (.inr ⟨_, _, _, rfl, by simp [loadCells, loadCellsFrom]⟩)]; rfl, trivial⟩
        · rename_i a j off len cp heq
          obtain ⟨h1, h2⟩ := ev.at hx heq
          have hin : j < (σ.ar a).length ∧ (σ.vi a j).sh ≤ off := by
            cases cp <;> (simp only [In] at h2; exact ⟨h2.1, h2.2.1⟩)
          rw [beq_eq] at h
          split at h
          · rename_i h0
            simp at h0; subst h0
            cases h
            exact .val r (by simp [clsOf]) rfl fun _ _ => ⟨by rw [run_v, h1, sim_cvBS hu hd he' (x := conc σ (.sl _ _ _ _ _)) (ns := []) (.inr ⟨_, _, _, rfl, by simp [loadCells, loadCellsFrom]⟩)]; rfl, trivial⟩
          · split at h
            · rename_i l hl
              split at h
              · rename_i b hb
                cases h
                refine .val r (by simp [clsOf]) rfl fun _ r => ⟨?_, trivial⟩
                obtain ⟨ns, n1, n2⟩ := bytesOfL_conc (σ := σ) hb
                obtain ⟨l1, _, _⟩ := r.rdN hin.1 hin.2 hl
                rw [run_v, h1, sim_cvBS hu hd he' (x := conc σ (.sl _ _ _ _ _)) (ns := ns) (.inr ⟨_, _, _, rfl, by rw [← n1]; exact l1⟩), ← n2]; rfl
              · cases h
            · cases h
        · cases h
      · cases hc
    · cases hc
  | makeInterface ty x =>
    simp only [cOp] at hc
    split at hc
    · cases hc
    · rename_i u hu hni
      obtain ⟨x', hx, rfl⟩ := map_some hc
      simp only [evOp] at h; cases h
      obtain ⟨h1, h2⟩ := ev _ _ hx
      refine .val r (by simp [clsOf]) rfl fun _ _ => ⟨?_, h2⟩
      rw [run_v]
      have : (Instr.makeInterface ty (ρ x)).run P w = .ok (.iface ty (ρ x)) w := by
        simp only [Instr.makeInterface, Sem.run_bind, run_und hni, Result.andThen_ok]
        cases u <;> first | rfl | exact absurd rfl (hu _)
      rw [this, h1]; rfl
    · cases hc
  | makeFunc f a b =>
    cases f with
    | func f =>
      simp only [cOp] at hc
      obtain ⟨a', ha, hc⟩ := bind_some hc
      obtain ⟨b', hb, hc⟩ := bind_some hc
      cases hc
      simp only [evOp] at h; cases h
      obtain ⟨a1, a2⟩ := cEOs_conc ev ha
      obtain ⟨b1, b2⟩ := cEOs_conc ev hb
      refine .val r (by simp [clsOf]) rfl fun _ _ => ⟨?_, a2, b2⟩
      have e1 : a.map ρ = (concL σ (evs T a')).toArray := by rw [← a1]; apply Array.ext'; simp
      have e2 : b.map ρ = (concL σ (evs T b')).toArray := by rw [← b1]; apply Array.ext'; simp
      simp [Instr.makeFunc, e1, e2, conc]
    | _ => cases hc
  | makeMap ty m =>
    cases m with
    | none =>
      cases hc
      exact .inl ⟨rfl, al_mkMap h⟩
    | some _ => cases hc
  | makeSlice ty l c =>
    simp only [cOp] at hc
    split at hc
    · rename_i e' hu
      split at hc
      · rename_i es bytes z hn hb hz
        split at hc
        · rename_i hcond
          obtain ⟨l', hl, hc⟩ := bind_some hc
          obtain ⟨c', hc', hc⟩ := bind_some hc
          cases hc
          exact .inl ⟨rfl, al_mkSl r ev hu hn hb hz hcond.1 hcond.2 hl hc' h⟩
        · cases hc
      · cases hc
    · cases hc
  | slice ty x lo hi mx =>
    simp only [cOp] at hc
    obtain ⟨x', hx, hc⟩ := bind_some hc
    obtain ⟨lo', hlo, hc⟩ := bind_some hc
    obtain ⟨hi', hhi, hc⟩ := bind_some hc
    obtain ⟨mx', hmx, hc⟩ := bind_some hc
    show OpFact P σ t s s₁ w e v ((do pure (Next.value (← Instr.sliceAt ty (ρ x) (lo.map ρ) (hi.map ρ) (mx.map ρ))) : Sem Next).run P w)
    rw [optEO_map ev hlo, optEO_map ev hhi, optEO_map ev hmx]
    split at hc
    · rename_i hu
      split at hc
      · cases hc
        simp only [evOp] at h
        split at h
        · rename_i b heq
          obtain ⟨h1, h2⟩ := ev.at hx heq
          split at h
          · cases h
          · rename_i hh hhe
            split at h
            · cases h
            · rename_i ll hle
              split at h
              · rename_i hb
                simp only [Bool.and_eq_true, ble_eq, decide_eq_true_eq] at hb
                cases h
                exact .val r (by simp [clsOf]) rfl fun _ _ => ⟨by
                  have e0 : (optEv T none).map (conc σ) = none := rfl
                  rw [run_v, h1, e0]
                  have := sim_slStr (P := P) (σ := σ) (w := w) hu hhe hle hb.1 hb.2
                  simp only [conc]
                  rw [this]; rfl, trivial⟩
              · cases h
        · cases h
      · cases hc
    · rename_i e' hu
      obtain ⟨n, hn, hc⟩ := bind_some hc
      split at hc
      · rename_i hn1
        cases hc
        simp only [evOp] at h
        obtain ⟨h3, rfl⟩ := some2_some h
        obtain ⟨h1, h2⟩ := ev _ _ hx
        exact .val r (by simp [clsOf]) rfl fun _ _ => by
          obtain ⟨q1, q2⟩ := sim_slSl (w := w) hu hn hn1 h2 h3
          exact ⟨by rw [run_v, h1, q1]; rfl, q2⟩
      · cases hc
    · rename_i n e' hu
      obtain ⟨m, hm, hc⟩ := bind_some hc
      split at hc
      · cases hc
        simp only [evOp] at h
        split at h
        · rename_i a j o heq
          obtain ⟨h3, rfl⟩ := some2_some h
          obtain ⟨h1, h2⟩ := ev.at hx heq
          exact .val r (by simp [clsOf]) rfl fun _ _ => by
            obtain ⟨q1, q2⟩ := sim_slArr (w := w) (.inl hu) hm h2 h3
            exact ⟨by rw [run_v, h1, q1]; rfl, q2⟩
        · cases h
      · cases hc
    · rename_i arr hu
      split at hc
      · rename_i n e' hu2
        obtain ⟨m, hm, hc⟩ := bind_some hc
        split at hc
        · cases hc
          simp only [evOp] at h
          split at h
          · rename_i a j o heq
            obtain ⟨h3, rfl⟩ := some2_some h
            obtain ⟨h1, h2⟩ := ev.at hx heq
            exact .val r (by simp [clsOf]) rfl fun _ _ => by
              obtain ⟨q1, q2⟩ := sim_slArr (w := w) (.inr ⟨arr, hu, hu2⟩) hm h2 h3
              exact ⟨by rw [run_v, h1, q1]; rfl, q2⟩
          · cases h
        · cases hc
      · cases hc
    · cases hc
  | fieldAddr ty x i =>
    simp only [cOp] at hc
    split at hc
    · rename_i fs hu
      split at hc
      · rename_i f hf
        split at hc
        · cases hc
        · rename_i n hn0 hn
          obtain ⟨x', hx, rfl⟩ := map_some hc
          simp only [evOp] at h
          split at h
          · rename_i a j o heq; cases h
            obtain ⟨h1, h2⟩ := ev.at hx heq
            obtain ⟨m, rfl⟩ : ∃ m, n = m + 1 := by
              cases n with
              | zero => exact absurd rfl hn0
              | succ m => exact ⟨m, rfl⟩
            exact .val r (by simp [clsOf]) rfl fun _ _ => by
              obtain ⟨q1, q2⟩ := sim_fldA (w := w) hu hf hn h2
              exact ⟨by rw [run_v, h1, q1]; rfl, q2⟩
          · cases h
        · cases hc
      · cases hc
    · cases hc
  | field ty x i =>
    simp only [cOp] at hc
    split at hc
    · rename_i fs hu
      split at hc
      · rename_i f hf
        split at hc
        · rename_i g n hg hn
          obtain ⟨x', hx, rfl⟩ := map_some hc
          simp only [evOp] at h
          split at h
          · rename_i l heq
            obtain ⟨h3, rfl⟩ := some2_some h
            obtain ⟨h1, h2⟩ := ev.at hx heq
            exact .val r (by simp [clsOf]) rfl fun _ _ => by
              obtain ⟨q1, q2⟩ := part_run (w := w) hg hn h2 h3
              exact ⟨by rw [run_v, h1]; simp [Instr.field, run_und hu, hf, conc, asAgg, q1], q2⟩
          · cases h
        · cases hc
      · cases hc
    · cases hc
  | indexAddr ty x i =>
    simp only [cOp] at hc
    split at hc
    · rename_i e' hu
      obtain ⟨n, hn, hc⟩ := bind_some hc
      obtain ⟨x', hx, hc⟩ := bind_some hc
      obtain ⟨i', hi, hc⟩ := bind_some hc
      cases hc
      simp only [evOp] at h
      split at h
      · rename_i a j o len cp heq
        obtain ⟨h1, h2⟩ := ev.at hx heq
        split at h
        · rename_i k hk
          obtain ⟨kd, h3⟩ := natOf_at ev hi hk
          split at h
          · rename_i hb
            simp only [ltb_eq, decide_eq_true_eq] at hb
            cases h
            exact .val r (by simp [clsOf]) rfl fun _ _ => by
              obtain ⟨q1, q2⟩ := sim_ixA (w := w) hu hn h2 (k := kd) hb
              exact ⟨by rw [run_v, h1, h3, q1]; rfl, q2⟩
          · cases h
        · cases h
      · cases h
    · rename_i m e' hu
      obtain ⟨n, hn, hc⟩ := bind_some hc
      obtain ⟨x', hx, hc⟩ := bind_some hc
      obtain ⟨i', hi, hc⟩ := bind_some hc
      cases hc
      simp only [evOp] at h
      split at h
      · rename_i a j o heq
        obtain ⟨h1, h2⟩ := ev.at hx heq
        split at h
        · rename_i k hk
          obtain ⟨kd, h3⟩ := natOf_at ev hi hk
          split at h
          · rename_i hb
            simp only [ltb_eq, decide_eq_true_eq] at hb
            cases h
            exact .val r (by simp [clsOf]) rfl fun _ _ => by
              obtain ⟨q1, q2⟩ := sim_ixAA (w := w) hu hn h2 (k := kd) hb
              exact ⟨by rw [run_v, h1, h3, q1]; rfl, q2⟩
          · cases h
        · cases h
      · cases h
    · cases hc
  | index ty x i =>
    simp only [cOp] at hc
    split at hc
    · rename_i hu
      obtain ⟨x', hx, hc⟩ := bind_some hc
      obtain ⟨i', hi, hc⟩ := bind_some hc
      cases hc
      simp only [evOp] at h
      split at h
      · rename_i b heq
        obtain ⟨h1, h2⟩ := ev.at hx heq
        split at h
        · rename_i k hk
          obtain ⟨kd, h3⟩ := natOf_at ev hi hk
          split at h
          · rename_i c hcc
            cases h
            exact .val r (by simp [clsOf]) rfl fun _ _ => ⟨by rw [run_v, h1, h3]; simp [Instr.index, asIntOf, run_und hu, conc, hcc], trivial⟩
          · cases h
        · cases h
      · cases h
    · rename_i len e' hu
      split at hc
      · rename_i g n hg hn
        obtain ⟨x', hx, hc⟩ := bind_some hc
        obtain ⟨i', hi, hc⟩ := bind_some hc
        cases hc
        simp only [evOp] at h
        split at h
        · rename_i l heq
          obtain ⟨h1, h2⟩ := ev.at hx heq
          split at h
          · rename_i k hk
            obtain ⟨kd, h3⟩ := natOf_at ev hi hk
            split at h
            · rename_i hb
              simp only [ltb_eq, decide_eq_true_eq] at hb
              obtain ⟨h4, rfl⟩ := some2_some h
              exact .val r (by simp [clsOf]) rfl fun _ _ => by
                obtain ⟨q1, q2⟩ := part_run (w := w) hg hn h2 h4
                refine ⟨?_, q2⟩
                have hr : (0 : Int) ≤ (k : Int) ∧ (k : Int) < (len : Int) := by omega
                rw [run_v, h1, h3]
                simp only [Instr.index, asIntOf, Sem.run_bind, Sem.run_pure, Result.andThen_ok, run_und hu, conc]
                rw [if_pos hr]
                simp [run_size hn, q1]
            · cases h
          · cases h
        · cases h
      · cases hc
    · cases hc
  | lookup ty x i ok =>
    simp only [cOp] at hc
    split at hc
    · rename_i k' e' hu
      split at hc
      · rename_i q z hq hz
        obtain ⟨x', hx, hc⟩ := bind_some hc
        obtain ⟨i', hi, hc⟩ := bind_some hc
        cases hc
        obtain ⟨hx1, hx2⟩ := ev _ _ hx
        obtain ⟨hi1, hi2⟩ := ev _ _ hi
        simp only [evOp] at h
        split at h
        · rename_i p u bn hp
          cases h
          exact .val r (by simp [clsOf]) rfl fun _ r => by
            obtain ⟨q1, q2⟩ := sim_look r he hu hq hz (ok := ok) hx2 hi2 hp _ rfl
            exact ⟨by rw [run_v, hx1, hi1, q1]; rfl, q2⟩
        · rename_i hp
          cases h
          exact .val r (by simp [clsOf]) rfl fun _ r => by
            obtain ⟨q1, q2⟩ := sim_look r he hu hq hz (ok := ok) hx2 hi2 hp _ rfl
            exact ⟨by rw [run_v, hx1, hi1, q1]; rfl, q2⟩
        · cases h
      · cases hc
    · cases hc
  | mapUpdate ty m k x =>
    simp only [cOp] at hc
    split at hc
    · rename_i kt e' hu
      obtain ⟨q, hq, hc⟩ := bind_some hc
      obtain ⟨m', hm, hc⟩ := bind_some hc
      obtain ⟨k', hk, hc⟩ := bind_some hc
      obtain ⟨x', hx, hc⟩ := bind_some hc
      cases hc
      simp only [evOp] at h
      split at h
      · rename_i b heq
        obtain ⟨h1, h2⟩ := ev.at hm heq
        obtain ⟨h3, h4⟩ := ev _ _ hk
        obtain ⟨h5, h6⟩ := ev _ _ hx
        split at h
        · rename_i M hM
          split at h
          · rename_i p u bn hp
            cases h
            refine .res r (by simp [clsOf]) fun r => ?_
            obtain ⟨w', q1, q2, q3⟩ := run_mset r he hu hq h2 h4 h6 hM hp rfl
            exact ⟨σ, w', .inr ⟨rfl, by rw [run_u, h1, h3, h5, q1]; rfl⟩, q2, trivial, q3⟩
          · rename_i hp
            cases h
            refine .res r (by simp [clsOf]) fun r => ?_
            obtain ⟨w', q1, q2, q3⟩ := run_mset r he hu hq h2 h4 h6 hM hp rfl
            exact ⟨σ, w', .inr ⟨rfl, by rw [run_u, h1, h3, h5, q1]; rfl⟩, q2, trivial, q3⟩
          · cases h
        · cases h
      · cases h
    · cases hc
  | insert ty m k x =>
    simp only [cOp] at hc
    split at hc
    · rename_i kt e' hu
      obtain ⟨q, hq, hc⟩ := bind_some hc
      obtain ⟨m', hm, hc⟩ := bind_some hc
      obtain ⟨k', hk, hc⟩ := bind_some hc
      obtain ⟨x', hx, hc⟩ := bind_some hc
      cases hc
      simp only [evOp] at h
      split at h
      · rename_i b heq
        obtain ⟨h1, h2⟩ := ev.at hm heq
        obtain ⟨h3, h4⟩ := ev _ _ hk
        obtain ⟨h5, h6⟩ := ev _ _ hx
        split at h
        · rename_i M hM
          split at h
          · rename_i p u bn hp
            cases h
            refine .res r (by simp [clsOf]) fun r => ?_
            obtain ⟨w', q1, q2, q3⟩ := run_mset r he hu hq h2 h4 h6 hM hp rfl
            exact ⟨σ, w', .inr ⟨rfl, by rw [run_u, h1, h3, h5, q1]; rfl⟩, q2, trivial, q3⟩
          · rename_i hp
            cases h
            refine .res r (by simp [clsOf]) fun r => ?_
            obtain ⟨w', q1, q2, q3⟩ := run_mset r he hu hq h2 h4 h6 hM hp rfl
            exact ⟨σ, w', .inr ⟨rfl, by rw [run_u, h1, h3, h5, q1]; rfl⟩, q2, trivial, q3⟩
          · cases h
        · cases h
      · cases h
    · cases hc
  | mapEntry ty m k =>
    simp only [cOp] at hc
    split at hc
    · rename_i kt e' hu
      obtain ⟨q, hq, hc⟩ := bind_some hc
      obtain ⟨z, hz, hc⟩ := bind_some hc
      obtain ⟨m', hm, hc⟩ := bind_some hc
      obtain ⟨k', hk, hc⟩ := bind_some hc
      cases hc
      simp only [evOp] at h
      split at h
      · rename_i b heq
        obtain ⟨h1, h2⟩ := ev.at hm heq
        obtain ⟨h3, h4⟩ := ev _ _ hk
        split at h
        · rename_i M hM
          split at h
          · rename_i p u bn hp
            cases h
            refine .res r (by simp [clsOf]) fun r => ?_
            obtain ⟨w', q1, q4, q2, q3⟩ := run_ment r he hu hq hz h2 h4 hM hp rfl rfl
            exact ⟨σ, w', .inl (by rw [run_v, h1, h3, q1]; rfl), q2, q4, q3⟩
          · rename_i hp
            cases h
            refine .res r (by simp [clsOf]) fun r => ?_
            obtain ⟨w', q1, q4, q2, q3⟩ := run_ment r he hu hq hz h2 h4 hM hp rfl rfl
            exact ⟨σ, w', .inl (by rw [run_v, h1, h3, q1]; rfl), q2, q4, q3⟩
          · cases h
        · cases h
      · cases h
    · cases hc
  | entryStore ty m b x =>
    simp only [cOp] at hc
    obtain ⟨m', hm, hc⟩ := bind_some hc
    obtain ⟨b', hb, hc⟩ := bind_some hc
    obtain ⟨x', hx, hc⟩ := bind_some hc
    cases hc
    simp only [evOp] at h
    split at h
    · rename_i q heq
      obtain ⟨h1, h2⟩ := ev.at hm heq
      obtain ⟨h3, h4⟩ := ev _ _ hb
      obtain ⟨h5, h6⟩ := ev _ _ hx
      split at h
      · rename_i M hM
        split at h
        · rename_i k hk
          split at h
          · rename_i l hl
            cases h
            refine .res r (by simp [clsOf]) fun r => ?_
            obtain ⟨w', q1, q2, q3⟩ := run_mest (t := ty) r h2 hk h6 hM hl
            exact ⟨σ, w', .inr ⟨rfl, by rw [run_u, h1, h3, h5, q1]; rfl⟩, q2, trivial, q3⟩
          · cases h
        · cases h
      · cases h
    · cases h
  | extract x i =>
    obtain ⟨x', hx, rfl⟩ := map_some hc
    simp only [evOp] at h
    split at h
    · rename_i l heq
      obtain ⟨h3, rfl⟩ := some2_some h
      obtain ⟨h1, h2⟩ := ev.at hx heq
      exact .val r (by simp [clsOf]) rfl fun _ _ => by
        obtain ⟨q1, q2⟩ := sim_ext (P := P) (w := w) rfl h2 h3
        exact ⟨by rw [run_v, h1, q1]; rfl, q2⟩
    · cases h
  | call c => exact builtin_fact he r ev hc h
  | _ => cases hc

theorem alloc_fact {o : Oper} {e : EOp} {v : AV} {cl : Oracle} (he : EOk E σ) (r : Rel P σ t w) (ev : REv σ T ρ) (hc : cOp P o.op = some e) (hn : clsOf e = .alloc) (h : evOp E cl e T s = some (v, s₁)) :
    AllocRes P σ w s v s₁ ((execOp ρ o).run P w) := by
  rcases op_fact he r ev hc h with ⟨_, k⟩ | ⟨k, _⟩
  · exact k
  · exact absurd hn k

theorem evOp_sound {o : Oper} {e : EOp} {v : AV} {cl : Oracle} (he : EOk E σ) (r : Rel P σ s w) (ev : REv σ T ρ) (hc : cOp P o.op = some e) (h : evOp E cl e T s = some (v, s₁)) :
    Res P σ s w ((execOp ρ o).run P w) v s₁ := by
  rcases op_fact he r ev hc h with ⟨ha, k⟩ | ⟨_, k⟩
  · have hm := evOp_alloc ha h
    have mm := hm.more
    have r' : Rel P σ s₁ w := r.more mm (hm.wf r.wf)
    obtain ⟨σ', w', q1, q2, q3, q4, _, _⟩ := k.late (B := s.na) (Bm := s.nm) r' (Nat.le_refl _) (Nat.le_refl _) (Nat.le_refl _) (Nat.le_refl _)
      (fun a h1 _ => ⟨r.na a h1, rfl⟩) (fun m h1 _ => ⟨r.nm m h1, rfl⟩)
    refine ⟨σ', w', .inl q1, q2, q3, ?_⟩
    exact ⟨q4.le, q4.img, q4.fr, q4.size, q4.os, q4.tape, q4.output, Nat.le_trans mm.na q4.na, Nat.le_trans mm.nm q4.nm, Nat.le_trans mm.nl q4.nl,
      fun a ha h0 => by obtain ⟨x1, x2⟩ := q4.fa a ha h0; exact ⟨by rw [x1, mm.arr a ha], x2⟩, fun a ha h0 => by obtain ⟨x1, x2⟩ := q4.fm a ha h0; exact ⟨by rw [x1, mm.map a ha], x2⟩⟩
  · exact k rfl

end
end Go.Ab
