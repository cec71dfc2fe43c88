/- Soundness of the abstract evaluator: a drawn region, whatever the order. -/
import Derived.Test.YthekpkcmlndcmaaGreatAbD4
noncomputable section
namespace Go.Ab

theorem RTmp.ext {σ : Sg} {N : Nat} {T T' : Tr AV} {tmps : Array Value} (r : RTmp σ N T tmps) (h : ∀ t, (EO.t t).ev T' = (EO.t t).ev T) : RTmp σ N T' tmps :=
  ⟨r.1, fun t => by rw [h t]; exact r.2 t⟩

/-- An operation in its frame, once what it comes to is known. -/
theorem opsim_of_run {P : Program} {ops : Array Oper} {i : Nat} {o : Oper} {tmps : Array Value} {w w' : World} {V : Value} (ho : ops[i]? = some o) (hw : Region.wanted o (yielded ops tmps) = true)
    (hd : ∀ c, o.op ≠ .defer c)
    (h : (execOp (fun x => match x with | .tmp t => tmps.getD t Go.undef | .const v => v | .global g => .pointer (some ⟨g, 0, none⟩) | .func f => .func (.func f) #[] #[]) o).run P w = .ok (.value V) w') :
    OpSim P ops i tmps w (putV tmps o.dst V) w' := by
  intro b k cs rest hb ht
  subst ht
  have heq : ({ b with todo := .inRegion ops (i :: rest) :: k } : Frame).eval = (fun x => match x with | .tmp t => b.tmps.getD t Go.undef | .const v => v | .global g => .pointer (some ⟨g, 0, none⟩) | .func f => .func (.func f) #[] #[]) := by
    funext x; cases x <;> rfl
  rw [← finish_region b ops i rest k _ ho]
  refine .one (step_lone_go ?_)
  rw [stepG_oper hb ho hw hd, heq]
  exact apply_value h

theorem cOpB_alloc {P : Program} {o : Op} {e : EOp} (h : cOpB P o = e) (hc : clsOf e = .alloc) : cOp P o = some e := by
  unfold cOpB at h
  split at h
  · split at h
    · split at h
      · subst h; cases hc
      · subst h; cases hc
    · subst h; cases hc
  · split at h
    · split at h
      · subst h; cases hc
      · subst h; assumption
    · subst h; cases hc

theorem evOper_same {E : Env} {cl : Oracle} {o : EOper} {T : Tr AV} {s s₁ : AS} {v : AV} (hc : clsOf o.op ≠ .change) (h : evOper E cl o T s = some (v, s₁)) : OneMore s s₁ := by
  unfold evOper at h
  split at h
  · cases hk : clsOf o.op with
    | pure => exact .inl (evOp_pure hk h).1
    | read => exact .inl (evOp_read hk h).1
    | alloc => exact evOp_alloc hk h
    | change => exact absurd hk hc
  · cases h; exact .inl rfl
  · cases h

theorem evOper_pure {E : Env} {cl : Oracle} {o : EOper} {T : Tr AV} {s s₁ : AS} {v : AV} (hc : clsOf o.op = .pure) (h : evOper E cl o T s = some (v, s₁)) : ∀ s₂, evOper E cl o T s₂ = some (v, s₂) := by
  intro s₂
  unfold evOper at h ⊢
  split at h
  · exact (evOp_pure hc h).2 s₂
  · cases h; rfl
  · cases h

theorem evOper_read {E : Env} {cl : Oracle} {o : EOper} {T : Tr AV} {s s₁ : AS} {v : AV} (hc : clsOf o.op = .read) (h : evOper E cl o T s = some (v, s₁)) : ∀ s₂, AExt s s₂ → evOper E cl o T s₂ = some (v, s₂) := by
  intro s₂ hs
  unfold evOper at h ⊢
  split at h
  · exact (evOp_read hc h).2 s₂ hs
  · cases h; rfl
  · cases h

/-- Changes come in the row's order. -/
def ChainOk (L : List RI) : List Nat → List Nat → Prop
  | _, [] => True
  | D, i :: l => (∀ (p p' : Nat) (c c' : RI), L[p]? = some c → L[p']? = some c' → p < p' → c.cls = .change → c'.cls = .change → c'.i = i → c.i ∈ D) ∧ ChainOk L (i :: D) l

structure Inv (P : Program) (N : Nat) (L : List RI) (T : Nat → Tr AV) (S : Nat → AS) (V : Nat → AV) (D : List Nat) (q : Nat) (σ : Sg) (tmps : Array Value) (w : World) : Prop where
  hq : q ≤ L.length
  cD : ∀ (p : Nat) (r : RI), L[p]? = some r → r.cls = .change → (r.i ∈ D ↔ p < q)
  stop : q = L.length ∨ ∃ r, L[q]? = some r ∧ r.cls = .change
  mid : ∃ c0, c0 ≤ q ∧ (∀ (p : Nat) (r : RI), c0 ≤ p → p < q → L[p]? = some r → r.cls ≠ .change) ∧ (c0 = 0 ∨ ∃ c r, c0 = c + 1 ∧ L[c]? = some r ∧ r.cls = .change) ∧ (S c0).wf
  rel : Rel P σ (S q) w
  tmp : RTmp σ N (foldT V (inD D) L 0 (T 0)) tmps
  pend : ∀ (p : Nat) (r : RI), p < q → L[p]? = some r → r.cls = .alloc → r.i ∉ D →
    (∀ a, (S p).na ≤ a → a < (S (p + 1)).na → σ.ar a = [] ∧ (S q).arrs.get a = (S (p + 1)).arrs.get a) ∧ (∀ m, (S p).nm ≤ m → m < (S (p + 1)).nm → σ.mp m = none ∧ (S q).maps.get m = (S (p + 1)).maps.get m)
  mono : ∀ p p', p ≤ p' → p' ≤ q → (S p).na ≤ (S p').na ∧ (S p).nm ≤ (S p').nm

theorem mono4 {S : Nat → AS} {q : Nat} (h : ∀ p p', p ≤ p' → p' ≤ q → (S p).na ≤ (S p').na ∧ (S p).nm ≤ (S p').nm) : ∀ p, p ≤ q → (S 0).na ≤ (S p).na ∧ (S p).na ≤ (S q).na ∧ (S 0).nm ≤ (S p).nm ∧ (S p).nm ≤ (S q).nm :=
  fun p hp => ⟨(h 0 p (Nat.zero_le _) hp).1, (h p q hp (Nat.le_refl _)).1, (h 0 p (Nat.zero_le _) hp).2, (h p q hp (Nat.le_refl _)).2⟩

section
variable {P : Program} {E : Env} {cl : Oracle} {ops : Array Oper} {N : Nat} {L : List RI} {T : Nat → Tr AV} {S : Nat → AS} {V : Nat → AV}

theorem lt_of_get {L : List RI} {p : Nat} {r : RI} (h : L[p]? = some r) : p < L.length := by
  rcases Nat.lt_or_ge p L.length with h' | h'
  · exact h'
  · rw [List.getElem?_eq_none h'] at h; cases h

/-- A stretch without a change. -/
theorem Tra.stretch (tr : Tra P E cl ops N L T S V) {c0 q : Nat} (hq : q ≤ L.length) (hc : ∀ (p : Nat) (r : RI), c0 ≤ p → p < q → L[p]? = some r → r.cls ≠ .change) (hw : (S c0).wf) :
    ∀ n p, c0 ≤ p → p + n ≤ q → (S p).wf ∧ More (S p) (S (p + n)) ∧ AExt (S p) (S (p + n)) ∧ (S (p + n)).wf := by
  have wfp : ∀ n, c0 + n ≤ q → (S (c0 + n)).wf := by
    intro n
    induction n with
    | zero => intro _; exact hw
    | succ n ih =>
      intro h
      have hlt : c0 + n < L.length := by omega
      have hg : L[c0 + n]? = some L[c0 + n] := List.getElem?_eq_getElem hlt
      obtain ⟨o, _, _, k3, _⟩ := tr.facts hg
      have hne := hc (c0 + n) _ (by omega) (by omega) hg
      rw [k3] at hne
      exact (evOper_same hne (tr.ev _ _ hg).1).wf (ih (by omega))
  intro n
  induction n with
  | zero => intro p hp h; have := wfp (p - c0) (by omega); rw [show c0 + (p - c0) = p from by omega] at this; exact ⟨this, .refl _, .refl _, this⟩
  | succ n ih =>
    intro p hp h
    obtain ⟨k1, k2, k3, k4⟩ := ih p hp (by omega)
    have hlt : p + n < L.length := by omega
    have hg : L[p + n]? = some L[p + n] := List.getElem?_eq_getElem hlt
    obtain ⟨o, _, _, m3, _⟩ := tr.facts hg
    have hne := hc (p + n) _ (by omega) (by omega) hg
    rw [m3] at hne
    have hone := evOper_same hne (tr.ev _ _ hg).1
    exact ⟨k1, k2.trans hone.more, k3.trans (hone.aext k4), hone.wf k4⟩

/-- The next change, or the end. -/
theorem next_change (L : List RI) : ∀ (n q : Nat), q + n = L.length → ∃ q', q ≤ q' ∧ q' ≤ L.length ∧ (∀ (p : Nat) (r : RI), q ≤ p → p < q' → L[p]? = some r → r.cls ≠ .change) ∧ (q' = L.length ∨ ∃ r, L[q']? = some r ∧ r.cls = .change) := by
  intro n
  induction n with
  | zero => intro q h; exact ⟨q, Nat.le_refl _, by omega, fun p r h1 h2 => by omega, .inl (by omega)⟩
  | succ n ih =>
    intro q h
    have hlt : q < L.length := by omega
    by_cases hc : L[q].cls = .change
    · exact ⟨q, Nat.le_refl _, by omega, fun p r h1 h2 => by omega, .inr ⟨_, List.getElem?_eq_getElem hlt, hc⟩⟩
    · obtain ⟨q', h1, h2, h3, h4⟩ := ih (q + 1) (by omega)
      refine ⟨q', by omega, h2, fun p r k1 k2 k3 => ?_, h4⟩
      by_cases hp : p = q
      · subst hp; rw [List.getElem?_eq_getElem hlt] at k3; cases k3; exact hc
      · exact h3 p r (by omega) k2 k3

/-- From behind a change to ahead of the next. -/
theorem Tra.advance (tr : Tra P E cl ops N L T S V) {D : List Nat} {q q' : Nat} {σ : Sg} {tmps : Array Value} {w : World} (hqq : q ≤ q') (hq' : q' ≤ L.length)
    (hc : ∀ (p : Nat) (r : RI), q ≤ p → p < q' → L[p]? = some r → r.cls ≠ .change) (hstop : q' = L.length ∨ ∃ r, L[q']? = some r ∧ r.cls = .change)
    (hc0 : q = 0 ∨ ∃ c r, q = c + 1 ∧ L[c]? = some r ∧ r.cls = .change)
    (cD : ∀ (p : Nat) (r : RI), L[p]? = some r → r.cls = .change → (r.i ∈ D ↔ p < q'))
    (rel : Rel P σ (S q) w) (tmp : RTmp σ N (foldT V (inD D) L 0 (T 0)) tmps)
    (pend : ∀ (p : Nat) (r : RI), p < q → L[p]? = some r → r.cls = .alloc → r.i ∉ D →
      (∀ a, (S p).na ≤ a → a < (S (p + 1)).na → σ.ar a = [] ∧ (S q).arrs.get a = (S (p + 1)).arrs.get a) ∧ (∀ m, (S p).nm ≤ m → m < (S (p + 1)).nm → σ.mp m = none ∧ (S q).maps.get m = (S (p + 1)).maps.get m))
    (mono : ∀ p p', p ≤ p' → p' ≤ q → (S p).na ≤ (S p').na ∧ (S p).nm ≤ (S p').nm) :
    Inv P N L T S V D q' σ tmps w ∧ More (S q) (S q') := by
  have st := tr.stretch (c0 := q) (q := q') hq' hc rel.wf
  obtain ⟨_, hmore, _, hwf⟩ := st (q' - q) q (Nat.le_refl _) (by omega)
  rw [show q + (q' - q) = q' from by omega] at hmore hwf
  refine ⟨⟨hq', cD, hstop, ⟨q, hqq, hc, hc0, rel.wf⟩, rel.more hmore hwf, tmp, ?_, ?_⟩, hmore⟩
  · intro p r hp hr hcl hn
    rcases Nat.lt_or_ge p q with hpq | hpq
    · obtain ⟨k1, k2⟩ := pend p r hpq hr hcl hn
      have hm := mono4 mono (p + 1) (by omega)
      refine ⟨fun a h1 h2 => ?_, fun m h1 h2 => ?_⟩
      · obtain ⟨k3, k4⟩ := k1 a h1 h2
        exact ⟨k3, by rw [hmore.arr a (by omega)]; exact k4⟩
      · obtain ⟨k3, k4⟩ := k2 m h1 h2
        exact ⟨k3, by rw [hmore.map m (by omega)]; exact k4⟩
    · obtain ⟨_, m1, _, _⟩ := st (p - q) q (Nat.le_refl _) (by omega)
      rw [show q + (p - q) = p from by omega] at m1
      obtain ⟨_, m2, _, _⟩ := st (q' - (p + 1)) (p + 1) (by omega) (by omega)
      rw [show p + 1 + (q' - (p + 1)) = q' from by omega] at m2
      exact ⟨fun a h1 h2 => ⟨rel.na a (Nat.le_trans m1.na h1), m2.arr a h2⟩, fun m h1 h2 => ⟨rel.nm m (Nat.le_trans m1.nm h1), m2.map m h2⟩⟩
  · intro p p' hpp hp
    rcases Nat.lt_or_ge p' q with hpq | hpq
    · exact mono p p' hpp (by omega)
    · obtain ⟨_, m1, _, _⟩ := st (p' - q) q (Nat.le_refl _) (by omega)
      rw [show q + (p' - q) = p' from by omega] at m1
      rcases Nat.lt_or_ge p q with hp1 | hp1
      · have h0 := mono p q (by omega) (Nat.le_refl _)
        have := m1.na; have := m1.nm
        omega
      · obtain ⟨_, m2, _, _⟩ := st (p' - p) p hp1 (by omega)
        rw [show p + (p' - p) = p' from by omega] at m2
        exact ⟨m2.na, m2.nm⟩

/-- Whatever the order: the same temporaries, the same memory. -/
theorem Tra.run (hcl : ClOk P E cl) (tr : Tra P E cl ops N L T S V) : ∀ (l D : List Nat), LinP ops D l → ChainOk L D l → Closed ops (fun i => i ∈ D) →
    ∀ {q : Nat} {σ : Sg} {tmps : Array Value} {w : World}, Inv P N L T S V D q σ tmps w → EOk E σ →
    ∃ σ' w' tmps', RegSim P ops l tmps w tmps' w' ∧ Rel P σ' (S L.length) w' ∧ RTmp σ' N (T L.length) tmps' ∧ ExtB (S 0).na (S 0).nm σ (S q) w σ' (S L.length) w' := by
  intro l
  induction l with
  | nil =>
    intro D hl _ hD q σ tmps w inv _
    cases hl with
    | nil hall =>
      have hin : ∀ r, r ∈ L → r.i ∈ D := by
        intro r hr
        obtain ⟨k, hk⟩ := List.getElem?_of_mem hr
        obtain ⟨o, ho, _⟩ := tr.facts hk
        refine hall _ ?_
        rcases Nat.lt_or_ge r.i ops.size with h | h
        · exact h
        · rw [Array.getElem?_eq_none h] at ho; cases ho
      have hqn : q = L.length := by
        rcases inv.stop with h | ⟨r, h1, h2⟩
        · exact h
        · have := (inv.cD q r h1 h2).1 (hin r (List.mem_of_getElem? h1)); omega
      subst hqn
      refine ⟨σ, w, tmps, RegSim.nil _ _ _ _, inv.rel, inv.tmp.ext fun t => ?_, .refl _ _ _ _ _⟩
      have e := T_eq tr t L.length L.length 0 (by omega) (Nat.zero_le _)
      rw [Nat.min_self, List.drop_zero] at e
      rw [← e]
      refine foldT_ev V _ _ t L 0 _ _ rfl fun k y hk _ => ?_
      have h1 := lt_of_get hk
      have h2 := hin y (List.mem_of_getElem? hk)
      simp [inD, h1, h2]
  | cons i l ih =>
    intro D hl hch hD q σ tmps w inv he
    cases hl with
    | cons ho hn hp hl' =>
      rename_i o
      have hD' : Closed ops (fun j => j ∈ i :: D) := by
        intro j hj o' ho' k hk
        rcases List.mem_cons.1 hj with rfl | hj
        · rw [ho] at ho'; cases ho'; exact List.mem_cons_of_mem _ (hp k hk)
        · exact List.mem_cons_of_mem _ (hD j hj o' ho' k hk)
      have hi : i < ops.size := by
        rcases Nat.lt_or_ge i ops.size with h | h
        · exact h
        · rw [Array.getElem?_eq_none h] at ho; cases ho
      obtain ⟨r, hr1, hr2⟩ := tr.cov i hi
      obtain ⟨p, hrp⟩ := List.getElem?_of_mem hr1
      subst hr2
      obtain ⟨o', ho', f1, f2, f3⟩ := tr.facts hrp
      rw [ho] at ho'; cases ho'
      have hplt := lt_of_get hrp
      obtain ⟨hev, hT⟩ := tr.ev p r hrp
      -- what it reads stands as it stood
      have hrd : ∀ s, evOper E cl r.o (foldT V (inD D) L 0 (T 0)) s = evOper E cl r.o (T p) s := fun s =>
        evOper_congr fun t ht => tr.reads hrp hn hD hD' (f3 ▸ ht)
      have hdst : ∀ x, o.dst = some x → x < N := fun x hx => tr.dst r hr1 x (by rw [f1]; exact hx)
      have hdo : r.o.dst = o.dst := by rw [f1]; rfl
      -- the temporaries behind it
      have hput : ∀ {σ' : Sg} {tm : Array Value}, RTmp σ' N (putD (foldT V (inD D) L 0 (T 0)) o.dst (V p)) tm → RTmp σ' N (foldT V (inD (r.i :: D)) L 0 (T 0)) tm := fun h =>
        h.ext fun t => by rw [tr.puts hrp hn hD hD' t, hdo]
      obtain ⟨c0, m1, m2, m3, m4⟩ := inv.mid
      have st := tr.stretch inv.hq m2 m4
      by_cases hcc : r.cls = .change
      · -- a change: the next one
        have hpq : p = q := by
          have h1 : ¬ p < q := fun h => hn ((inv.cD p r hrp hcc).2 h)
          rcases inv.stop with h | ⟨rq, h2, h3⟩
          · omega
          · rcases Nat.lt_or_ge q p with h4 | h4
            · have := hch.1 q p rq r h2 hrp h4 h3 hcc rfl
              have := (inv.cD q rq h2 h3).1 this; omega
            · omega
        subst hpq
        have hev' : evOper E cl (cOper P ops o) (foldT V (inD D) L 0 (T 0)) (S p) = some (V p, S (p + 1)) := by rw [← f1, hrd]; exact hev
        obtain ⟨σ₁, w₁, k1, k2, k3, k4⟩ := oper_sound hcl he inv.rel inv.tmp ho hev'
        obtain ⟨q', n1, n2, n3, n4⟩ := next_change L (L.length - (p + 1)) (p + 1) (by omega)
        have cD' : ∀ (p' : Nat) (r' : RI), L[p']? = some r' → r'.cls = .change → (r'.i ∈ r.i :: D ↔ p' < q') := by
          intro p' r' h1 h2
          constructor
          · intro h3
            rcases List.mem_cons.1 h3 with h4 | h4
            · have := tr.inj h1 hrp h4; omega
            · have := (inv.cD p' r' h1 h2).1 h4; omega
          · intro h3
            by_cases h4 : p' = p
            · subst h4; rw [hrp] at h1; cases h1; exact List.mem_cons_self ..
            · refine List.mem_cons_of_mem _ ((inv.cD p' r' h1 h2).2 ?_)
              rcases Nat.lt_or_ge p' p with h5 | h5
              · exact h5
              · exact absurd h2 (n3 p' r' (by omega) h3 h1)
        have mono' : ∀ p₁ p', p₁ ≤ p' → p' ≤ p + 1 → (S p₁).na ≤ (S p').na ∧ (S p₁).nm ≤ (S p').nm := by
          intro p₁ p' h1 hp'
          have e1 := k3.na; have e2 := k3.nm
          rcases Nat.lt_or_ge p p' with h | h
          · have : p' = p + 1 := by omega
            subst this
            rcases Nat.lt_or_ge p p₁ with h2 | h2
            · have : p₁ = p + 1 := by omega
              subst this; exact ⟨Nat.le_refl _, Nat.le_refl _⟩
            · have := inv.mono p₁ p h2 (Nat.le_refl _); omega
          · exact inv.mono p₁ p' h1 h
        have pend' : ∀ (p' : Nat) (r' : RI), p' < p + 1 → L[p']? = some r' → r'.cls = .alloc → r'.i ∉ r.i :: D →
            (∀ a, (S p').na ≤ a → a < (S (p' + 1)).na → σ₁.ar a = [] ∧ (S (p + 1)).arrs.get a = (S (p' + 1)).arrs.get a) ∧ (∀ m, (S p').nm ≤ m → m < (S (p' + 1)).nm → σ₁.mp m = none ∧ (S (p + 1)).maps.get m = (S (p' + 1)).maps.get m) := by
          intro p' r' h1 h2 h3 h4
          have hne : p' ≠ p := by rintro rfl; rw [hrp] at h2; cases h2; rw [hcc] at h3; cases h3
          obtain ⟨x1, x2⟩ := inv.pend p' r' (by omega) h2 h3 (fun h => h4 (List.mem_cons_of_mem _ h))
          have hm := mono4 inv.mono (p' + 1) (by omega)
          refine ⟨fun a h5 h6 => ?_, fun m h5 h6 => ?_⟩
          · obtain ⟨y1, y2⟩ := x1 a h5 h6
            obtain ⟨z1, z2⟩ := k3.fa a (by omega) y1
            exact ⟨z2, z1.trans y2⟩
          · obtain ⟨y1, y2⟩ := x2 m h5 h6
            obtain ⟨z1, z2⟩ := k3.fm m (by omega) y1
            exact ⟨z2, z1.trans y2⟩
        obtain ⟨inv', hmore⟩ := tr.advance (D := r.i :: D) n1 n2 n3 n4 (.inr ⟨p, r, rfl, hrp, hcc⟩) cD' k1 (hput ((inv.tmp.le k3.le).put hdst k2)) pend' mono'
        obtain ⟨σ₂, w₂, t₂, y1, y2, y3, y4⟩ := ih (r.i :: D) hl' hch.2 hD' inv' (he.le k3.le)
        have b1 := mono4 inv.mono p (Nat.le_refl _)
        have b2 := mono4 mono' (p + 1) (Nat.le_refl _)
        exact ⟨σ₂, w₂, t₂, RegSim.cons k4 y1, y2, y3, ((k3.toB b1.1 b1.2.2.1).trans (ExtB.more hmore b2.1 b2.2.2.1)).trans y4⟩
      · -- no change: the abstract memory stays
        have finish : ∀ {σ₁ : Sg} {w₁ : World}, Rel P σ₁ (S q) w₁ → In σ₁ (V p) → ExtB (S 0).na (S 0).nm σ (S q) w σ₁ (S q) w₁ → OpSim P ops r.i tmps w (putV tmps o.dst (conc σ₁ (V p))) w₁ →
            (∀ (p' : Nat) (r' : RI), p' < q → L[p']? = some r' → r'.cls = .alloc → r'.i ∉ r.i :: D → (∀ a, (S p').na ≤ a → a < (S (p' + 1)).na → σ.ar a = [] → σ₁.ar a = []) ∧ (∀ m, (S p').nm ≤ m → m < (S (p' + 1)).nm → σ.mp m = none → σ₁.mp m = none)) →
            ∃ σ' w' tmps', RegSim P ops (r.i :: l) tmps w tmps' w' ∧ Rel P σ' (S L.length) w' ∧ RTmp σ' N (T L.length) tmps' ∧ ExtB (S 0).na (S 0).nm σ (S q) w σ' (S L.length) w' := by
          intro σ₁ w₁ k1 k2 k3 k4 hkeep
          have inv' : Inv P N L T S V (r.i :: D) q σ₁ (putV tmps o.dst (conc σ₁ (V p))) w₁ := by
            refine ⟨inv.hq, ?_, inv.stop, inv.mid, k1, hput ((inv.tmp.le k3.le).put hdst k2), ?_, inv.mono⟩
            · intro p' r' h1 h2
              rw [← inv.cD p' r' h1 h2]
              constructor
              · intro h3
                rcases List.mem_cons.1 h3 with h4 | h4
                · have := tr.inj h1 hrp h4; subst this; rw [hrp] at h1; cases h1; exact absurd h2 hcc
                · exact h4
              · exact List.mem_cons_of_mem _
            · intro p' r' h1 h2 h3 h4
              obtain ⟨x1, x2⟩ := inv.pend p' r' h1 h2 h3 (fun h => h4 (List.mem_cons_of_mem _ h))
              obtain ⟨z1, z2⟩ := hkeep p' r' h1 h2 h3 h4
              exact ⟨fun a h5 h6 => ⟨z1 a h5 h6 (x1 a h5 h6).1, (x1 a h5 h6).2⟩, fun m h5 h6 => ⟨z2 m h5 h6 (x2 m h5 h6).1, (x2 m h5 h6).2⟩⟩
          obtain ⟨σ₂, w₂, t₂, y1, y2, y3, y4⟩ := ih (r.i :: D) hl' hch.2 hD' inv' (he.le k3.le)
          exact ⟨σ₂, w₂, t₂, RegSim.cons k4 y1, y2, y3, k3.trans y4⟩
        have b1 := mono4 inv.mono q (Nat.le_refl _)
        have plain : evOper E cl r.o (T p) (S q) = some (V p, S q) →
            ∃ σ' w' tmps', RegSim P ops (r.i :: l) tmps w tmps' w' ∧ Rel P σ' (S L.length) w' ∧ RTmp σ' N (T L.length) tmps' ∧ ExtB (S 0).na (S 0).nm σ (S q) w σ' (S L.length) w' := by
          intro hh
          have hev' : evOper E cl (cOper P ops o) (foldT V (inD D) L 0 (T 0)) (S q) = some (V p, S q) := by rw [← f1, hrd]; exact hh
          obtain ⟨σ₁, w₁, k1, k2, k3, k4⟩ := oper_sound hcl he inv.rel inv.tmp ho hev'
          refine finish k1 k2 (k3.toB b1.1 b1.2.2.1) k4 ?_
          intro p' r' h1 h2 h3 h4
          have hm := mono4 inv.mono (p' + 1) (by omega)
          exact ⟨fun a _ h6 h7 => (k3.fa a (by omega) h7).2, fun m _ h6 h7 => (k3.fm m (by omega) h7).2⟩
        -- what is no pure operation stands ahead of the next change
        have hbefore : (r.cls = .read ∨ r.cls = .alloc) → p < q := by
          intro hk
          rcases inv.stop with h | ⟨rq, h2, h3⟩
          · omega
          · rcases Nat.lt_trichotomy p q with h4 | h4 | h4
            · exact h4
            · subst h4; rw [hrp] at h2; cases h2; exact absurd h3 hcc
            · have hb := tr.asap p q r rq hrp h2 h4 h3 hk
              have h5 := tr.closed hD' hrp (List.mem_cons_self ..) hb
              rcases List.mem_cons.1 h5 with h6 | h6
              · have := tr.inj h2 hrp h6; omega
              · have := (inv.cD q rq h2 h3).1 h6; omega
        cases hk : r.cls with
        | change => exact absurd hk hcc
        | pure => exact plain (evOper_pure (f2 ▸ hk) hev _)
        | read =>
          have hpq := hbefore (.inl hk)
          refine plain ?_
          rcases Nat.lt_or_ge p c0 with hpc | hpc
          · rcases m3 with h0 | ⟨c, rc, h1, h2, h3⟩
            · omega
            · subst h1
              have hne : p ≠ c := by rintro rfl; rw [hrp] at h2; cases h2; exact hcc h3
              have hb : bfr r.i rc = false := by
                cases hb : bfr r.i rc with
                | false => rfl
                | true =>
                  have h5 := (inv.cD c rc h2 h3).2 (by omega)
                  exact absurd (tr.closed hD h2 h5 hb) hn
              obtain ⟨s', hs'⟩ := tr.rchk p c r rc (by omega) hrp h2 hk h3 hb
              obtain ⟨_, _, hx, _⟩ := st (q - (c + 1)) (c + 1) (Nat.le_refl _) (by omega)
              rw [show c + 1 + (q - (c + 1)) = q from by omega] at hx
              exact evOper_read (f2 ▸ hk) hs' _ hx
          · obtain ⟨_, _, hx, _⟩ := st (q - p) p hpc (by omega)
            rw [show p + (q - p) = q from by omega] at hx
            exact evOper_read (f2 ▸ hk) hev _ hx
        | alloc =>
          have hpq := hbefore (.inr hk)
          have hca : clsOf r.o.op = .alloc := f2 ▸ hk
          unfold evOper at hev
          cases hwt : wantedE (T p) r.o.guard with
          | none => rw [hwt] at hev; cases hev
          | some b =>
            rw [hwt] at hev
            cases b with
            | false =>
              simp only [Option.some.injEq, Prod.mk.injEq] at hev
              refine plain ?_
              unfold evOper
              rw [hwt, ← hev.1]
            | true =>
              simp only at hev
              have hcong : wantedE (foldT V (inD D) L 0 (T 0)) r.o.guard = some true ∧ evOp E cl r.o.op (foldT V (inD D) L 0 (T 0)) (S p) = some (V p, S (p + 1)) := by
                constructor
                · rw [← hwt]
                  unfold wantedE
                  split
                  · rfl
                  · rfl
                  · rename_i t b hg
                    rw [tr.reads hrp hn hD hD' (t := t) (by rw [f3]; simp [tmpsOper, hg])]
                · rw [← hev]
                  exact evOp_congr fun t ht => tr.reads hrp hn hD hD' (by rw [f3]; simp [tmpsOper, ht])
              have hop : cOp P o.op = some r.o.op := cOpB_alloc (by rw [f1]; rfl) hca
              have hw := wanted_eq (ops := ops) inv.tmp o (by rw [← f1]; exact hcong.1)
              have ar := alloc_fact he inv.rel (inv.tmp.ev (fun _ => rfl) (fun _ => rfl) (fun _ => rfl)) hop hca hcong.2
                (ρ := fun x => match x with | .tmp t => tmps.getD t Go.undef | .const v => v | .global g => .pointer (some ⟨g, 0, none⟩) | .func f => .func (.func f) #[] #[]) (w := w)
              have bp := mono4 inv.mono p (by omega)
              have bp1 := mono4 inv.mono (p + 1) (by omega)
              obtain ⟨x1, x2⟩ := inv.pend p r hpq hrp hk hn
              obtain ⟨σ₁, w₁, y1, y2, y3, y4, y5, y6⟩ := ar.late inv.rel bp.1 bp.2.2.1 bp1.2.1 bp1.2.2.2 x1 x2
              refine finish y2 y3 y4 (opsim_of_run ho hw (by intro c hc; rw [hc] at hop; exact cOp_defer hop) y1) ?_
              intro p' r' h1 h2 h3 h4
              have hne : p' ≠ p := by rintro rfl; rw [hrp] at h2; cases h2; exact h4 (List.mem_cons_self ..)
              have hord : (S (p' + 1)).na ≤ (S p).na ∧ (S (p' + 1)).nm ≤ (S p).nm ∨ (S (p + 1)).na ≤ (S p').na ∧ (S (p + 1)).nm ≤ (S p').nm := by
                rcases Nat.lt_or_ge p' p with h9 | h9
                · exact .inl (inv.mono (p' + 1) p (by omega) (by omega))
                · exact .inr (inv.mono (p + 1) p' (by omega) (by omega))
              refine ⟨fun a h5 h6 h7 => ?_, fun m h5 h6 h7 => ?_⟩
              · rw [y5 a (by omega)]; exact h7
              · rw [y6 m (by omega)]; exact h7

end
end Go.Ab
