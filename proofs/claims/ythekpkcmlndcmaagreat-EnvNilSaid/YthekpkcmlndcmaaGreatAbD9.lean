/- Soundness of the abstract evaluator: a drawn region, whatever the tape says. -/
import Derived.Test.YthekpkcmlndcmaaGreatAbD8
noncomputable section
namespace Go.Ab

theorem steps_dst {N : Nat} : ∀ (n : Nat) (rest done : List RI) (st : List EStep), rest.length ≤ n → stepsOf done rest = some st → st.all (dstS N) = true → ∀ r, r ∈ rest → ∀ d, r.o.dst = some d → d < N := by
  intro n
  induction n with
  | zero =>
    intro rest done st hl _ _ r hr
    obtain rfl : rest = [] := List.eq_nil_of_length_eq_zero (by omega)
    simp at hr
  | succ n ih =>
    intro rest done st hl h hd
    cases rest with
    | nil => intro r hr; simp at hr
    | cons x l =>
      simp only [List.length_cons] at hl
      have one : ∀ (rc : List EOper) (st' : List EStep) (done' : List RI), st = .one x.o rc :: st' → stepsOf done' l = some st' → ∀ r, r ∈ x :: l → ∀ d, r.o.dst = some d → d < N := by
        intro rc st' done' e h' r hr d hrd
        subst e
        simp only [List.all_cons, Bool.and_eq_true] at hd
        rcases List.mem_cons.1 hr with rfl | hr
        · have := hd.1
          simp only [dstS, hrd, ltb_eq, decide_eq_true_eq] at this
          exact this
        · exact ih l done' st' (by omega) h' hd.2 r hr d hrd
      unfold stepsOf at h
      split at h
      · split at h
        · cases h
        · split at h
          · split at h
            · cases h; exact one _ [] [] rfl (by simp [stepsOf])
            · cases h
          · rename_i y l'
            split at h
            · split at h
              · split at h
                · rename_i rc st' _ hst'
                  cases h
                  intro r hr d hrd
                  simp only [List.all_cons, Bool.and_eq_true, dstS] at hd
                  rcases List.mem_cons.1 hr with rfl | hr
                  · have := hd.1.1; rw [hrd] at this; simpa [ltb_eq] using this
                  · rcases List.mem_cons.1 hr with rfl | hr
                    · have := hd.1.2; rw [hrd] at this; simpa [ltb_eq] using this
                    · exact ih l' _ st' (by simp at hl; omega) hst' hd.2 r hr d hrd
                · cases h
              · cases h
            · split at h
              · rename_i rc st' _ hst'; cases h; exact one _ st' _ rfl hst'
              · cases h
      · split at h
        · rename_i st' hst'; cases h; exact one _ st' _ rfl hst'
        · cases h
      · split at h
        · split at h
          · rename_i st' hst'; cases h; exact one _ st' _ rfl hst'
          · cases h
        · cases h

theorem LinP.rest {ops : Array Oper} {D l : List Nat} (h : LinP ops D l) : (∀ i, i < ops.size → i ∈ D ∨ i ∈ l) ∧ (∀ i, i ∈ l → i ∉ D) ∧ l.Nodup := by
  induction h with
  | nil h => exact ⟨fun i hi => .inl (h i hi), by simp, List.nodup_nil⟩
  | cons ho hn hp h ih =>
    obtain ⟨k1, k2, k3⟩ := ih
    refine ⟨fun i hi => ?_, fun i hi => ?_, ?_⟩
    · rcases k1 i hi with h | h
      · rcases List.mem_cons.1 h with rfl | h
        · exact .inr (List.mem_cons_self ..)
        · exact .inl h
      · exact .inr (List.mem_cons_of_mem _ h)
    · rcases List.mem_cons.1 hi with rfl | hi
      · exact hn
      · exact fun hh => k2 i hi (List.mem_cons_of_mem _ hh)
    · rw [List.nodup_cons]
      exact ⟨fun hh => k2 _ hh (List.mem_cons_self ..), k3⟩

def before (l : List Nat) (i j : Nat) : Prop := ∃ A B, l = A ++ j :: B ∧ i ∈ A

theorem chain_ok {ops : Array Oper} {L : List RI} {l₀ : List Nat} (hcl : ∀ (D : Nat → Prop), Closed ops D → ∀ r, r ∈ L → D r.i → ∀ j, bfr j r = true → D j) (hlt : ∀ r, r ∈ L → r.i < ops.size)
    (hne : ∀ (p p' : Nat) (r r' : RI), L[p]? = some r → L[p']? = some r' → r.i = r'.i → p = p')
    (hch : ChainL (fun x y => ¬ before l₀ y.i x.i) L) : ∀ (l D pre : List Nat), LinP ops D l → Closed ops (fun i => i ∈ D) → (∀ j, j ∈ D ↔ j ∈ pre) → l₀ = pre ++ l → ChainOk L D l := by
  intro l
  induction l with
  | nil => intro D pre _ _ _ _; trivial
  | cons i l ih =>
    intro D pre h hD hmem he
    have hrest := h.rest
    cases h with
    | cons ho hn hp h' =>
      have hD' : Closed ops (fun j => j ∈ i :: D) := by
        intro j hj o' ho' k hk
        rcases List.mem_cons.1 hj with rfl | hj
        · rw [ho] at ho'; cases ho'; exact List.mem_cons_of_mem _ (hp k hk)
        · exact List.mem_cons_of_mem _ (hD j hj o' ho' k hk)
      refine ⟨?_, ih (i :: D) (pre ++ [i]) h' hD' (by intro j; simp [hmem j]; constructor <;> (rintro (h | h) <;> simp [h])) (by simp [he])⟩
      intro p p' c c' h1 h2 h3 h4 h5 h6
      have hci : c.i ≠ i := fun e => by have := hne p p' c c' h1 h2 (e.trans h6.symm); omega
      rcases hch p p' c c' h1 h2 h3 h4 h5 with hb | hb
      · have := hcl _ hD' c' (List.mem_of_getElem? h2) (by simp [h6]) c.i hb
        rcases List.mem_cons.1 this with h | h
        · exact absurd h hci
        · exact h
      · refine Classical.byContradiction fun hcD => hb ?_
        rcases hrest.1 c.i (hlt c (List.mem_of_getElem? h1)) with h | h
        · exact absurd h hcD
        · rcases List.mem_cons.1 h with h | h
          · exact absurd h hci
          · obtain ⟨A, B, rfl⟩ := List.append_of_mem h
            exact ⟨pre ++ i :: A, B, by simp [he], by simp [h6]⟩

theorem foldT_none (V : Nat → AV) (t : Nat) : ∀ (L : List RI) (p : Nat) (T : Tr AV), (EO.t t).ev (foldT V (inD []) L p T) = (EO.t t).ev T
  | [], _, _ => rfl
  | r :: L, p, T => by
    simp only [foldT]
    rw [foldT_none V t L (p + 1)]
    simp [inD]

theorem cRegion_draw {P : Program} {ops : Array Oper} {st : List EStep} (h : cRegion P ops true = .reg st) :
    ∃ L, orderOf P ops ops.size [] (ops.toList.zipIdx.map fun (o, i) => (i, o)) = some L ∧ allPairs L (fun a b => !(free a b) || tmpsApart a b) = true ∧ stepsOf [] L = some st := by
  unfold cRegion at h
  simp only [if_true] at h
  split at h
  · rename_i L hL
    split at h
    · rename_i ha
      split at h
      · rename_i s hs; cases h; exact ⟨L, hL, ha, hs⟩
      · cases h
    · cases h
  · cases h

theorem draw_sound {P : Program} {E : Env} {cl : Oracle} (hcl : ClOk P E cl) {ops : Array Oper} {N : Nat} {st : List EStep} (hreg : cRegion P ops true = .reg st) (hd : st.all (dstS N) = true)
    {σ : Sg} {s s' : AS} {w : World} {T T' : Tr AV} {tmps : Array Value} (he : EOk E σ) (r : Rel P σ s w) (rt : RTmp σ N T tmps) (h : evSteps E cl st T s = some (T', s')) (t : Nat) :
    ∃ σ' w' tmps', Rel P σ' s' w' ∧ RTmp σ' N T' tmps' ∧ Ext σ s w σ' s' w' ∧ RegSim P ops (Region.schedule true ops t) tmps w tmps' w' := by
  obtain ⟨L, h1, h2, h3⟩ := cRegion_draw hreg
  obtain ⟨hg, hcov⟩ := order_good _ _ _ _ h1 (GoodL.nil P ops)
    (by intro x hx
        rw [List.mem_map] at hx
        obtain ⟨⟨o, i⟩, hx1, rfl⟩ := hx
        have := List.mem_zipIdx_iff_getElem?.1 hx1
        exact ⟨by simpa using this, by simp⟩)
    (by intro i hi
        right
        refine ⟨ops[i], ?_⟩
        rw [List.mem_map]
        refine ⟨(ops[i], i), List.mem_zipIdx_iff_getElem?.2 (by simp [hi]), rfl⟩)
  have hlin := lin_schedule hg hcov t
  have hclosed : ∀ (D : Nat → Prop), Closed ops D → ∀ r, r ∈ L → D r.i → ∀ j, bfr j r = true → D j := by
    intro D hD x hx hDx j hj
    obtain ⟨A, B, e⟩ := List.append_of_mem hx
    exact hg.closed hD A.length A x B rfl e hDx j hj
  have hnd := hlin.rest.2.2
  obtain ⟨L₂, T₂, S₂, V₂, k1, k2, k3, k4, k5, k6, k7, k8⟩ := steps_pre (P := P) (E := E) (cl := cl) (ops := ops) (dec := fun x y => ¬ before (Region.schedule true ops t) y.i x.i)
    (by intro x y hxy
        refine Classical.byContradiction fun hno => ?_
        simp only [not_or, Classical.not_not] at hno
        obtain ⟨⟨A, B, e1, m1⟩, ⟨A', B', e2, m2⟩⟩ := hno
        rw [e1] at hnd e2
        -- y before x, and x before y
        obtain ⟨A₁, A₂, rfl⟩ := List.append_of_mem m1
        have hx1 : x.i ∉ A₁ ++ y.i :: A₂ := by
          rw [List.nodup_append] at hnd
          intro hx
          exact hnd.2.2 _ hx _ (List.mem_cons_self ..) rfl
        obtain ⟨A₃, A₄, rfl⟩ := List.append_of_mem m2
        have e3 : A₁ ++ y.i :: (A₂ ++ x.i :: B) = (A₃ ++ x.i :: A₄) ++ y.i :: B' := by simpa using e2
        have hnd' : (A₁ ++ y.i :: (A₂ ++ x.i :: B)).Nodup := by simpa using hnd
        have hy1 : y.i ∉ A₁ := by
          rw [List.nodup_append] at hnd'
          intro hy; exact hnd'.2.2 _ hy _ (List.mem_cons_self ..) rfl
        have hy2 : y.i ∉ A₃ ++ x.i :: A₄ := by
          rw [e3, List.nodup_append] at hnd'
          intro hy; exact hnd'.2.2 _ hy _ (List.mem_cons_self ..) rfl
        have : A₁ = A₃ ++ x.i :: A₄ := by
          rcases List.append_eq_append_iff.1 e3 with ⟨X, f1, f2⟩ | ⟨X, f1, f2⟩
          · cases X with
            | nil => simpa using f1.symm
            | cons z X => simp at f2; exact absurd (by rw [f1, ← f2.1]; simp) hy2
          · cases X with
            | nil => simpa using f1
            | cons z X => simp at f2; exact absurd (by rw [f1, ← f2.1]; simp) hy1
        exact hx1 (by rw [this]; simp))
    L.length L [] st T s T' s' (Nat.le_refl _) h3 h (by simpa using hg) [] (fun _ => T) (fun _ => s) (fun _ => .undef)
    ⟨by intro p r h; simp at h, by intro p c r rc h; simp at h, by intro p c z rc _ h; simp at h, by intro p p' r r' h; simp at h, by intro p p' r r' h; simp at h⟩
    (by simp) rfl rfl rfl (by intro p p' c c' h; simp at h)
  simp only [List.nil_append] at k2 k3
  have tr : Tra P E cl ops N L₂ T₂ S₂ V₂ := by
    refine ⟨?_, k1.inj, k1.pos, fun D hD x hx => hclosed D hD x ((k2 x).1 hx), ?_, k1.ev, ?_, k1.asap, k1.rchk, fun x hx => steps_dst L.length L [] st (Nat.le_refl _) h3 hd x ((k2 x).1 hx)⟩
    · intro p x hx
      exact hg.fact ((k2 x).1 (List.mem_of_getElem? hx))
    · intro i hi
      obtain ⟨x, hx1, hx2⟩ := hcov i hi
      exact ⟨x, (k2 x).2 hx1, hx2⟩
    · intro p p' x x' hx hx' hpp hf
      unfold allPairs at h2
      rw [List.all_eq_true] at h2
      have := h2 x ((k2 x).1 (List.mem_of_getElem? hx))
      rw [List.all_eq_true] at this
      have := this x' ((k2 x').1 (List.mem_of_getElem? hx'))
      have hii : x.i ≠ x'.i := fun e => hpp (k1.inj p p' x x' hx hx' e)
      simpa [hii, hf] using this
  have hlt : ∀ x, x ∈ L₂ → x.i < ops.size := by
    intro x hx
    obtain ⟨o, ho, _⟩ := hg.fact ((k2 x).1 hx)
    rcases Nat.lt_or_ge x.i ops.size with h | h
    · exact h
    · rw [Array.getElem?_eq_none h] at ho; cases ho
  have hchain := chain_ok (fun D hD x hx => hclosed D hD x ((k2 x).1 hx)) hlt k1.inj k8 _ [] [] hlin (by intro i hi; simp at hi) (by simp) (by simp)
  obtain ⟨q', n1, n2, n3, n4⟩ := next_change L₂ L₂.length 0 (by omega)
  have hS0 : S₂ 0 = s := k7
  have hT0 : T₂ 0 = T := k6
  obtain ⟨inv, hmore⟩ := tr.advance (D := []) (q := 0) (σ := σ) (tmps := tmps) (w := w) n1 n2 n3 n4 (.inl rfl)
    (by intro p x hx hc
        constructor
        · intro h; simp at h
        · intro h; exact absurd hc (n3 p x (Nat.zero_le _) h hx))
    (by rw [hS0]; exact r) (rt.ext fun t => by rw [foldT_none, hT0]) (by intro p x h; omega)
    (by intro p p' h1 h2
        obtain rfl : p' = 0 := by omega
        obtain rfl : p = 0 := by omega
        exact ⟨Nat.le_refl _, Nat.le_refl _⟩)
  obtain ⟨σ', w', tmps', m1, m2, m3, m4⟩ := tr.run hcl _ _ hlin hchain (by intro i hi; simp at hi) inv he
  refine ⟨σ', w', tmps', by rw [← k5]; exact m2, by rw [← k4]; exact m3, ?_, m1⟩
  have hx := (ExtB.more (σ := σ) (w := w) (B := (S₂ 0).na) (Bm := (S₂ 0).nm) hmore (Nat.le_refl _) (Nat.le_refl _)).trans m4
  rw [hS0, k5] at hx
  exact hx.toExt

end Go.Ab
