/- Soundness of the abstract evaluator: a drawn region's steps. -/
import Derived.Test.YthekpkcmlndcmaaGreatAbD7
noncomputable section
namespace Go.Ab

def ChainL (dec : RI → RI → Prop) (L : List RI) : Prop :=
  ∀ (p p' : Nat) (c c' : RI), L[p]? = some c → L[p']? = some c' → p < p' → c.cls = .change → c'.cls = .change → bfr c.i c' = true ∨ dec c c'

theorem ChainL.snoc {dec : RI → RI → Prop} {L : List RI} (h : ChainL dec L) {r : RI} (hr : r.cls = .change → ∀ c, c ∈ L → c.cls = .change → bfr c.i r = true ∨ dec c r) : ChainL dec (L ++ [r]) := by
  intro p p' c c' h1 h2 hlt k1 k2
  rcases get_snoc h2 with ⟨m1, m2⟩ | ⟨rfl, rfl⟩
  · rcases get_snoc h1 with ⟨n1, n2⟩ | ⟨rfl, rfl⟩
    · exact h p p' c c' n2 m2 hlt k1 k2
    · omega
  · rcases get_snoc h1 with ⟨n1, n2⟩ | ⟨rfl, rfl⟩
    · exact hr k2 c (List.mem_of_getElem? n2) k1
    · omega

theorem behind_spec {done : List RI} {r : RI} (h : behind done r = true) : ∀ c, c ∈ done → c.cls = .change → bfr c.i r = true := by
  intro c hc hk
  unfold behind at h
  rw [List.all_eq_true] at h
  have := h c hc
  simpa [hk] using this

structure At (P : Program) (ops : Array Oper) (done : List RI) (r : RI) : Prop where
  hn : ∀ z, z ∈ done → z.i ≠ r.i
  hb : ∀ z, z ∈ done → bfr r.i z = false
  hbb : bfr r.i r = false

theorem GoodL.at {P : Program} {ops : Array Oper} {done l : List RI} {r : RI} (h : GoodL P ops (done ++ r :: l)) : At P ops done r := by
  obtain ⟨o, p, _, _, _, h4⟩ := h done r l rfl
  refine ⟨h4, fun z hz => ?_, ?_⟩
  · cases hb : bfr r.i z with
    | false => rfl
    | true =>
      obtain ⟨A, B, rfl⟩ := List.append_of_mem hz
      obtain ⟨q, hq1, hq2⟩ := h.ahead A.length A z (B ++ r :: l) rfl (by simp) _ hb
      exact absurd hq2 (h4 q (by simp [hq1]))
  · cases hb : bfr r.i r with
    | false => rfl
    | true =>
      obtain ⟨q, hq1, hq2⟩ := h.ahead done.length done r l rfl rfl _ hb
      exact absurd hq2 (h4 q hq1)

theorem GoodL.fact {P : Program} {ops : Array Oper} {L : List RI} (h : GoodL P ops L) {r : RI} (hr : r ∈ L) : ∃ o, ops[r.i]? = some o ∧ r.o = cOper P ops o ∧ r.cls = clsOf r.o.op ∧ r.rd = tmpsOper r.o := by
  obtain ⟨A, B, rfl⟩ := List.append_of_mem hr
  obtain ⟨o, p, h1, _, h3, _⟩ := h A r B rfl
  exact ⟨o, h1, by rw [h3]; rfl, by rw [h3]; rfl, by rw [h3]; rfl⟩

theorem evStep_two {E : Env} {cl : Oracle} {x y : EOper} {rc : List EOper} {T T' : Tr AV} {s s' : AS} (h : evStep E cl (.two x y rc) T s = some (T', s')) :
    ∃ vx s₁ vy u s₃ p q, evOper E cl x T s = some (vx, s₁) ∧ evOper E cl y T s₁ = some (vy, s') ∧ evOper E cl y T s = some (u, s₃) ∧ target T x.op = some p ∧ target T y.op = some q ∧ apart p q = true ∧
      recheck E cl T s₁ rc = true ∧ recheck E cl T s' rc = true ∧ recheck E cl T s₃ rc = true ∧ T' = T := by
  simp only [evStep] at h
  split at h
  · cases h
  · rename_i vx s₁ h1
    split at h
    · cases h
    · rename_i vy s₂ h2
      split at h
      · cases h
      · rename_i u s₃ h3
        split at h
        · cases h
        · rename_i p hp
          split at h
          · cases h
          · rename_i q hq
            split at h
            · rename_i hc
              cases h
              simp only [Bool.and_eq_true] at hc
              exact ⟨vx, s₁, vy, u, s₃, p, q, h1, h2, h3, hp, hq, hc.1, hc.2.1, hc.2.2.1, hc.2.2.2, rfl⟩
            · cases h

theorem steps_pre {P : Program} {E : Env} {cl : Oracle} {ops : Array Oper} {dec : RI → RI → Prop} (hdec : ∀ x y : RI, x.i ≠ y.i → dec x y ∨ dec y x) :
    ∀ (n : Nat) (rest done : List RI) (st : List EStep) (T : Tr AV) (s : AS) (T' : Tr AV) (s' : AS), rest.length ≤ n → stepsOf done rest = some st → evSteps E cl st T s = some (T', s') → GoodL P ops (done ++ rest) →
      ∀ (L₁ : List RI) (T₁ : Nat → Tr AV) (S₁ : Nat → AS) (V₁ : Nat → AV), Pre E cl L₁ T₁ S₁ V₁ → (∀ z, z ∈ L₁ ↔ z ∈ done) → L₁.length = done.length → T₁ L₁.length = T → S₁ L₁.length = s → ChainL dec L₁ →
      ∃ (L₂ : List RI) (T₂ : Nat → Tr AV) (S₂ : Nat → AS) (V₂ : Nat → AV), Pre E cl L₂ T₂ S₂ V₂ ∧ (∀ z, z ∈ L₂ ↔ z ∈ done ++ rest) ∧ L₂.length = (done ++ rest).length ∧ T₂ L₂.length = T' ∧ S₂ L₂.length = s' ∧ T₂ 0 = T₁ 0 ∧ S₂ 0 = S₁ 0 ∧ ChainL dec L₂ := by
  intro n
  induction n with
  | zero =>
    intro rest done st T s T' s' hlen hst hev _ L₁ T₁ S₁ V₁ pre hmem hl hT hS hch
    obtain rfl : rest = [] := List.eq_nil_of_length_eq_zero (by omega)
    simp only [stepsOf] at hst; cases hst
    simp only [evSteps] at hev; cases hev
    exact ⟨L₁, T₁, S₁, V₁, pre, by simpa using hmem, by simpa using hl, hT, hS, rfl, rfl, hch⟩
  | succ n ih =>
    intro rest done st T s T' s' hlen hst hev hg L₁ T₁ S₁ V₁ pre hmem hl hT hS hch
    cases rest with
    | nil =>
      simp only [stepsOf] at hst; cases hst
      simp only [evSteps] at hev; cases hev
      exact ⟨L₁, T₁, S₁, V₁, pre, by simpa using hmem, by simpa using hl, hT, hS, rfl, rfl, hch⟩
    | cons r l =>
      have at_ := hg.at
      have hrd : ∀ z, z ∈ L₁ → z.rd = tmpsOper z.o := fun z hz => by
        obtain ⟨o, _, _, _, h4⟩ := hg.fact (r := z) (List.mem_append_left _ ((hmem z).1 hz)); exact h4
      have hn : ∀ z, z ∈ L₁ → z.i ≠ r.i := fun z hz => at_.hn z ((hmem z).1 hz)
      have hb : ∀ z, z ∈ L₁ → bfr r.i z = false := fun z hz => at_.hb z ((hmem z).1 hz)
      simp only [List.length_cons] at hlen
      -- one operation more, and on
      have go : ∀ (rc : List EOper) (st' : List EStep), st = .one r.o rc :: st' → stepsOf (done ++ [r]) l = some st' →
          ((r.cls = .read ∨ r.cls = .alloc ∨ r.cls = .change) → behind done r = true) → (r.cls = .change → rcOf done r = some rc) →
          ∃ (L₂ : List RI) (T₂ : Nat → Tr AV) (S₂ : Nat → AS) (V₂ : Nat → AV), Pre E cl L₂ T₂ S₂ V₂ ∧ (∀ z, z ∈ L₂ ↔ z ∈ done ++ r :: l) ∧ L₂.length = (done ++ r :: l).length ∧ T₂ L₂.length = T' ∧ S₂ L₂.length = s' ∧ T₂ 0 = T₁ 0 ∧ S₂ 0 = S₁ 0 ∧ ChainL dec L₂ := by
        intro rc st' hst' hl' hbeh hrc
        subst hst'
        simp only [evSteps] at hev
        split at hev
        · rename_i Tn sn hone
          obtain ⟨v, h1, h2, h3⟩ := evStep_one hone
          subst hT hS
          obtain ⟨T₂, S₂, V₂, k1, k2, k3, k4, k5, k6⟩ := pre.snoc hn hb at_.hbb h1
            (fun hc c hcm hcc => behind_spec (hbeh (by rcases hc with hc | hc <;> simp [hc])) c ((hmem c).1 hcm) hcc)
            (fun hc => pre.again hmem hn hb hrd (hrc hc) (h2 ▸ h3))
          obtain ⟨L₃, T₃, S₃, V₃, m1, m2, m3, m4, m5, m6, m7, m8⟩ := ih l (done ++ [r]) st' Tn sn T' s' (by omega) hl' hev (by simpa using hg) (L₁ ++ [r]) T₂ S₂ V₂ k1
            (by intro z; simp [hmem z]) (by simp [hl]) (by simp [k4, h2]) (by simp [k5])
            (hch.snoc fun hc c hcm hcc => .inl (behind_spec (hbeh (by simp [hc])) c ((hmem c).1 hcm) hcc))
          exact ⟨L₃, T₃, S₃, V₃, m1, by intro z; rw [m2 z]; simp, by rw [m3]; simp, m4, m5, by rw [m6, (k2 0 (Nat.zero_le _)).1], by rw [m7, (k2 0 (Nat.zero_le _)).2], m8⟩
        · cases hev
      cases hcls : r.cls with
      | pure =>
        unfold stepsOf at hst
        simp only [hcls] at hst
        split at hst
        · rename_i st' hst'; cases hst
          exact go [] st' rfl hst' (by simp [hcls]) (by simp [hcls])
        · cases hst
      | read =>
        unfold stepsOf at hst
        simp only [hcls] at hst
        split at hst
        · rename_i hbe
          split at hst
          · rename_i st' hst'; cases hst
            exact go [] st' rfl hst' (fun _ => hbe) (by simp [hcls])
          · cases hst
        · cases hst
      | alloc =>
        unfold stepsOf at hst
        simp only [hcls] at hst
        split at hst
        · rename_i hbe
          split at hst
          · rename_i st' hst'; cases hst
            exact go [] st' rfl hst' (fun _ => hbe) (by simp [hcls])
          · cases hst
        · cases hst
      | change =>
        unfold stepsOf at hst
        simp only [hcls] at hst
        split at hst
        · cases hst
        · rename_i hbe
          split at hst
          · split at hst
            · rename_i rc hrc; cases hst
              exact go rc [] rfl (by simp [stepsOf]) (fun _ => hbe) (fun _ => hrc)
            · cases hst
          · rename_i y l'
            split at hst
            · rename_i hpair
              simp only [Bool.and_eq_true, decide_eq_true_eq, Bool.not_eq_true'] at hpair
              obtain ⟨hyc, hyr⟩ := hpair
              split at hst
              · rename_i hok
                rw [Bool.and_eq_true] at hok
                obtain ⟨hok, hby⟩ := hok
                split at hst
                · rename_i rc st' hrc hst'
                  cases hst
                  simp only [evSteps] at hev
                  split at hev
                  · rename_i Tn sn htwo
                    obtain ⟨vx, s₁, vy, u, s₃, p, q, e1, e2, e3, e4, e5, e6, e7, e8, e9, e10⟩ := evStep_two htwo
                    subst e10
                    simp only [pairOk, Bool.and_eq_true, Option.isNone_iff_eq_none, List.all_eq_true, Bool.or_eq_true, decide_eq_true_eq, beq_iff_eq] at hok
                    obtain ⟨⟨o1, o2⟩, ⟨o3, o4⟩, ⟨o5, o6⟩, o7⟩ := hok
                    subst hT hS
                    have hgy : GoodL P ops ((done ++ [r]) ++ y :: l') := by simpa using hg
                    have aty := hgy.at
                    have hny : ∀ z, z ∈ L₁ → z.i ≠ y.i := fun z hz => aty.hn z (by simp [(hmem z).1 hz])
                    have hyb : ∀ z, z ∈ L₁ → bfr y.i z = false := fun z hz => aty.hb z (by simp [(hmem z).1 hz])
                    have hry : r.i ≠ y.i := aty.hn r (by simp)
                    have hyr' : bfr y.i r = false := aty.hb r (by simp)
                    -- the loads, behind either or both
                    have rd : ∀ sx, recheck E cl (T₁ L₁.length) sx rc = true → ∀ (k : Nat) (z : RI), L₁[k]? = some z → z.cls = .read → bfr z.i r = false → ∃ s'', evOper E cl z.o (T₁ k) sx = some (V₁ k, s'') := fun sx hsx =>
                      pre.again (r := r) (v := .undef) hmem hn hb hrd hrc (by rw [o3]; exact hsx)
                    have same_bf : ∀ z, z ∈ L₁ → z.cls = .read → bfr z.i y = false → bfr z.i r = false := by
                      intro z hz hc hz'
                      rcases o7 z (List.mem_append_left _ ((hmem z).1 hz)) with h | h
                      · rw [hc] at h; cases h
                      · rw [h.1]; exact hz'
                    obtain ⟨c1, _⟩ := stores_comm o1 o2 o5 o6 e1 e2 e3 e4 e5 e6
                    have chr : ∀ c, c ∈ L₁ → c.cls = .change → bfr c.i r = true := fun c hc hk => behind_spec hbe c ((hmem c).1 hc) hk
                    have chy : ∀ c, c ∈ L₁ → c.cls = .change → bfr c.i y = true := fun c hc hk => behind_spec hby c ((hmem c).1 hc) hk
                    have fin : ∀ (L₂ : List RI) (T₂ : Nat → Tr AV) (S₂ : Nat → AS) (V₂ : Nat → AV), Pre E cl L₂ T₂ S₂ V₂ → (∀ z, z ∈ L₂ ↔ z ∈ done ++ [r, y]) → L₂.length = L₁.length + 2 → T₂ L₂.length = T₁ L₁.length → S₂ L₂.length = sn →
                        T₂ 0 = T₁ 0 → S₂ 0 = S₁ 0 → ChainL dec L₂ →
                        ∃ (L₂ : List RI) (T₂ : Nat → Tr AV) (S₂ : Nat → AS) (V₂ : Nat → AV), Pre E cl L₂ T₂ S₂ V₂ ∧ (∀ z, z ∈ L₂ ↔ z ∈ done ++ r :: y :: l') ∧ L₂.length = (done ++ r :: y :: l').length ∧ T₂ L₂.length = T' ∧ S₂ L₂.length = s' ∧ T₂ 0 = T₁ 0 ∧ S₂ 0 = S₁ 0 ∧ ChainL dec L₂ := by
                      intro L₂ T₂ S₂ V₂ h1 h2 h3 h4 h5 h6 h7 h8
                      obtain ⟨L₃, T₃, S₃, V₃, m1, m2, m3, m4, m5, m6, m7, m8⟩ := ih l' (done ++ [r, y]) st' _ sn T' s' (by simp at hlen; omega) hst' hev (by simpa using hg) L₂ T₂ S₂ V₂ h1 h2 (by rw [h3, hl]; simp) h4 h5 h8
                      exact ⟨L₃, T₃, S₃, V₃, m1, by intro z; rw [m2 z]; simp, by rw [m3]; simp, m4, m5, by rw [m6, h6], by rw [m7, h7], m8⟩
                    rcases hdec r y hry with hd | hd
                    · -- as they stand
                      obtain ⟨T₂, S₂, V₂, k1, k2, k3, k4, k5, k6⟩ := pre.snoc hn hb at_.hbb e1 (by simp [hcls]) (fun _ => rd s₁ e7)
                      rw [o3] at k4
                      have hT2 : T₂ (L₁ ++ [r]).length = T₁ L₁.length := by simp [k4, putD]
                      have hS2 : S₂ (L₁ ++ [r]).length = s₁ := by simp [k5]
                      obtain ⟨T₃, S₃, V₃, q1, q2, q3, q4, q5, q6⟩ := k1.snoc (r := y) (v := vy) (s₁ := sn)
                        (by intro z hz; rcases List.mem_append.1 hz with h | h
                            · exact hny z h
                            · simp at h; subst h; exact hry)
                        (by intro z hz; rcases List.mem_append.1 hz with h | h
                            · exact hyb z h
                            · simp at h; subst h; exact hyr')
                        aty.hbb (by rw [hT2, hS2]; exact e2) (by simp [hyc])
                        (by intro _ k z hz hc hzb
                            rcases get_snoc hz with ⟨n1, n2⟩ | ⟨rfl, rfl⟩
                            · rw [(k2 k (Nat.le_of_lt n1)).1, k3 k n1]
                              exact rd sn e8 k z n2 hc (same_bf z (List.mem_of_getElem? n2) hc hzb)
                            · rw [hcls] at hc; cases hc)
                      refine fin _ T₃ S₃ V₃ q1 (by intro z; simp [hmem z]) (by simp) ?_ ?_ ?_ ?_ ?_
                      · rw [show (L₁ ++ [r] ++ [y]).length = (L₁ ++ [r]).length + 1 from by simp, q4, o4, hT2]; rfl
                      · rw [show (L₁ ++ [r] ++ [y]).length = (L₁ ++ [r]).length + 1 from by simp, q5]
                      · rw [(q2 0 (Nat.zero_le _)).1, (k2 0 (Nat.zero_le _)).1]
                      · rw [(q2 0 (Nat.zero_le _)).2, (k2 0 (Nat.zero_le _)).2]
                      · refine (hch.snoc fun _ c hc hk => .inl (chr c hc hk)).snoc fun _ c hc hk => ?_
                        rcases List.mem_append.1 hc with h | h
                        · exact .inl (chy c h hk)
                        · simp at h; subst h; exact .inr hd
                    · -- the other way round
                      obtain ⟨T₂, S₂, V₂, k1, k2, k3, k4, k5, k6⟩ := pre.snoc (r := y) hny hyb aty.hbb e3 (by simp [hyc])
                        (fun _ k z hz hc hzb => rd s₃ e9 k z hz hc (same_bf z (List.mem_of_getElem? hz) hc hzb))
                      rw [o4] at k4
                      have hT2 : T₂ (L₁ ++ [y]).length = T₁ L₁.length := by simp [k4, putD]
                      have hS2 : S₂ (L₁ ++ [y]).length = s₃ := by simp [k5]
                      obtain ⟨T₃, S₃, V₃, q1, q2, q3, q4, q5, q6⟩ := k1.snoc (r := r) (v := vx) (s₁ := sn)
                        (by intro z hz; rcases List.mem_append.1 hz with h | h
                            · exact hn z h
                            · simp at h; subst h; exact fun e => hry e.symm)
                        (by intro z hz; rcases List.mem_append.1 hz with h | h
                            · exact hb z h
                            · simp at h; subst h; exact hyr)
                        at_.hbb (by rw [hT2, hS2]; exact c1) (by simp [hcls])
                        (by intro _ k z hz hc hzb
                            rcases get_snoc hz with ⟨n1, n2⟩ | ⟨rfl, rfl⟩
                            · rw [(k2 k (Nat.le_of_lt n1)).1, k3 k n1]
                              exact rd sn e8 k z n2 hc hzb
                            · rw [hyc] at hc; cases hc)
                      refine fin _ T₃ S₃ V₃ q1 (by intro z; simp [hmem z]; constructor <;> (rintro (h | h | h) <;> simp [h])) (by simp) ?_ ?_ ?_ ?_ ?_
                      · rw [show (L₁ ++ [y] ++ [r]).length = (L₁ ++ [y]).length + 1 from by simp, q4, o3, hT2]; rfl
                      · rw [show (L₁ ++ [y] ++ [r]).length = (L₁ ++ [y]).length + 1 from by simp, q5]
                      · rw [(q2 0 (Nat.zero_le _)).1, (k2 0 (Nat.zero_le _)).1]
                      · rw [(q2 0 (Nat.zero_le _)).2, (k2 0 (Nat.zero_le _)).2]
                      · refine (hch.snoc fun _ c hc hk => .inl (chy c hc hk)).snoc fun _ c hc hk => ?_
                        rcases List.mem_append.1 hc with h | h
                        · exact .inl (chr c h hk)
                        · simp at h; subst h; exact .inr hd
                  · cases hev
                · cases hst
              · cases hst
            · split at hst
              · rename_i rc st' hrc hst'
                cases hst
                exact go rc st' rfl hst' (fun _ => hbe) (fun _ => hrc)
              · cases hst

end Go.Ab
