/- Soundness of the abstract evaluator: the steps of a drawn region as a row of operations. -/
import Derived.Test.YthekpkcmlndcmaaGreatAbD6
noncomputable section
namespace Go.Ab

theorem sameL_of {l m : List AV} (h1 : ∀ x y, x ∈ l → same1 x y = true → x = y) : sameL l m = true → l = m := by
  induction l generalizing m with
  | nil => intro h; cases m <;> simp [sameL] at h ⊢
  | cons x l ih =>
    intro h
    cases m with
    | nil => simp [sameL] at h
    | cons y m =>
      simp only [sameL] at h
      split at h
      · rename_i hxy
        rw [h1 x y (List.mem_cons_self ..) hxy, ih (fun a b ha => h1 a b (List.mem_cons_of_mem _ ha)) h]
      · cases h

theorem bytes_eq {a b : ByteArray} (h : (a.toList == b.toList) = true) : a = b := by
  have h := eq_of_beq h
  rw [ByteArray.toList_eq, ByteArray.toList_eq] at h
  obtain ⟨⟨x⟩⟩ := a
  obtain ⟨⟨y⟩⟩ := b
  simp only at h
  rw [h]

theorem same1_eq {x y : AV} (h : same1 x y = true) : x = y := by
  cases x <;> cases y <;> first
    | rfl
    | (simp [same1] at h; done)
    | (simp only [same1, beq_eq, Bool.and_eq_true, decide_eq_true_eq, beq_iff_eq] at h; simp_all; done)
    | skip
  · simp only [same1, Bool.and_eq_true, decide_eq_true_eq] at h; rw [same_kind h.1, h.2]
  · simp only [same1] at h; rw [bytes_eq h]
  · rename_i a j o l c a' j' o' l' c'
    cases c <;> cases c' <;> simp [same1, beq_eq] at h
    · simp [h]
    · simp [h]
  · rename_i f a b g c d
    cases a <;> cases b <;> cases c <;> cases d <;> simp [same1, beq_eq] at h
    simp [h]

theorem same_eq {x y : AV} (h : same x y = true) : x = y := by
  unfold same at h
  split at h
  · rw [sameL_of (fun _ _ _ => same1_eq) h]
  · rw [sameL_of (fun _ _ _ => same1_eq) h]
  · simp only [beq_eq, Bool.and_eq_true, decide_eq_true_eq] at h
    rw [h.1, sameL_of (fun _ _ _ => same1_eq) h.2.1, sameL_of (fun _ _ _ => same1_eq) h.2.2]
  · exact same1_eq h

theorem recheck_spec {E : Env} {cl : Oracle} {T : Tr AV} {s : AS} : ∀ {rc : List EOper}, recheck E cl T s rc = true → ∀ o, o ∈ rc → ∃ d w s', o.dst = some d ∧ T.get d = some w ∧ evOper E cl o T s = some (w, s')
  | [], _, o, ho => by simp at ho
  | x :: l, h, o, ho => by
    simp only [recheck] at h
    split at h
    · rename_i v s' hv
      split at h
      · rename_i d hd
        split at h
        · rename_i w hw
          split at h
          · rename_i hs
            rcases List.mem_cons.1 ho with rfl | ho
            · exact ⟨d, w, s', hd, hw, by rw [← same_eq hs]; exact hv⟩
            · exact recheck_spec h o ho
          · cases h
        · cases h
      · cases h
    · cases h

/-- What holds of a load that may come behind a change. -/
def Late (done : List RI) (z r : RI) : Prop := (∀ y, y = r ∨ y ∈ done → y.i = z.i ∨ bfr y.i z = true ∨ noWrite z y = true) ∧ ∃ d, z.o.dst = some d ∧ d ∉ z.rd

theorem rcGo_spec {all : List RI} : ∀ {l : List RI} {r : RI} {rc : List EOper}, rcGo all l r = some rc → ∀ z, z ∈ l → z.cls = .read → bfr z.i r = false → z.o ∈ rc ∧ Late all z r
  | [], _, _, _, z, hz, _, _ => by simp at hz
  | x :: l, r, rc, h, z, hz, hc, hb => by
    simp only [rcGo] at h
    split at h
    · cases h
    · rename_i rc' hrc
      split at h
      · rename_i hx
        cases h
        rcases List.mem_cons.1 hz with rfl | hz
        · simp [hc, hb] at hx
        · exact rcGo_spec hrc z hz hc hb
      · split at h
        · rename_i hall
          cases h
          rcases List.mem_cons.1 hz with rfl | hz
          · refine ⟨List.mem_cons_self .., ?_⟩
            rw [Bool.and_eq_true] at hall
            obtain ⟨h1, h2⟩ := hall
            rw [List.all_eq_true] at h1
            refine ⟨fun y hy => ?_, ?_⟩
            · have := h1 y (by simpa using hy)
              simpa using this
            · split at h2
              · rename_i d hd
                refine ⟨d, hd, ?_⟩
                simpa using h2
              · cases h2
          · obtain ⟨k1, k2⟩ := rcGo_spec hrc z hz hc hb
            exact ⟨List.mem_cons_of_mem _ k1, k2⟩
        · cases h

/-- A row of operations carried out, so far. -/
structure Pre (E : Env) (cl : Oracle) (L : List RI) (T : Nat → Tr AV) (S : Nat → AS) (V : Nat → AV) : Prop where
  ev : ∀ (p : Nat) (r : RI), L[p]? = some r → evOper E cl r.o (T p) (S p) = some (V p, S (p + 1)) ∧ T (p + 1) = putD (T p) r.o.dst (V p)
  asap : ∀ (p c : Nat) (r rc : RI), L[p]? = some r → L[c]? = some rc → c < p → rc.cls = .change → (r.cls = .read ∨ r.cls = .alloc) → bfr rc.i r = true
  rchk : ∀ (p c : Nat) (z rc : RI), p < c → L[p]? = some z → L[c]? = some rc → z.cls = .read → rc.cls = .change → bfr z.i rc = false → ∃ s, evOper E cl z.o (T p) (S (c + 1)) = some (V p, s)
  inj : ∀ (p p' : Nat) (r r' : RI), L[p]? = some r → L[p']? = some r' → r.i = r'.i → p = p'
  pos : ∀ (p p' : Nat) (r r' : RI), L[p]? = some r → L[p']? = some r' → bfr r.i r' = true → p < p'

theorem get_snoc {L : List RI} {r x : RI} {p : Nat} (h : (L ++ [r])[p]? = some x) : (p < L.length ∧ L[p]? = some x) ∨ (p = L.length ∧ x = r) := by
  rcases Nat.lt_trichotomy p L.length with h1 | h1 | h1
  · rw [List.getElem?_append_left h1] at h; exact .inl ⟨h1, h⟩
  · subst h1; simp at h; exact .inr ⟨rfl, h.symm⟩
  · rw [List.getElem?_eq_none (by simp; omega)] at h; cases h

theorem Pre.snoc {E : Env} {cl : Oracle} {L : List RI} {T : Nat → Tr AV} {S : Nat → AS} {V : Nat → AV} (h : Pre E cl L T S V) {r : RI} {v : AV} {s₁ : AS}
    (hn : ∀ z, z ∈ L → z.i ≠ r.i) (hb : ∀ z, z ∈ L → bfr r.i z = false) (hbb : bfr r.i r = false) (hev : evOper E cl r.o (T L.length) (S L.length) = some (v, s₁))
    (has : (r.cls = .read ∨ r.cls = .alloc) → ∀ c, c ∈ L → c.cls = .change → bfr c.i r = true)
    (hrc : r.cls = .change → ∀ (p : Nat) (z : RI), L[p]? = some z → z.cls = .read → bfr z.i r = false → ∃ s, evOper E cl z.o (T p) s₁ = some (V p, s)) :
    ∃ T' S' V', Pre E cl (L ++ [r]) T' S' V' ∧ (∀ p, p ≤ L.length → T' p = T p ∧ S' p = S p) ∧ (∀ p, p < L.length → V' p = V p) ∧
      T' (L.length + 1) = putD (T L.length) r.o.dst v ∧ S' (L.length + 1) = s₁ ∧ V' L.length = v := by
  refine ⟨fun p => if p ≤ L.length then T p else putD (T L.length) r.o.dst v, fun p => if p ≤ L.length then S p else s₁, fun p => if p < L.length then V p else v, ?_, ?_, ?_, ?_, ?_, ?_⟩
  · constructor
    · intro p x hx
      rcases get_snoc hx with ⟨h1, h2⟩ | ⟨rfl, rfl⟩
      · obtain ⟨e1, e2⟩ := h.ev p x h2
        rw [if_pos (Nat.le_of_lt h1), if_pos (Nat.le_of_lt h1), if_pos h1, if_pos (show p + 1 ≤ L.length from h1), if_pos (show p + 1 ≤ L.length from h1)]
        exact ⟨e1, e2⟩
      · rw [if_pos (Nat.le_refl _), if_pos (Nat.le_refl _), if_neg (Nat.lt_irrefl _), if_neg (by omega), if_neg (by omega)]
        exact ⟨hev, rfl⟩
    · intro p c x y hx hy hc h1 h2
      rcases get_snoc hy with ⟨k1, k2⟩ | ⟨rfl, rfl⟩
      · rcases get_snoc hx with ⟨m1, m2⟩ | ⟨rfl, rfl⟩
        · exact h.asap p c x y m2 k2 hc h1 h2
        · exact has h2 y (List.mem_of_getElem? k2) h1
      · have := lt_of_get hx; simp at this; omega
    · intro p c z y hpc hz hy h1 h2 h3
      have hz' : p < L.length ∧ L[p]? = some z := by
        rcases get_snoc hz with k | ⟨rfl, rfl⟩
        · exact k
        · have := lt_of_get hy; simp at this; omega
      rw [if_pos (Nat.le_of_lt hz'.1), if_pos hz'.1]
      rcases get_snoc hy with ⟨k1, k2⟩ | ⟨rfl, rfl⟩
      · rw [if_pos (show c + 1 ≤ L.length from k1)]
        exact h.rchk p c z y hpc hz'.2 k2 h1 h2 h3
      · rw [if_neg (by omega)]
        exact hrc h2 p z hz'.2 h1 h3
    · intro p p' x y hx hy he
      rcases get_snoc hx with ⟨k1, k2⟩ | ⟨rfl, rfl⟩ <;> rcases get_snoc hy with ⟨m1, m2⟩ | ⟨rfl, rfl⟩
      · exact h.inj p p' x y k2 m2 he
      · exact absurd he (hn x (List.mem_of_getElem? k2))
      · exact absurd he.symm (hn y (List.mem_of_getElem? m2))
      · rfl
    · intro p p' x y hx hy he
      rcases get_snoc hx with ⟨k1, k2⟩ | ⟨rfl, rfl⟩ <;> rcases get_snoc hy with ⟨m1, m2⟩ | ⟨rfl, rfl⟩
      · exact h.pos p p' x y k2 m2 he
      · exact k1
      · rw [hb y (List.mem_of_getElem? m2)] at he; cases he
      · rw [hbb] at he; cases he
  · intro p hp; simp [hp]
  · intro p hp; simp [hp]
  · simp only; rw [if_neg (by omega)]
  · simp only; rw [if_neg (by omega)]
  · simp

/-- A temporary that is not written stays. -/
theorem Pre.keep {E : Env} {cl : Oracle} {L : List RI} {T : Nat → Tr AV} {S : Nat → AS} {V : Nat → AV} (h : Pre E cl L T S V) {t : Nat} : ∀ (n p : Nat), p + n ≤ L.length →
    (∀ (k : Nat) (y : RI), p ≤ k → k < p + n → L[k]? = some y → y.o.dst ≠ some t) → (EO.t t).ev (T (p + n)) = (EO.t t).ev (T p) := by
  intro n
  induction n with
  | zero => intro p _ _; rfl
  | succ n ih =>
    intro p hp hk
    have hlt : p + n < L.length := by omega
    rw [show p + (n + 1) = p + n + 1 from rfl, (h.ev (p + n) _ (List.getElem?_eq_getElem hlt)).2, ev_putD, if_neg (hk (p + n) _ (by omega) (by omega) (List.getElem?_eq_getElem hlt))]
    exact ih p (by omega) fun k y h1 h2 => hk k y h1 (by omega)

/-- A load behind a change: what it gave. -/
theorem Pre.again {E : Env} {cl : Oracle} {L : List RI} {T : Nat → Tr AV} {S : Nat → AS} {V : Nat → AV} (h : Pre E cl L T S V) {done : List RI} (hd : ∀ z, z ∈ L ↔ z ∈ done) {r : RI} (hn : ∀ z, z ∈ L → z.i ≠ r.i) (hbr : ∀ z, z ∈ L → bfr r.i z = false) {v : AV} {rc : List EOper} {s₁ : AS}
    (hrd : ∀ z, z ∈ L → z.rd = tmpsOper z.o) (hrc : rcOf done r = some rc) (hre : recheck E cl (putD (T L.length) r.o.dst v) s₁ rc = true) :
    ∀ (p : Nat) (z : RI), L[p]? = some z → z.cls = .read → bfr z.i r = false → ∃ s, evOper E cl z.o (T p) s₁ = some (V p, s) := by
  intro p z hz hc hb
  have hzL := List.mem_of_getElem? hz
  obtain ⟨k1, k2, d, k3, k4⟩ := rcGo_spec hrc z ((hd z).1 hzL) hc hb
  obtain ⟨d', w, s', m1, m2, m3⟩ := recheck_spec hre _ k1
  rw [k3] at m1; cases m1
  have hp := lt_of_get hz
  have hno : ∀ (k : Nat) (y : RI), p + 1 ≤ k → k < L.length → L[k]? = some y → noWrite z y = true := by
    intro k y h1 h2 h3
    rcases k2 y (.inr ((hd y).1 (List.mem_of_getElem? h3))) with h4 | h4 | h4
    · have := h.inj k p y z h3 hz h4; omega
    · have := h.pos k p y z h3 hz h4; omega
    · exact h4
  have hnr : noWrite z r = true := by
    rcases k2 r (.inl rfl) with h4 | h4 | h4
    · exact absurd h4.symm (hn z hzL)
    · rw [hbr z hzL] at h4; cases h4
    · exact h4
  have nw : ∀ (y : RI) (t : Nat), noWrite z y = true → (t ∈ z.rd ∨ t = d) → y.o.dst ≠ some t := by
    intro y t hw ht he
    simp only [noWrite, he, k3, Bool.and_eq_true, Bool.not_eq_true', bne_iff_ne, ne_eq, Option.some.injEq] at hw
    rcases ht with ht | ht
    · have := hw.1; rw [List.contains_eq_mem] at this; simp [ht] at this
    · exact hw.2 ht.symm
  have e1 : ∀ t, t ∈ z.rd → (EO.t t).ev (putD (T L.length) r.o.dst v) = (EO.t t).ev (T p) := by
    intro t ht
    rw [ev_putD, if_neg (nw r t hnr (.inl ht))]
    have := h.keep (t := t) (L.length - p) p (by omega) (fun k y h1 h2 h3 => by
      by_cases hkp : k = p
      · subst hkp; rw [hz] at h3; cases h3
        rw [k3]; intro he; cases he; exact k4 ht
      · exact nw y t (hno k y (by omega) (by omega) h3) (.inl ht))
    rw [show p + (L.length - p) = L.length from by omega] at this
    exact this
  have e2 : V p = w := by
    have f1 : (EO.t d).ev (putD (T L.length) r.o.dst v) = w := by simp only [EO.ev, m2]
    rw [ev_putD, if_neg (nw r d hnr (.inr rfl))] at f1
    have f2 := h.keep (t := d) (L.length - (p + 1)) (p + 1) (by omega) (fun k y h1 h2 h3 => nw y d (hno k y h1 (by omega) h3) (.inr rfl))
    rw [show p + 1 + (L.length - (p + 1)) = L.length from by omega, (h.ev p z hz).2, ev_putD, if_pos k3] at f2
    rw [← f2, f1]
  refine ⟨s', ?_⟩
  rw [e2, ← m3]
  exact (evOper_congr fun t ht => e1 t (by rw [hrd z hzL]; exact ht)).symm

end Go.Ab
