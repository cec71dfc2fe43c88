/- Soundness of the abstract evaluator: a region whose order is drawn, where its changes come one behind the other. -/
import Derived.Test.YthekpkcmlndcmaaGreatAbM2
noncomputable section
namespace Go.Ab

/-- The temporaries behind those operations of a row that Q takes, in the row's order. -/
def foldT (V : Nat → AV) (Q : Nat → RI → Bool) : List RI → Nat → Tr AV → Tr AV
  | [], _, T => T
  | r :: L, p, T => foldT V Q L (p + 1) (if Q p r then putD T r.o.dst (V p) else T)

theorem ev_putD (T : Tr AV) (d : Option Nat) (v : AV) (t : Nat) : (EO.t t).ev (putD T d v) = if d = some t then v else (EO.t t).ev T := by
  cases d with
  | none => simp [putD]
  | some d =>
    simp only [putD, EO.ev, Tr.get_set, Option.some.injEq]
    by_cases h : t = d
    · subst h; simp
    · rw [if_neg h, if_neg (fun e => h e.symm)]

theorem foldT_ev (V : Nat → AV) (Q Q' : Nat → RI → Bool) (t : Nat) : ∀ (L : List RI) (p : Nat) (T T' : Tr AV), (EO.t t).ev T = (EO.t t).ev T' →
    (∀ (k : Nat) (r : RI), L[k]? = some r → r.o.dst = some t → Q (p + k) r = Q' (p + k) r) → (EO.t t).ev (foldT V Q L p T) = (EO.t t).ev (foldT V Q' L p T')
  | [], _, _, _, h, _ => h
  | r :: L, p, T, T', h, hq => by
    simp only [foldT]
    refine foldT_ev V Q Q' t L (p + 1) _ _ ?_ ?_
    · by_cases hd : r.o.dst = some t
      · have := hq 0 r rfl hd
        simp only [Nat.add_zero] at this
        rw [this]
        split
        · rw [ev_putD, ev_putD]; simp [hd]
        · exact h
      · have e : ∀ (b : Bool) (U : Tr AV), (EO.t t).ev (if b = true then putD U r.o.dst (V p) else U) = (EO.t t).ev U := by
          intro b U; split
          · rw [ev_putD, if_neg hd]
          · rfl
        rw [e, e, h]
    · intro k r' hk hd
      have := hq (k + 1) r' (by simpa using hk) hd
      rw [show p + 1 + k = p + (k + 1) from by omega]; exact this

structure Tra (P : Program) (E : Env) (cl : Oracle) (ops : Array Oper) (N : Nat) (L : List RI) (T : Nat → Tr AV) (S : Nat → AS) (V : Nat → AV) : Prop where
  facts' : ∀ (p : Nat) (r : RI), L[p]? = some r → ∃ o, ops[r.i]? = some o ∧ r.o = cOper P ops o ∧ r.cls = clsOf r.o.op ∧ r.rd = tmpsOper r.o
  inj' : ∀ (p p' : Nat) (r r' : RI), L[p]? = some r → L[p']? = some r' → r.i = r'.i → p = p'
  pos' : ∀ (p p' : Nat) (r r' : RI), L[p]? = some r → L[p']? = some r' → bfr r.i r' = true → p < p'
  closed' : ∀ (D : Nat → Prop), Closed ops D → ∀ r, r ∈ L → D r.i → ∀ j, bfr j r = true → D j
  cov : ∀ i, i < ops.size → ∃ r, r ∈ L ∧ r.i = i
  ev : ∀ (p : Nat) (r : RI), L[p]? = some r → evOper E cl r.o (T p) (S p) = some (V p, S (p + 1)) ∧ T (p + 1) = putD (T p) r.o.dst (V p)
  apart : ∀ (p p' : Nat) (r r' : RI), L[p]? = some r → L[p']? = some r' → p ≠ p' → free r r' = true → tmpsApart r r' = true
  asap : ∀ (p c : Nat) (r rc : RI), L[p]? = some r → L[c]? = some rc → c < p → rc.cls = .change → (r.cls = .read ∨ r.cls = .alloc) → bfr rc.i r = true
  rchk : ∀ (p c : Nat) (z rc : RI), p < c → L[p]? = some z → L[c]? = some rc → z.cls = .read → rc.cls = .change → bfr z.i rc = false → ∃ s, evOper E cl z.o (T p) (S (c + 1)) = some (V p, s)
  dst : ∀ (r : RI), r ∈ L → ∀ d, r.o.dst = some d → d < N

section
variable {P : Program} {E : Env} {cl : Oracle} {ops : Array Oper} {N : Nat} {L : List RI} {T : Nat → Tr AV} {S : Nat → AS} {V : Nat → AV}

theorem split_at {L : List RI} {p : Nat} {r : RI} (h : L[p]? = some r) : L = L.take p ++ r :: L.drop (p + 1) ∧ (L.take p).length = p := by
  have hp : p < L.length := by
    rcases Nat.lt_or_ge p L.length with h' | h'
    · exact h'
    · rw [List.getElem?_eq_none h'] at h; cases h
  refine ⟨?_, by simp; omega⟩
  have e : L[p] = r := by rw [List.getElem?_eq_getElem hp] at h; cases h; rfl
  rw [← e, List.getElem_cons_drop hp, List.take_append_drop]

theorem Tra.facts (tr : Tra P E cl ops N L T S V) {p : Nat} {r : RI} (h : L[p]? = some r) : ∃ o, ops[r.i]? = some o ∧ r.o = cOper P ops o ∧ r.cls = clsOf r.o.op ∧ r.rd = tmpsOper r.o := tr.facts' p r h
theorem Tra.inj (tr : Tra P E cl ops N L T S V) {p p' : Nat} {r r' : RI} (h : L[p]? = some r) (h' : L[p']? = some r') (he : r.i = r'.i) : p = p' := tr.inj' p p' r r' h h' he
/-- Who comes before stands ahead. -/
theorem Tra.pos (tr : Tra P E cl ops N L T S V) {p p' : Nat} {r r' : RI} (h : L[p]? = some r) (h' : L[p']? = some r') (hb : bfr r.i r' = true) : p < p' := tr.pos' p p' r r' h h' hb
theorem Tra.closed (tr : Tra P E cl ops N L T S V) {D : Nat → Prop} (hD : Closed ops D) {p : Nat} {r : RI} (h : L[p]? = some r) (hr : D r.i) {j : Nat} (hb : bfr j r = true) : D j :=
  tr.closed' D hD r (List.mem_of_getElem? h) hr j hb

def inD (D : List Nat) : Nat → RI → Bool := fun _ r => decide (r.i ∈ D)

theorem T_eq (tr : Tra P E cl ops N L T S V) (t p : Nat) : ∀ (n m : Nat), m + n = L.length → m ≤ p → (EO.t t).ev (foldT V (fun k _ => decide (k < p)) (L.drop m) m (T m)) = (EO.t t).ev (T (min p L.length)) := by
  intro n
  induction n with
  | zero =>
    intro m hm hp
    rw [List.drop_eq_nil_of_le (by omega)]
    simp only [foldT]
    rw [show min p L.length = m from by omega]
  | succ n ih =>
    intro m hm hp
    have hlt : m < L.length := by omega
    rw [List.drop_eq_getElem_cons hlt]
    simp only [foldT]
    by_cases hmp : m < p
    · simp only [hmp, decide_true, if_true]
      obtain ⟨_, h2⟩ := tr.ev m L[m] (List.getElem?_eq_getElem hlt)
      rw [← h2]
      exact ih (m + 1) (by omega) (by omega)
    · have hmp' : m = p := by omega
      subst hmp'
      simp only [Nat.lt_irrefl, decide_false, Bool.false_eq_true, if_false]
      rw [show min m L.length = m from by omega]
      have key : ∀ (l : List RI) (k : Nat) (U : Tr AV), m ≤ k → foldT V (fun k _ => decide (k < m)) l k U = U := by
        intro l
        induction l with
        | nil => intro k U _; rfl
        | cons x l ihl =>
          intro k U hk
          simp only [foldT]
          rw [if_neg (by simp; omega)]
          exact ihl (k + 1) U (by omega)
      rw [key _ _ _ (by omega)]

/-- What an operation reads stands as it stood when it was carried out in the row's order. -/
theorem Tra.reads (tr : Tra P E cl ops N L T S V) {D : List Nat} {p : Nat} {r : RI} (h : L[p]? = some r) (hn : r.i ∉ D) (hD : Closed ops (fun i => i ∈ D)) (hD' : Closed ops (fun i => i ∈ r.i :: D)) {t : Nat} (ht : t ∈ r.rd) :
    (EO.t t).ev (foldT V (inD D) L 0 (T 0)) = (EO.t t).ev (T p) := by
  have hp : p < L.length := by
    rcases Nat.lt_or_ge p L.length with h' | h'
    · exact h'
    · rw [List.getElem?_eq_none h'] at h; cases h
  have e := T_eq tr t p L.length 0 (by omega) (Nat.zero_le _)
  rw [show min p L.length = p from by omega, List.drop_zero] at e
  rw [← e]
  refine foldT_ev V _ _ t L 0 _ _ rfl fun k y hk hd => ?_
  simp only [inD, Nat.zero_add]
  by_cases hkp : k = p
  · subst hkp; rw [h] at hk; cases hk; simp [hn]
  · have hord : bfr y.i r = true ∨ bfr r.i y = true := by
      refine Classical.byContradiction fun hno => ?_
      simp only [not_or, Bool.not_eq_true] at hno
      have hfree : free y r = true := by simp [free, hno.1, hno.2]
      have := tr.apart k p y r hk h hkp hfree
      simp only [tmpsApart, hd, Bool.and_eq_true, Bool.not_eq_true'] at this
      have h1 := this.1.1
      rw [List.contains_eq_mem] at h1
      simp [ht] at h1
    rcases hord with hb | hb
    · have h1 := tr.pos hk h hb
      have h2 : y.i ∈ D := by
        have := tr.closed hD' h (List.mem_cons_self ..) hb
        rcases List.mem_cons.1 this with h3 | h3
        · exact absurd (tr.inj hk h h3) hkp
        · exact h3
      simp [h1, h2]
    · have h1 := tr.pos h hk hb
      have h2 : y.i ∉ D := fun h2 => hn (tr.closed hD hk h2 hb)
      simp [h2]; omega

/-- The temporaries behind one operation more. -/
theorem Tra.puts (tr : Tra P E cl ops N L T S V) {D : List Nat} {p : Nat} {r : RI} (h : L[p]? = some r) (hn : r.i ∉ D) (hD : Closed ops (fun i => i ∈ D)) (hD' : Closed ops (fun i => i ∈ r.i :: D)) (t : Nat) :
    (EO.t t).ev (foldT V (inD (r.i :: D)) L 0 (T 0)) = (EO.t t).ev (putD (foldT V (inD D) L 0 (T 0)) r.o.dst (V p)) := by
  have hp : p < L.length := by
    rcases Nat.lt_or_ge p L.length with h' | h'
    · exact h'
    · rw [List.getElem?_eq_none h'] at h; cases h
  rw [ev_putD]
  by_cases hdt : r.o.dst = some t
  · rw [if_pos hdt]
    have e := T_eq tr t (p + 1) L.length 0 (by omega) (Nat.zero_le _)
    rw [show min (p + 1) L.length = p + 1 from by omega, List.drop_zero] at e
    have e2 : (EO.t t).ev (T (p + 1)) = V p := by rw [(tr.ev p r h).2, ev_putD, if_pos hdt]
    rw [← e2, ← e]
    refine foldT_ev V _ _ t L 0 _ _ rfl fun k y hk hd => ?_
    simp only [inD, Nat.zero_add]
    by_cases hkp : k = p
    · subst hkp; rw [h] at hk; cases hk; simp
    · have hord : bfr y.i r = true ∨ bfr r.i y = true := by
        refine Classical.byContradiction fun hno => ?_
        simp only [not_or, Bool.not_eq_true] at hno
        have hfree : free y r = true := by simp [free, hno.1, hno.2]
        have := tr.apart k p y r hk h hkp hfree
        simp only [tmpsApart, hd, hdt, Bool.and_eq_true] at this
        have h1 := this.1.2
        simp at h1
      rcases hord with hb | hb
      · have h1 := tr.pos hk h hb
        have h2 := tr.closed hD' h (List.mem_cons_self ..) hb
        simp only [h2, decide_true]; simp; omega
      · have h1 := tr.pos h hk hb
        have h2 : y.i ∉ r.i :: D := fun h2 => by
          rcases List.mem_cons.1 h2 with h3 | h3
          · exact hkp (tr.inj hk h h3)
          · exact hn (tr.closed hD hk h3 hb)
        simp only [h2, decide_false]; simp; omega
  · rw [if_neg hdt]
    refine foldT_ev V _ _ t L 0 _ _ rfl fun k y hk hd => ?_
    simp only [inD, Nat.zero_add]
    have hne : y.i ≠ r.i := fun he => by
      have := tr.inj hk h he
      subst this; rw [h] at hk; cases hk; exact hdt hd
    simp [hne]

end
end Go.Ab
