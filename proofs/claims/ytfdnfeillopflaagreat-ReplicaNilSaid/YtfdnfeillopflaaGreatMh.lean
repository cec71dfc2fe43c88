/- The abstract evaluator with functions that are answered at once; that it is right. -/
import Derived.Test.YtfdnfeillopflaaGreatMg
noncomputable section
namespace Go.Ab

/-- A function that is answered at once, from its arguments. -/
abbrev Nat1 := Oracle → List AV → AS → Option (AV × AS)
abbrev NTab := Tr Nat1

def evCallN (E : Env) (tab : Tab) (nt : NTab) (lf : Nat) : Nat → Oracle
  | 0, _, _, _ => none
  | n + 1, f, args, s => match f with
    | .fn k first cap => match nt.get k with
      | some g => g (evCallN E tab nt lf n) (first ++ args ++ cap) s
      | none => match tab.get k with
        | some F => evFunc E (evCallN E tab nt lf n) lf F (first ++ args ++ cap) s
        | none => none
    | .yld l => evRound E (evCallN E tab nt lf n) lf l args s
    | _ => none

/-- What a function comes to, called at these arguments. -/
def FnOk (P : Program) (k : FuncId) (args : List AV) (σ : Sg) (s : AS) (w : World) (v : AV) (s' : AS) : Prop :=
  ∃ σ' w', Rel P σ' s' w' ∧ In σ' v ∧ Ext σ s w σ' s' w' ∧
      (∀ (c : Frame) (cs : List Frame), Steps P (lone (Frame.enter P k (concL σ args).toArray .normal) (c :: cs) w) (lone (c.finish (conc σ' v)) cs w')) ∧
      (∀ cs, ∃ fr, Steps P (lone (Frame.enter P k (concL σ args).toArray .normal) cs w) (lone fr cs w') ∧ fr.fn = k ∧ fr.leaving P w' (.returned (conc σ' v)))

/-- May a function be entered? -/
def Entered (P : Program) (k : FuncId) : Prop := ∃ f b, P.funcs[k]? = some f ∧ f.body = some b ∧ f.name ≠ "runtime.NumGoroutine"

/-- A function that is answered at once is answered as the machine answers. -/
def NSound (P : Program) (k : FuncId) (g : Nat1) : Prop :=
  Entered P k ∧ ∀ (E : Env) (cl : Oracle), ClOk P E cl → ∀ (args : List AV) (s : AS) (v : AV) (s' : AS) (σ : Sg) (w : World),
    g cl args s = some (v, s') → Rel P σ s w → EOk E σ → InL σ args → FnOk P k args σ s w v s'

def NtOk (P : Program) (nt : NTab) : Prop := ∀ k g, nt.get k = some g → NSound P k g

theorem evCallN_fn {P : Program} {E : Env} {tab : Tab} {nt : NTab} (htab : TabOk P tab) (hnt : NtOk P nt) (hmix : P.follows .mixedOrders = true) {lf n : Nat} (ih : ClOk P E (evCallN E tab nt lf n)) {k : FuncId} {first cap args : List AV} {s s' : AS} {v : AV} {σ : Sg} {w : World}
    (h : evCallN E tab nt lf (n + 1) (.fn k first cap) args s = some (v, s')) (r : Rel P σ s w) (he : EOk E σ) (hin : InL σ (first ++ args ++ cap)) : Entered P k ∧ FnOk P k (first ++ args ++ cap) σ s w v s' := by
  simp only [evCallN] at h
  split at h
  · rename_i g hg
    obtain ⟨h1, h2⟩ := hnt k g hg
    exact ⟨h1, h2 E _ ih _ _ _ _ _ _ h r he hin⟩
  · split at h
    · rename_i F hF
      obtain ⟨fn, h1, h2⟩ := htab k F hF
      obtain ⟨b, es, f1, _, _, _, f4⟩ := cFunc_some h2
      exact ⟨⟨fn, b, h1, f1, f4⟩, func_sound ih hmix lf h1 h2 h r he hin⟩
    · cases h

theorem evCallN_ok {P : Program} {E : Env} {tab : Tab} {nt : NTab} (htab : TabOk P tab) (hnt : NtOk P nt) (hmix : P.follows .mixedOrders = true) (lf : Nat) : ∀ n, ClOk P E (evCallN E tab nt lf n) := by
  intro n
  induction n with
  | zero => intro f args s v s' σ w h; simp [evCallN] at h
  | succ n ih =>
    intro f args s v s' σ w h r he hf hargs
    cases f with
    | fn k first cap =>
      simp only [In] at hf
      obtain ⟨⟨fn, b, h1, f1, f4⟩, σ', w', k1, k2, k3, k4, _⟩ := evCallN_fn htab hnt hmix ih h r he (InL_append (InL_append hf.1 hargs) hf.2)
      refine ⟨σ', w', k1, k2, k3, ?_⟩
      intro fr cs hm hp
      refine ⟨_, _, _, apply_enter (k := k) (args := (concL σ (first ++ args ++ cap)).toArray) (w' := w) hp ?_, k4 fr cs⟩
      simp only [conc, Deferred.ofValue, pure_bind, invoke]
      rw [run_callFunc h1 f1 f4]
      simp [concL_append]
    | yld l =>
      simp only [evCallN] at h
      simp only [In] at hf
      obtain ⟨q, hq⟩ := isSome_get hf
      obtain ⟨σ', w', k1, k2, k3, k4⟩ := round_sound ih hmix lf h r he hargs hq
      refine ⟨σ', w', k1, k2, k3, ?_⟩
      simp only [conc, hq, Option.getD_some]
      exact k4
    | _ => simp [evCallN] at h

/-- WHAT THE EVALUATOR ANSWERS THE MACHINE ANSWERS, WHATEVER THE TAPE SAYS. -/
theorem calls_of_evN {P : Program} {E : Env} {tab : Tab} {nt : NTab} (htab : TabOk P tab) (hnt : NtOk P nt) (hmix : P.follows .mixedOrders = true) (lf n : Nat) {k : FuncId} {args : List AV} {s s' : AS} {v : AV} {σ : Sg} {w : World}
    (h : evCallN E tab nt lf (n + 1) (.fn k [] []) args s = some (v, s')) (r : Rel P σ s w) (he : EOk E σ) (hin : InL σ args) :
    ∃ σ' w', Rel P σ' s' w' ∧ In σ' v ∧ Ext σ s w σ' s' w' ∧ Calls P k (concL σ args).toArray w (fun e w'' => e = .returned (conc σ' v) ∧ w'' = w') := by
  obtain ⟨_, σ', w', k1, k2, k3, _, k5⟩ := evCallN_fn htab hnt hmix (evCallN_ok htab hnt hmix lf n) h r he (by simpa using hin)
  refine ⟨σ', w', k1, k2, k3, fun cs => ?_⟩
  obtain ⟨fr, g1, g2, g3⟩ := k5 cs
  have g1 : Steps P (lone (Frame.enter P k (concL σ args).toArray .normal) cs w) (lone fr cs w') := by simpa using g1
  exact ⟨.returned (conc σ' v), w', fr, ⟨rfl, rfl⟩, g1, g2, g3⟩

/-! ### What is new is forgotten -/
/-- A value that refers to nothing. -/
def plainV : AV → Bool
  | .undef | .bool _ | .int _ _ | .str _ | .nilp | .nils | .nilm | .nilf | .nili | .tup [] => true
  | _ => false

theorem plainV_in {σ : Sg} {v : AV} (h : plainV v = true) : In σ v := by
  unfold plainV at h
  split at h <;> first | trivial | cases h
theorem plainV_conc {σ τ : Sg} {v : AV} (h : plainV v = true) : conc σ v = conc τ v := by
  unfold plainV at h
  split at h <;> first | rfl | cases h

def Sg.upto (τ σ : Sg) : Sg := { τ with ar := fun a => if (σ.ar a).isEmpty then [] else τ.ar a, mp := σ.mp, lp := σ.lp }

/-- s': what lay there in s, as it lies in s₁; the changed cells refer to nothing, or are old ones. -/
structure Shr (args : List AV) (s s₁ s' : AS) : Prop where
  na : s'.na = s.na
  nm : s'.nm = s.nm
  nl : s'.nl = s.nl
  arr : ∀ a, a < s.na → s'.arrs.get a = s₁.arrs.get a ∧ (s₁.arrs.get a = s.arrs.get a ∨ (∃ j o, AV.ptr a j o ∈ args) ∧ ∀ A, s₁.arrs.get a = some A → ∀ j i v, A.rd j i = some v → plainV v = true ∨ s.rd a j i = some v)
  maps : ∀ m, m < s.nm → s'.maps.get m = s₁.maps.get m ∧ s₁.maps.get m = s.maps.get m
  loops : ∀ l, l < s.nl → s'.loops.get l = s₁.loops.get l ∧ s₁.loops.get l = s.loops.get l
  wf : s'.wf

theorem upto_ar {σ τ : Sg} {a : Nat} (h : σ.ar a ≠ []) : (τ.upto σ).ar a = τ.ar a := by
  simp only [Sg.upto]
  rw [if_neg]
  simpa using h
theorem upto_ne {σ τ : Sg} {a : Nat} (h : (τ.upto σ).ar a ≠ []) : σ.ar a ≠ [] := by
  intro h0
  apply h
  simp [Sg.upto, h0]

theorem upto_le {σ σ' : Sg} (h : σ.le σ') : σ.le (σ'.upto σ) where
  ar a := by
    by_cases h0 : σ.ar a = []
    · rw [h0]; exact List.nil_prefix
    · rw [upto_ar h0]; exact h.ar a
  mp _ _ hq := hq
  lp _ _ hq := hq
  opq := h.opq
  sym := h.sym

theorem forget {P : Program} {σ σ' : Sg} {s s₁ s' : AS} {w w' : World} (r : Rel P σ s w) (r₁ : Rel P σ' s₁ w') (x : Ext σ s w σ' s₁ w') {args : List AV} (hin : InL σ args) (h : Shr args s s₁ s') : Rel P (σ'.upto σ) s' w' ∧ Ext σ s w (σ'.upto σ) s' w' := by
  have hle := upto_le x.le
  have old : ∀ v, In σ v → In (σ'.upto σ) v ∧ conc (σ'.upto σ) v = conc σ' v := fun v hv =>
    ⟨(conc_le hle v hv).2, (conc_le hle v hv).1.trans (conc_le x.le v hv).1.symm⟩
  have lt : ∀ a, σ.ar a ≠ [] → a < s.na := fun a ha => by
    rcases Nat.lt_or_ge a s.na with h | h
    · exact h
    · exact absurd (r.na a h) ha
  have ltm : ∀ m q, σ.mp m = some q → m < s.nm := fun m q hq => by
    rcases Nat.lt_or_ge m s.nm with h | h
    · exact h
    · rw [r.nm m h] at hq; cases hq
  have ltl : ∀ m q, σ.lp m = some q → m < s.nl := fun m q hq => by
    rcases Nat.lt_or_ge m s.nl with h | h
    · exact h
    · rw [r.nl m h] at hq; cases hq
  refine ⟨⟨?_, ?_, ?_, r.minj, ?_, r.linj, ?_, ?_, ?_, r₁.opq, h.wf⟩, ⟨hle, ?_, x.fr, x.size, x.os, x.tape, x.output, by rw [h.na]; exact Nat.le_refl _, by rw [h.nm]; exact Nat.le_refl _, by rw [h.nl]; exact Nat.le_refl _, ?_, ?_⟩⟩
  · intro a ha
    have h0 := upto_ne ha
    rw [upto_ar h0] at ha ⊢
    obtain ⟨A, hA, q⟩ := r₁.arr a ha
    obtain ⟨e1, e2⟩ := h.arr a (lt a h0)
    refine ⟨A, e1.trans hA, ?_⟩
    have key : ∀ j i v, A.rd j i = some v → In (σ'.upto σ) v ∧ conc (σ'.upto σ) v = conc σ' v := by
      intro j i v hv
      rcases e2 with e2 | e2
      · obtain ⟨A₀, hA₀, q₀⟩ := r.arr a h0
        rw [← e2, hA] at hA₀; cases hA₀
        exact old v (q₀.inn j i v hv)
      · rcases e2.2 A hA j i v hv with this | this
        · exact ⟨plainV_in this, plainV_conc this⟩
        · obtain ⟨A₀, hA₀, q₀⟩ := r.arr a h0
          simp only [AS.rd, hA₀] at this
          exact old v (q₀.inn j i v this)
    exact ⟨q.len, q.full, q.shs, fun j i v hv => (key j i v hv).1, fun j vi hj => by
      obtain ⟨cs, E, fz, b1, b2, b3, b4⟩ := q.blk j vi hj
      exact ⟨cs, E, fz, b1, b2, b3, fun i v hv => by rw [(key j i v hv).2]; exact b4 i v hv⟩⟩
  · intro a a' vi vi' h1 h2 h3
    have h1' := upto_ne (List.ne_nil_of_mem h1)
    have h2' := upto_ne (List.ne_nil_of_mem h2)
    rw [upto_ar h1'] at h1
    rw [upto_ar h2'] at h2
    exact r₁.inj a a' vi vi' h1 h2 h3
  · intro m q hq
    obtain ⟨M, m1, m2, m3⟩ := r₁.map m q (x.le.mp m q hq)
    obtain ⟨e1, e2⟩ := h.maps m (ltm m q hq)
    obtain ⟨M₀, n1, _, n3⟩ := r.map m q hq
    rw [← e2, m1] at n1; cases n1
    refine ⟨M, e1.trans m1, ?_, fun e he => ⟨(old _ (n3 e he).1).1, (old _ (n3 e he).2).1⟩⟩
    rw [m2]
    congr 3
    apply List.map_congr_left
    intro e he
    simp only [centry, (old _ (n3 e he).1).2, (old _ (n3 e he).2).2]
  · intro l q hq
    obtain ⟨L, l1, N, fn, tm, asn, body, d, b1, b2, b3⟩ := r₁.lop l q (x.le.lp l q hq)
    obtain ⟨e1, e2⟩ := h.loops l (ltl l q hq)
    obtain ⟨L₀, n1, N₀, fn₀, tm₀, asn₀, body₀, d₀, c1, c2, _⟩ := r.lop l q hq
    rw [← e2, l1] at n1; cases n1
    refine ⟨L, e1.trans l1, N, fn, tm, asn, body, d, b1, ⟨b2.1, fun t => ?_⟩, b3⟩
    obtain ⟨o1, o2⟩ := old _ (c2.2 t).1
    exact ⟨o1, by rw [o2]; exact (b2.2 t).2⟩
  · intro a ha; rw [h.na] at ha; simp [Sg.upto, r.na a ha]
  · intro m hm; rw [h.nm] at hm; exact r.nm m hm
  · intro l hl; rw [h.nl] at hl; exact r.nl l hl
  · intro q hq
    apply x.img
    rcases hq with ⟨a, vi, h1, h2⟩ | ⟨m, h1⟩ | ⟨l, h1⟩
    · rw [upto_ar (upto_ne (List.ne_nil_of_mem h1))] at h1
      exact .inl ⟨a, vi, h1, h2⟩
    · exact .inr (.inl ⟨m, x.le.mp m q h1⟩)
    · exact .inr (.inr ⟨l, x.le.lp l q h1⟩)
  · intro a ha h0
    obtain ⟨f1, f2⟩ := x.fa a ha h0
    exact ⟨(h.arr a ha).1.trans f1, by simp [Sg.upto, h0]⟩
  · intro m hm h0
    obtain ⟨f1, f2⟩ := x.fm m hm h0
    exact ⟨(h.maps m hm).1.trans f1, h0⟩

/-- A FUNCTION ANSWERED AT ONCE, ITS ANSWER TOLD BY THE EVALUATOR: what it makes for itself is forgotten. -/
theorem nsound_of_ev {P : Program} {tab : Tab} {nt : NTab} (htab : TabOk P tab) (hnt : NtOk P nt) (hmix : P.follows .mixedOrders = true) {k : FuncId} (hk : Entered P k) {g : Nat1}
    (h : ∀ (E : Env) (cl : Oracle) (args : List AV) (s : AS) (v : AV) (s' : AS), s.wf → g cl args s = some (v, s') → plainV v = true ∧ ∃ lf n s₁, evCallN E tab nt lf (n + 1) (.fn k [] []) args s = some (v, s₁) ∧ Shr args s s₁ s') : NSound P k g := by
  refine ⟨hk, fun E cl _ args s v s' σ w hg r he hin => ?_⟩
  obtain ⟨hv, lf, n, s₁, h1, h2⟩ := h E cl args s v s' r.wf hg
  obtain ⟨_, σ', w', k1, k2, k3, k4, k5⟩ := evCallN_fn htab hnt hmix (evCallN_ok htab hnt hmix lf n) h1 r he (by simpa using hin)
  obtain ⟨q1, q2⟩ := forget r k1 k3 hin h2
  have hc : conc (σ'.upto σ) v = conc σ' v := plainV_conc hv
  refine ⟨σ'.upto σ, w', q1, plainV_in hv, q2, ?_, ?_⟩
  · intro c cs; rw [hc]; simpa using k4 c cs
  · intro cs; rw [hc]; simpa using k5 cs

end Go.Ab
end

noncomputable section
namespace Go.Ab

def OLe (c c' : Oracle) : Prop := ∀ f a s r, c f a s = some r → c' f a s = some r
theorem OLe.refl (c : Oracle) : OLe c c := fun _ _ _ _ h => h

section
variable {E : Env} {c c' : Oracle} (h : OLe c c')
include h

theorem evOp_mono {op : EOp} {T : Tr AV} {s : AS} {r : AV × AS} (k : evOp E c op T s = some r) : evOp E c' op T s = some r := by
  cases op with
  | call f args => exact h _ _ _ _ k
  | _ => exact k

theorem evOper_mono {o : EOper} {T : Tr AV} {s : AS} {r : AV × AS} (k : evOper E c o T s = some r) : evOper E c' o T s = some r := by
  unfold evOper at *
  split at k
  · exact evOp_mono h k
  · exact k
  · exact k

theorem recheck_mono {T : Tr AV} {s : AS} : ∀ {l : List EOper}, recheck E c T s l = true → recheck E c' T s l = true := by
  intro l
  induction l with
  | nil => intro k; exact k
  | cons o l ih =>
    intro k
    simp only [recheck] at *
    split at k
    · rename_i v s' hv
      rw [evOper_mono h hv]
      simp only at *
      split at k
      · split at k
        · split at k
          · exact ih k
          · cases k
        · cases k
      · cases k
    · cases k

theorem evStep_mono {st : EStep} {T : Tr AV} {s : AS} {r : Tr AV × AS} (k : evStep E c st T s = some r) : evStep E c' st T s = some r := by
  cases st with
  | one o rc =>
    simp only [evStep] at *
    split at k
    · rename_i v s' hv
      rw [evOper_mono h hv]
      simp only at *
      split at k
      · exact k
      · split at k
        · rename_i hr
          rw [recheck_mono h hr]; exact k
        · cases k
    · cases k
  | two x y rc =>
    simp only [evStep] at *
    split at k
    · cases k
    · rename_i h1; rw [evOper_mono h h1]; simp only
      split at k
      · cases k
      · rename_i h2; rw [evOper_mono h h2]; simp only
        split at k
        · cases k
        · rename_i h3; rw [evOper_mono h h3]; simp only
          split at k
          · cases k
          · split at k
            · cases k
            · split at k
              · rename_i ha
                simp only [Bool.and_eq_true] at ha
                rw [ha.1, recheck_mono h ha.2.1, recheck_mono h ha.2.2.1, recheck_mono h ha.2.2.2]
                exact k
              · cases k

theorem evSteps_mono : ∀ {l : List EStep} {T : Tr AV} {s : AS} {r : Tr AV × AS}, evSteps E c l T s = some r → evSteps E c' l T s = some r := by
  intro l
  induction l with
  | nil => intro T s r k; exact k
  | cons x l ih =>
    intro T s r k
    simp only [evSteps] at *
    split at k
    · rename_i h1; rw [evStep_mono h h1]; exact ih k
    · cases k

end

theorem rounds_mono {f f' : Tr AV → AS → Option (Ex × Tr AV × AS)} (hf : ∀ T s r, f T s = some r → f' T s = some r) : ∀ {n n' : Nat} {T : Tr AV} {s : AS} {r : Ex × Tr AV × AS}, n ≤ n' → rounds f n T s = some r → rounds f' n' T s = some r := by
  intro n
  induction n with
  | zero => intro n' T s r _ k; cases k
  | succ n ih =>
    intro n' T s r hn k
    obtain ⟨n', rfl⟩ : ∃ m, n' = m + 1 := ⟨n' - 1, by omega⟩
    simp only [rounds] at *
    split at k
    · rename_i h1
      rw [hf _ _ _ h1]; exact ih (by omega) k
    · rename_i h1
      rw [hf _ _ _ k]
      split
      · rename_i h2; cases h2; exact absurd k (by rintro k; exact h1 _ _ k)
      · rfl

theorem evCode_mono {E : Env} {c c' : Oracle} (h : OLe c c') {lf lf' : Nat} (hl : lf ≤ lf') : ∀ {C : ECode} {T : Tr AV} {s : AS} {r : Ex × Tr AV × AS}, evCode E c lf C T s = some r → evCode E c' lf' C T s = some r := by
  intro C
  induction C with
  | bad => intro T s r k; exact k
  | skip => intro T s r k; exact k
  | reg l =>
    intro T s r k
    simp only [evCode] at *
    split at k
    · rename_i h1; rw [evSteps_mono h h1]; exact k
    · cases k
  | seq a b iha ihb =>
    intro T s r k
    simp only [evCode] at *
    split at k
    · rename_i h1; rw [iha h1]; exact ihb k
    · rename_i h1
      rw [iha k]
      split
      · rename_i h2; cases h2; exact absurd k (by rintro k; exact h1 _ _ k)
      · rfl
  | cond x a b iha ihb =>
    intro T s r k
    simp only [evCode] at *
    split at k
    · exact iha k
    · exact ihb k
    · cases k
  | block id b ih =>
    intro T s r k
    simp only [evCode] at *
    split at k
    · rename_i h1; rw [ih h1]; exact k
    · cases k
  | loop b ih =>
    intro T s r k
    simp only [evCode] at *
    exact rounds_mono (fun T s r => ih) hl k
  | rangeF f ps asn body _ _ =>
    intro T s r k
    simp only [evCode] at *
    split at k
    · rename_i h1; rw [h _ _ _ _ h1]; exact k
    · cases k
  | exit id => intro T s r k; exact k
  | ret => intro T s r k; exact k

theorem evFunc_mono {E : Env} {c c' : Oracle} (h : OLe c c') {lf lf' : Nat} (hl : lf ≤ lf') {F : EFunc} {args : List AV} {s : AS} {r : AV × AS} (k : evFunc E c lf F args s = some r) : evFunc E c' lf' F args s = some r := by
  unfold evFunc at *
  split at k
  · cases k
  · split at k
    · cases k
    · rename_i x _ _ hx h1
      rw [evCode_mono h hl h1]
      cases x with
      | exit id => exact absurd rfl (hx id)
      | _ => exact k
    · cases k

theorem evRound_mono {E : Env} {c c' : Oracle} (h : OLe c c') {lf lf' : Nat} (hl : lf ≤ lf') {l : Nat} {args : List AV} {s : AS} {r : AV × AS} (k : evRound E c lf l args s = some r) : evRound E c' lf' l args s = some r := by
  unfold evRound at *
  split at k
  · cases k
  · split at k
    · cases k
    · split at k
      · rename_i h1
        rw [evCode_mono h hl h1]
        simp only at *
        split at k
        · cases k
        · split at k
          · split at k
            · cases k
            · rename_i h2
              rw [evCode_mono h hl h2]
              exact k
          · cases k
      · cases k

def NtMono (nt : NTab) : Prop := ∀ k g, nt.get k = some g → ∀ c c', OLe c c' → ∀ args s r, g c args s = some r → g c' args s = some r

theorem evCallN_mono {E : Env} {tab : Tab} {nt : NTab} (hm : NtMono nt) {lf lf' : Nat} (hl : lf ≤ lf') : ∀ {n n' : Nat}, n ≤ n' → OLe (evCallN E tab nt lf n) (evCallN E tab nt lf' n') := by
  intro n
  induction n with
  | zero => intro n' _ f a s r k; cases k
  | succ n ih =>
    intro n' hn f a s r k
    obtain ⟨n', rfl⟩ : ∃ m, n' = m + 1 := ⟨n' - 1, by omega⟩
    have hle := ih (n' := n') (by omega)
    simp only [evCallN] at *
    split at k
    · split at k
      · rename_i h1
        exact hm _ _ h1 _ _ hle _ _ _ k
      · rename_i h1
        split at k
        · exact evFunc_mono hle hl k
        · cases k
    · exact evRound_mono hle hl k
    · cases k

end Go.Ab
end

noncomputable section
namespace Go.Ab

/-- A temporary. -/
def tv (T : Tr AV) (n : Nat) : AV := (EO.t n).ev T
def upd (τ : Nat → AV) (d : Nat) (v : AV) (n : Nat) : AV := if n = d then v else τ n
def updO (τ : Nat → AV) (d : Option Nat) (v : AV) : Nat → AV :=
  match d with
  | some d => upd τ d v
  | none => τ
def EO.evF (x : EO) (τ : Nat → AV) : AV :=
  match x with
  | .t n => τ n
  | .c v => v
def evsF (τ : Nat → AV) (l : List EO) : List AV := l.map (EO.evF · τ)
def optF (τ : Nat → AV) (x : Option EO) : Option AV := x.map (EO.evF · τ)

theorem tv_set (T : Tr AV) (d : Nat) (v : AV) : tv (T.set d v) = upd (tv T) d v := by
  funext n
  simp only [tv, EO.ev, Tr.get_set, upd]
  by_cases h : n = d <;> simp [h]
theorem tv_put (T : Tr AV) (d : Option Nat) (v : AV) : tv (putD T d v) = updO (tv T) d v := by
  cases d with
  | none => rfl
  | some d => exact tv_set T d v
theorem ev_tv (x : EO) (T : Tr AV) : x.ev T = x.evF (tv T) := by cases x <;> rfl
theorem evs_tv (T : Tr AV) (l : List EO) : evs T l = evsF (tv T) l := by
  induction l with
  | nil => rfl
  | cons x l ih => simp only [evs, evsF, List.map_cons, ev_tv]; rw [ih]; rfl
theorem opt_tv (T : Tr AV) (x : Option EO) : optEv T x = optF (tv T) x := by
  cases x <;> simp [optEv, optF, ev_tv]
theorem tv_e : tv .e = fun _ => .undef := rfl

section
variable (E : Env) (tab : Tab) (nt : NTab)

/-- A call, of whatever depth. -/
def WF (f : AV) (args : List AV) (s : AS) (Q : AV → AS → Prop) : Prop := ∃ lf n v s', evCallN E tab nt lf n f args s = some (v, s') ∧ Q v s'
def WS (l : List EStep) (τ : Nat → AV) (s : AS) (Q : (Nat → AV) → AS → Prop) : Prop :=
  ∀ T, tv T = τ → ∃ lf n T' s', evSteps E (evCallN E tab nt lf n) l T s = some (T', s') ∧ Q (tv T') s'
def WC (c : ECode) (τ : Nat → AV) (s : AS) (Q : Ex → (Nat → AV) → AS → Prop) : Prop :=
  ∀ T, tv T = τ → ∃ lf n e T' s', evCode E (evCallN E tab nt lf n) lf c T s = some (e, T', s') ∧ Q e (tv T') s'
/-- An operation that calls nothing. -/
def OpR (op : EOp) (τ : Nat → AV) (s : AS) (v : AV) (s' : AS) : Prop := ∀ T, tv T = τ → ∀ cl, evOp E cl op T s = some (v, s')
end

section
variable {E : Env} {tab : Tab} {nt : NTab} {τ : Nat → AV} {s s' : AS} {v : AV}

/-! ### Operations -/
theorem OpR.mv {x : EO} : OpR E (.mv x) τ s (x.evF τ) s := fun T h cl => by subst h; simp only [evOp, ev_tv]
theorem OpR.pick {c a b : EO} {t : Bool} (h : c.evF τ = .bool t) : OpR E (.pick c a b) τ s (if t then a.evF τ else b.evF τ) s := fun T hT cl => by
  subst hT; simp only [evOp, ev_tv, h]; cases t <;> rfl
theorem OpR.alloc {zs : List AV} : OpR E (.alloc zs) τ s (.ptr s.na 0 0) (s.newZ zs.length zs).2 := fun T h cl => rfl
theorem OpR.box {x : EO} {l : List AV} (h : cellsOf (x.evF τ) = l) : OpR E (.box x) τ s (.ptr s.na 0 0) (s.new l).2 := fun T hT cl => by
  subst hT; subst h; simp only [evOp, ev_tv]; rfl
theorem OpR.ld1 {x : EO} {a j o : Nat} (h : x.evF τ = .ptr a j o) (hr : s.rd a j o = some v) : OpR E (.ld1 x) τ s v s := fun T hT cl => by
  subst hT; simp only [evOp, ev_tv, h, hr, some2]
theorem OpR.ldn {n : Nat} {x : EO} {a j o : Nat} {l : List AV} (h : x.evF τ = .ptr a j o) (hr : s.rdN a j o n = some l) : OpR E (.ldn n x) τ s (.agg l) s := fun T hT cl => by
  subst hT; simp only [evOp, ev_tv, h, hr]
theorem OpR.st {n : Nat} {a x : EO} {b j o : Nat} {l : List AV} (h : a.evF τ = .ptr b j o) (hx : cellsOf (x.evF τ) = l) (hl : l.length = n) (hw : s.wrN b j o l = some s') : OpR E (.st n a x) τ s .undef s' := fun T hT cl => by
  subst hT; subst hx; subst hl; simp only [evOp, ev_tv, h, beq_eq, decide_true, hw]
theorem OpR.nilck {x : EO} {a j o : Nat} (h : x.evF τ = .ptr a j o) : OpR E (.nilck x) τ s (.ptr a j o) s := fun T hT cl => by
  subst hT; simp only [evOp, ev_tv, h]
theorem OpR.bin {op : BinOp} {x y : EO} (h : binAV E op (x.evF τ) (y.evF τ) = some v) : OpR E (.bin op x y) τ s v s := fun T hT cl => by
  subst hT; simp only [evOp, ev_tv, h, some2]
theorem OpR.eq {neg b : Bool} {k : EqK} {x y : EO} (h : eqAV E k (x.evF τ) (y.evF τ) = some b) : OpR E (.eq neg k x y) τ s (.bool (b != neg)) s := fun T hT cl => by
  subst hT; simp only [evOp, ev_tv, h, some2, xorb]
theorem OpR.not {x : EO} {b : Bool} (h : x.evF τ = .bool b) : OpR E (.un .not x) τ s (.bool !b) s := fun T hT cl => by
  subst hT; simp only [evOp, ev_tv, h]
theorem OpR.neg {x : EO} {k : IntKind} {n : Int} (h : x.evF τ = .int k n) : OpR E (.un .neg x) τ s (.int k (k.wrap (0 - n))) s := fun T hT cl => by
  subst hT; simp only [evOp, ev_tv, h]; rfl
theorem OpR.com {x : EO} {k : IntKind} {n : Int} (h : x.evF τ = .int k n) : OpR E (.un .xor x) τ s (.int k (k.wrap ((BitVec.ofInt k.bits (if k.signed then -1 else k.max) ^^^ BitVec.ofInt k.bits n).toNat))) s := fun T hT cl => by
  subst hT; simp only [evOp, ev_tv, h]; rfl
theorem OpR.cvInt {k k' : IntKind} {x : EO} {n : Int} (h : x.evF τ = .int k' n) : OpR E (.cvInt k x) τ s (.int k (k.wrap n)) s := fun T hT cl => by
  subst hT; simp only [evOp, ev_tv, h]
theorem OpR.cvStr {x : EO} {b : ByteArray} (h : x.evF τ = .str b) : OpR E (.cvStr x) τ s (.str b) s := fun T hT cl => by
  subst hT; simp only [evOp, ev_tv, h]
theorem OpR.ifc {t : TypeId} {x : EO} : OpR E (.ifc t x) τ s (.ifc t (x.evF τ)) s := fun T hT cl => by
  subst hT; simp only [evOp, ev_tv]
theorem OpR.mkFn {f : FuncId} {a b : List EO} : OpR E (.mkFn f a b) τ s (.fn f (evsF τ a) (evsF τ b)) s := fun T hT cl => by
  subst hT; simp only [evOp, evs_tv]
theorem OpR.slSl {es : Nat} {x : EO} {lo hi mx : Option EO} (h : sliceAV es (optF τ lo) (optF τ hi) (optF τ mx) (x.evF τ) = some v) : OpR E (.slSl es x lo hi mx) τ s v s := fun T hT cl => by
  subst hT; simp only [evOp, ev_tv, opt_tv, h, some2]
theorem OpR.slArr {n es : Nat} {x : EO} {lo hi mx : Option EO} {a j o : Nat} (hx : x.evF τ = .ptr a j o) (h : sliceAV es (optF τ lo) (optF τ hi) (optF τ mx) (.sl a j o n (.known n)) = some v) : OpR E (.slArr n es x lo hi mx) τ s v s := fun T hT cl => by
  subst hT; simp only [evOp, ev_tv, opt_tv, hx, h, some2]
theorem OpR.fldA {off : Nat} {x : EO} {a j o : Nat} (h : x.evF τ = .ptr a j o) : OpR E (.fldA off x) τ s (.ptr a j (o + off)) s := fun T hT cl => by
  subst hT; simp only [evOp, ev_tv, h]
theorem OpR.fld {off n : Nat} {agg : Bool} {x : EO} {l : List AV} (h : x.evF τ = .agg l) (hp : partOf agg off n l = some v) : OpR E (.fld off n agg x) τ s v s := fun T hT cl => by
  subst hT; simp only [evOp, ev_tv, h, hp, some2]
theorem OpR.ixA {es : Nat} {x i : EO} {a j off len : Nat} {cap : Cap} {k : IntKind} {m : Nat} (h : x.evF τ = .sl a j off len cap) (hi : i.evF τ = .int k (m : Int)) (hl : m < len) : OpR E (.ixA es x i) τ s (.ptr a j (off + m * es)) s := fun T hT cl => by
  subst hT; simp only [evOp, ev_tv, h, hi]
  show (match ltb m len with | true => some (AV.ptr a j (off + m * es), s) | false => none) = _
  rw [ltb_eq]; simp [hl]
theorem OpR.ixAA {n es : Nat} {x i : EO} {a j off : Nat} {k : IntKind} {m : Nat} (h : x.evF τ = .ptr a j off) (hi : i.evF τ = .int k (m : Int)) (hl : m < n) : OpR E (.ixAA n es x i) τ s (.ptr a j (off + m * es)) s := fun T hT cl => by
  subst hT; simp only [evOp, ev_tv, h, hi]
  show (match ltb m n with | true => some (AV.ptr a j (off + m * es), s) | false => none) = _
  rw [ltb_eq]; simp [hl]
theorem OpR.ixS {x i : EO} {b : ByteArray} {k : IntKind} {m : Nat} {c : UInt8} (h : x.evF τ = .str b) (hi : i.evF τ = .int k (m : Int)) (hc : b[m]? = some c) : OpR E (.ixS x i) τ s (.int .u8 (c.toNat : Int)) s := fun T hT cl => by
  subst hT; simp only [evOp, ev_tv, h, hi]
  show (match b[m]? with | some c => some (AV.int .u8 (c.toNat : Int), s) | none => none) = _
  rw [hc]
theorem OpR.ixV {n es : Nat} {agg : Bool} {x i : EO} {l : List AV} {k : IntKind} {m : Nat} (h : x.evF τ = .agg l) (hi : i.evF τ = .int k (m : Int)) (hl : m < n) (hp : partOf agg (m * es) es l = some v) : OpR E (.ixV n es agg x i) τ s v s := fun T hT cl => by
  subst hT; simp only [evOp, ev_tv, h, hi]
  show (match ltb m n with | true => some2 s (partOf agg (m * es) es l) | false => none) = _
  rw [ltb_eq]; simp [hl, hp, some2]
theorem OpR.ext {x : EO} {i : Nat} {l : List AV} (h : x.evF τ = .tup l) (hn : nth l i = some v) : OpR E (.ext x i) τ s v s := fun T hT cl => by
  subst hT; simp only [evOp, ev_tv, h, hn, some2]
theorem OpR.len {k : Nat} {x : EO} {n : Nat} (h1 : lenIs k (x.evF τ) = true) (h2 : lenAV s (x.evF τ) = some n) : OpR E (.len k x) τ s (intN n) s := fun T hT cl => by
  subst hT; simp only [evOp, ev_tv, h1, h2]
theorem OpR.app {es bytes : Nat} {x y : EO} {k : Nat} {new : List AV} (h1 : lenAV s (y.evF τ) = some k) (h2 : srcCells s es k (y.evF τ) = some new) (h3 : appAV s es bytes k new (x.evF τ) = some (v, s')) : OpR E (.app es bytes x y) τ s v s' := fun T hT cl => by
  subst hT; simp only [evOp, ev_tv, h1, h2, h3]
theorem OpR.mx {xs : List EO} {x : AV} {l : List AV} (h : evsF τ xs = x :: l) (hf : foldAV (mxAV E) x l = some v) : OpR E (.mx xs) τ s v s := fun T hT cl => by
  subst hT; simp only [evOp, evs_tv, h, hf, some2]
theorem OpR.mn {xs : List EO} {x : AV} {l : List AV} (h : evsF τ xs = x :: l) (hf : foldAV (mnAV E) x l = some v) : OpR E (.mn xs) τ s v s := fun T hT cl => by
  subst hT; simp only [evOp, evs_tv, h, hf, some2]
def fillF (τ : Nat → AV) : List AV → List (Nat × Nat × EO) → Option (List AV)
  | cs, [] => some cs
  | cs, (off, size, x) :: l =>
    if (cellsOf (x.evF τ)).length = size ∧ off + (cellsOf (x.evF τ)).length ≤ cs.length then fillF τ (putAt cs off (cellsOf (x.evF τ))) l else none
theorem fillF_tv (T : Tr AV) (cs : List AV) (l : List (Nat × Nat × EO)) : fillP T cs l = fillF (tv T) cs l := by
  induction l generalizing cs with
  | nil => rfl
  | cons p l ih =>
    obtain ⟨o, z, x⟩ := p
    simp only [fillP, fillF, ev_tv, beq_eq, ble_eq]
    by_cases h1 : (cellsOf (x.evF (tv T))).length = z <;> by_cases h2 : o + (cellsOf (x.evF (tv T))).length ≤ cs.length <;> simp [h1, h2, ih]
    · subst h1; simp [h2]
    · subst h1; simp [h2]
theorem OpR.build {zs : List AV} {ps : List (Nat × Nat × EO)} {l : List AV} (h : fillF τ zs ps = some l) : OpR E (.build zs ps) τ s (.agg l) s := fun T hT cl => by
  subst hT; simp only [evOp, fillF_tv, h]
theorem OpR.buildSl {es len : Nat} {zs : List AV} {ps : List (Nat × Nat × EO)} {l : List AV} (h : fillF τ zs ps = some l) : OpR E (.buildSl es len zs ps) τ s (.sl s.na 0 0 len (.known len)) (s.new l).2 := fun T hT cl => by
  subst hT; simp only [evOp, fillF_tv, h]; rfl

/-! ### Steps -/
def wantedF (τ : Nat → AV) : Option (Option Nat × Bool) → Option Bool
  | none => some true
  | some (none, _) => some false
  | some (some t, b) => match τ t with
    | .bool c => some (c == b)
    | .opq _ => none
    | _ => some false
theorem wanted_tv (T : Tr AV) (g : Option (Option Nat × Bool)) : wantedE T g = wantedF (tv T) g := by
  cases g with
  | none => rfl
  | some p =>
    obtain ⟨t, b⟩ := p
    cases t with
    | none => rfl
    | some t => simp only [wantedE, wantedF, ev_tv, EO.evF]; cases tv T t <;> rfl

theorem WS.nil {Q : (Nat → AV) → AS → Prop} (h : Q τ s) : WS E tab nt [] τ s Q := fun T hT => ⟨0, 0, T, s, rfl, by rw [hT]; exact h⟩

theorem WS.step {op : EOp} {d : Option Nat} {g : Option (Option Nat × Bool)} {l : List EStep} {Q : (Nat → AV) → AS → Prop} (ho : OpR E op τ s v s') (hg : wantedF τ g = some true) (h : WS E tab nt l (updO τ d v) s' Q) :
    WS E tab nt (.one ⟨d, g, op⟩ [] :: l) τ s Q := fun T hT => by
  obtain ⟨lf, n, T', s₁, h1, h2⟩ := h (putD T d v) (by rw [tv_put, hT])
  refine ⟨lf, n, T', s₁, ?_, h2⟩
  simp only [evSteps, evStep, evOper, wanted_tv, hT, hg, ho T hT]
  exact h1

theorem WS.skip {op : EOp} {d : Option Nat} {g : Option (Option Nat × Bool)} {l : List EStep} {Q : (Nat → AV) → AS → Prop} (hg : wantedF τ g = some false) (h : WS E tab nt l (updO τ d .undef) s Q) :
    WS E tab nt (.one ⟨d, g, op⟩ [] :: l) τ s Q := fun T hT => by
  obtain ⟨lf, n, T', s₁, h1, h2⟩ := h (putD T d .undef) (by rw [tv_put, hT])
  refine ⟨lf, n, T', s₁, ?_, h2⟩
  simp only [evSteps, evStep, evOper, wanted_tv, hT, hg]
  exact h1

/-- Loads taken before a call, that must give what they gave. -/
def RcR (E : Env) (τ : Nat → AV) (s : AS) : List EOper → Prop
  | [] => True
  | o :: l => (∃ v s' d, OpR E o.op τ s v s' ∧ wantedF τ o.guard = some true ∧ o.dst = some d ∧ τ d = v ∧ same v v = true ∧ v ≠ .undef) ∧ RcR E τ s l

theorem rcR_ok {cl : Oracle} {T : Tr AV} : ∀ {l : List EOper}, RcR E (tv T) s l → recheck E cl T s l = true := by
  intro l
  induction l with
  | nil => intro _; rfl
  | cons o l ih =>
    intro h
    obtain ⟨⟨v, s', d, h1, h2, h3, h4, h5, h6⟩, h7⟩ := h
    cases hd : T.get d with
    | none => exact absurd h4.symm (by simpa [tv, EO.ev, hd] using h6)
    | some w =>
      have hw : w = v := by rw [← h4]; simp [tv, EO.ev, hd]
      subst hw
      simp only [recheck, evOper, wanted_tv, h2, h1 T rfl cl, h3, hd, h5, ih h7]

theorem WS.stepR {op : EOp} {d : Option Nat} {g : Option (Option Nat × Bool)} {rc : List EOper} {l : List EStep} {Q : (Nat → AV) → AS → Prop} (ho : OpR E op τ s v s') (hg : wantedF τ g = some true) (hr : RcR E (updO τ d v) s' rc) (h : WS E tab nt l (updO τ d v) s' Q) :
    WS E tab nt (.one ⟨d, g, op⟩ rc :: l) τ s Q := fun T hT => by
  obtain ⟨lf, n, T', s₁, h1, h2⟩ := h (putD T d v) (by rw [tv_put, hT])
  refine ⟨lf, n, T', s₁, ?_, h2⟩
  have e3 : recheck E (evCallN E tab nt lf n) (putD T d v) s' rc = true := rcR_ok (by rw [tv_put, hT]; exact hr)
  simp only [evSteps, evStep, evOper, wanted_tv, hT, hg, ho T hT]
  cases rc with
  | nil => exact h1
  | cons o rc => simp only [e3]; exact h1

variable (hm : NtMono nt)
include hm

theorem WS.call {f : EO} {args : List EO} {d : Option Nat} {g : Option (Option Nat × Bool)} {rc : List EOper} {l : List EStep} {Q : (Nat → AV) → AS → Prop} (hg : wantedF τ g = some true)
    (h : WF E tab nt (f.evF τ) (evsF τ args) s (fun v s' => RcR E (updO τ d v) s' rc ∧ WS E tab nt l (updO τ d v) s' Q)) : WS E tab nt (.one ⟨d, g, .call f args⟩ rc :: l) τ s Q := fun T hT => by
  obtain ⟨lf, n, v, s₁, h1, h2, h3⟩ := h
  obtain ⟨lf', n', T', s₂, h4, h5⟩ := h3 (putD T d v) (by rw [tv_put, hT])
  refine ⟨max lf lf', max n n', T', s₂, ?_, h5⟩
  have e1 := evCallN_mono (E := E) (tab := tab) hm (Nat.le_max_left lf lf') (Nat.le_max_left n n') _ _ _ _ h1
  have e2 := evSteps_mono (evCallN_mono (E := E) (tab := tab) hm (Nat.le_max_right lf lf') (Nat.le_max_right n n')) h4
  have e3 : recheck E (evCallN E tab nt (max lf lf') (max n n')) (putD T d v) s₁ rc = true := rcR_ok (by rw [tv_put, hT]; exact h2)
  simp only [evSteps, evStep, evOper, wanted_tv, hT, hg, evOp, ev_tv, evs_tv, e1]
  cases rc with
  | nil => exact e2
  | cons o rc => simp only [e3]; exact e2

/-! ### Code -/
omit hm in
theorem WC.skip {Q : Ex → (Nat → AV) → AS → Prop} (h : Q .normal τ s) : WC E tab nt .skip τ s Q := fun T hT => ⟨0, 0, _, T, s, rfl, by rw [hT]; exact h⟩
omit hm in
theorem WC.ret {Q : Ex → (Nat → AV) → AS → Prop} (h : Q .ret τ s) : WC E tab nt .ret τ s Q := fun T hT => ⟨0, 0, _, T, s, rfl, by rw [hT]; exact h⟩
omit hm in
theorem WC.exit {id : Nat} {Q : Ex → (Nat → AV) → AS → Prop} (h : Q (.exit id) τ s) : WC E tab nt (.exit id) τ s Q := fun T hT => ⟨0, 0, _, T, s, rfl, by rw [hT]; exact h⟩
omit hm in
theorem WC.reg {l : List EStep} {Q : Ex → (Nat → AV) → AS → Prop} (h : WS E tab nt l τ s (fun τ s => Q .normal τ s)) : WC E tab nt (.reg l) τ s Q := fun T hT => by
  obtain ⟨lf, n, T', s', h1, h2⟩ := h T hT
  exact ⟨lf, n, _, T', s', by simp only [evCode, h1], h2⟩
omit hm in
theorem WC.mono {c : ECode} {Q Q' : Ex → (Nat → AV) → AS → Prop} (h : WC E tab nt c τ s Q) (k : ∀ e τ s, Q e τ s → Q' e τ s) : WC E tab nt c τ s Q' := fun T hT => by
  obtain ⟨lf, n, e, T', s', h1, h2⟩ := h T hT
  exact ⟨lf, n, e, T', s', h1, k _ _ _ h2⟩
omit hm in
theorem WF.mono {f : AV} {args : List AV} {Q Q' : AV → AS → Prop} (h : WF E tab nt f args s Q) (k : ∀ v s, Q v s → Q' v s) : WF E tab nt f args s Q' := by
  obtain ⟨lf, n, v, s', h1, h2⟩ := h
  exact ⟨lf, n, v, s', h1, k _ _ h2⟩

theorem code_up {c : ECode} {T : Tr AV} {r : Ex × Tr AV × AS} {lf n lf' n' : Nat} (h : evCode E (evCallN E tab nt lf n) lf c T s = some r) (hl : lf ≤ lf') (hn : n ≤ n') : evCode E (evCallN E tab nt lf' n') lf' c T s = some r :=
  evCode_mono (evCallN_mono hm hl hn) hl h

theorem WC.seq {a b : ECode} {Q : Ex → (Nat → AV) → AS → Prop} (h : WC E tab nt a τ s (fun e τ s => match e with | .normal => WC E tab nt b τ s Q | e => Q e τ s)) : WC E tab nt (.seq a b) τ s Q := fun T hT => by
  obtain ⟨lf, n, e, T', s', h1, h2⟩ := h T hT
  cases e with
  | normal =>
    obtain ⟨lf', n', e', T'', s'', h3, h4⟩ := h2 T' rfl
    refine ⟨max lf lf', max n n', e', T'', s'', ?_, h4⟩
    simp only [evCode, code_up hm h1 (Nat.le_max_left lf lf') (Nat.le_max_left n n')]
    exact code_up hm h3 (Nat.le_max_right lf lf') (Nat.le_max_right n n')
  | exit id => exact ⟨lf, n, _, T', s', by simp only [evCode, h1], h2⟩
  | ret => exact ⟨lf, n, _, T', s', by simp only [evCode, h1], h2⟩

theorem WC.rseq {l : List EStep} {b : ECode} {Q : Ex → (Nat → AV) → AS → Prop} (h : WS E tab nt l τ s (fun τ s => WC E tab nt b τ s Q)) : WC E tab nt (.seq (.reg l) b) τ s Q :=
  WC.seq hm (WC.reg h)

omit hm in
theorem WC.cond {c : EO} {b : Bool} {x y : ECode} {Q : Ex → (Nat → AV) → AS → Prop} (hc : c.evF τ = .bool b) (h : WC E tab nt (if b then x else y) τ s Q) : WC E tab nt (.cond c x y) τ s Q := fun T hT => by
  obtain ⟨lf, n, e, T', s', h1, h2⟩ := h T hT
  subst hT
  refine ⟨lf, n, e, T', s', ?_, h2⟩
  simp only [evCode, ev_tv, hc]
  cases b <;> exact h1

omit hm in
theorem WC.block {id : Nat} {b : ECode} {Q : Ex → (Nat → AV) → AS → Prop} (h : WC E tab nt b τ s (fun e τ s => Q (blockEx id e) τ s)) : WC E tab nt (.block id b) τ s Q := fun T hT => by
  obtain ⟨lf, n, e, T', s', h1, h2⟩ := h T hT
  exact ⟨lf, n, _, T', s', by simp only [evCode, h1], h2⟩

theorem WC.loop {b : ECode} {Q : Ex → (Nat → AV) → AS → Prop} (I : (Nat → AV) → AS → Prop) (m : (Nat → AV) → AS → Nat)
    (h : ∀ τ s, I τ s → WC E tab nt b τ s (fun e τ' s' => match e with | .normal => I τ' s' ∧ m τ' s' < m τ s | e => Q e τ' s')) (hI : I τ s) : WC E tab nt (.loop b) τ s Q := by
  have main : ∀ k τ s, m τ s < k → I τ s → ∀ T, tv T = τ → ∃ lf n e T' s', rounds (evCode E (evCallN E tab nt lf n) lf b) k T s = some (e, T', s') ∧ Q e (tv T') s' := by
    intro k
    induction k with
    | zero => intro τ s h; omega
    | succ k ih =>
      intro τ s hk hI T hT
      obtain ⟨lf, n, e, T', s', h1, h2⟩ := h τ s hI T hT
      cases e with
      | normal =>
        obtain ⟨lf', n', e', T'', s'', h3, h4⟩ := ih (tv T') s' (by omega) h2.1 T' rfl
        refine ⟨max lf lf', max n n', e', T'', s'', ?_, h4⟩
        simp only [rounds, code_up hm h1 (Nat.le_max_left lf lf') (Nat.le_max_left n n')]
        exact rounds_mono (fun T s r hr => code_up hm hr (Nat.le_max_right lf lf') (Nat.le_max_right n n')) (Nat.le_refl _) h3
      | exit id => exact ⟨lf, n, _, T', s', by simp only [rounds, h1], h2⟩
      | ret => exact ⟨lf, n, _, T', s', by simp only [rounds, h1], h2⟩
  intro T hT
  obtain ⟨lf, n, e, T', s', h1, h2⟩ := main (m τ s + 1) τ s (by omega) hI T hT
  refine ⟨max lf (m τ s + 1), n, e, T', s', ?_, h2⟩
  simp only [evCode]
  exact rounds_mono (fun T s r hr => code_up hm hr (Nat.le_max_left lf _) (Nat.le_refl n)) (Nat.le_max_right lf _) h1

/-! ### Functions -/
def argsF (l : List AV) (n : Nat) : AV := l.getD n .undef
omit hm in
theorem tv_args (l : List AV) : tv (args0 .e 0 l) = argsF l := by
  have main : ∀ (l : List AV) (T : Tr AV) (i n : Nat), tv (args0 T i l) n = if i ≤ n ∧ n < i + l.length then l.getD (n - i) .undef else tv T n := by
    intro l
    induction l with
    | nil => intro T i n; rw [if_neg (by simp)]; rfl
    | cons v l ih =>
      intro T i n
      simp only [args0, ih, tv_set, upd, List.length_cons]
      by_cases h1 : n = i
      · subst h1; rw [if_neg (by omega), if_pos rfl, if_pos (by omega)]; simp
      · by_cases h2 : i + 1 ≤ n ∧ n < i + 1 + l.length
        · rw [if_pos h2, if_pos (by omega), show n - i = (n - (i + 1)) + 1 from by omega]; simp
        · rw [if_neg h2, if_neg h1, if_neg (by omega)]
  funext n
  rw [main]
  simp only [argsF, Nat.zero_le, true_and, Nat.zero_add, Nat.sub_zero]
  split
  · rfl
  · rename_i h
    simp only [List.getD_eq_getElem?_getD, List.getElem?_eq_none (Nat.le_of_not_lt h)]
    rfl

def resF (τ : Nat → AV) (s : AS) : ERes → Option AV
  | .tmp t => some (τ t)
  | .cell t n agg => match τ t with
    | .ptr a j o => match agg with
      | true => match s.rdN a j o n with
        | some l => some (.agg l)
        | none => none
      | false => s.rd a j o
    | _ => none
def resLF (τ : Nat → AV) (s : AS) : List ERes → Option (List AV)
  | [] => some []
  | r :: l => match resF τ s r with
    | some v => match resLF τ s l with
      | some vs => some (v :: vs)
      | none => none
    | none => none
def resultsF (τ : Nat → AV) (s : AS) (l : List ERes) : Option AV :=
  match resLF τ s l with
  | some [v] => some v
  | some vs => some (.tup vs)
  | none => none
omit hm in
theorem results_tv (T : Tr AV) (s : AS) (l : List ERes) : results T s l = resultsF (tv T) s l := by
  have h1 : ∀ r, evRes T s r = resF (tv T) s r := by
    intro r; cases r with
    | tmp t => rfl
    | cell t n agg => simp only [evRes, resF, ev_tv, EO.evF]; rfl
  have h2 : ∀ l, evResL T s l = resLF (tv T) s l := by
    intro l
    induction l with
    | nil => rfl
    | cons r l ih => simp only [evResL, resLF, h1, ih]; rfl
  simp only [results, resultsF, h2]
  rfl

omit hm in
theorem WF.fn {k : FuncId} {first cap args : List AV} {F : EFunc} {Q : AV → AS → Prop} (hn : nt.get k = none) (ht : tab.get k = some F) (hl : (first ++ args ++ cap).length ≤ F.ntmps)
    (h : WC E tab nt F.body (argsF (first ++ args ++ cap)) s (fun e τ s' => (∀ id, e ≠ .exit id) ∧ ∃ v, resultsF τ s' F.res = some v ∧ Q v s')) : WF E tab nt (.fn k first cap) args s Q := by
  obtain ⟨lf, n, e, T', s', h1, h2, v, h3, h4⟩ := h (args0 .e 0 (first ++ args ++ cap)) (tv_args _)
  refine ⟨lf, n + 1, v, s', ?_, h4⟩
  simp only [evCallN, hn, ht, evFunc, ble_eq, hl, decide_true, h1, results_tv, h3]

omit hm in
theorem WF.nat {k : FuncId} {first cap args : List AV} {g : Nat1} {Q : AV → AS → Prop} (hn : nt.get k = some g) (h : ∀ cl, ∃ v s', g cl (first ++ args ++ cap) s = some (v, s') ∧ Q v s') : WF E tab nt (.fn k first cap) args s Q := by
  obtain ⟨v, s', h1, h2⟩ := h (evCallN E tab nt 0 0)
  exact ⟨0, 1, v, s', by simp only [evCallN, hn]; exact h1, h2⟩

end

end Go.Ab
end

noncomputable section
namespace Go.Ab

theorem wrapU32 (n : Nat) : IntKind.u32.wrap (n : Int) = ((n % 4294967296 : Nat) : Int) := by
  show ((n : Int)) % ((4294967296 : Nat) : Int) = _
  exact (Int.natCast_emod n 4294967296).symm
theorem ofInt_nat (b n : Nat) : BitVec.ofInt b (n : Int) = BitVec.ofNat b n := by
  apply BitVec.eq_of_toNat_eq
  simp [BitVec.toNat_ofInt]

def add32 (a b : Nat) : Nat := (a + b) % 4294967296
def xor32 (a b : Nat) : Nat := (a % 4294967296 ^^^ b % 4294967296) % 4294967296
def and32 (a b : Nat) : Nat := (a % 4294967296 &&& b % 4294967296) % 4294967296
def or32 (a b : Nat) : Nat := (a % 4294967296 ||| b % 4294967296) % 4294967296
def com32 (a : Nat) : Nat := (4294967295 ^^^ a % 4294967296) % 4294967296
def shl32 (a k : Nat) : Nat := (a * 2 ^ min k 32) % 4294967296
def shr32 (a k : Nat) : Nat := a / 2 ^ min k 32

section
variable {E : Env}
theorem u32_add (a b : Nat) : binAV E .add (.int .u32 a) (.int .u32 b) = some (.int .u32 (add32 a b : Nat)) := by
  show (some (AV.int .u32 (IntKind.u32.wrap ((a : Int) + b)))) = _
  rw [show ((a : Int) + b) = ((a + b : Nat) : Int) from by norm_cast, wrapU32]; rfl
theorem u32_xor (a b : Nat) : binAV E .xor (.int .u32 a) (.int .u32 b) = some (.int .u32 (xor32 a b : Nat)) := by
  show (some (AV.int .u32 (IntKind.u32.wrap (((BitVec.ofInt 32 (a : Int) ^^^ BitVec.ofInt 32 (b : Int)).toNat : Nat) : Int)))) = _
  rw [ofInt_nat, ofInt_nat, wrapU32]; rfl
theorem u32_and (a b : Nat) : binAV E .and (.int .u32 a) (.int .u32 b) = some (.int .u32 (and32 a b : Nat)) := by
  show (some (AV.int .u32 (IntKind.u32.wrap (((BitVec.ofInt 32 (a : Int) &&& BitVec.ofInt 32 (b : Int)).toNat : Nat) : Int)))) = _
  rw [ofInt_nat, ofInt_nat, wrapU32]; rfl
theorem u32_or (a b : Nat) : binAV E .or (.int .u32 a) (.int .u32 b) = some (.int .u32 (or32 a b : Nat)) := by
  show (some (AV.int .u32 (IntKind.u32.wrap (((BitVec.ofInt 32 (a : Int) ||| BitVec.ofInt 32 (b : Int)).toNat : Nat) : Int)))) = _
  rw [ofInt_nat, ofInt_nat, wrapU32]; rfl
theorem u32_shl (a k : Nat) (kk : IntKind) : binAV E .shl (.int .u32 a) (.int kk (k : Int)) = some (.int .u32 (shl32 a k : Nat)) := by
  show shiftBin .shl .u32 a k = _
  simp only [shiftBin]
  have h : decide ((k : Int) < 0) = false := by simp
  rw [h]
  simp only [Int.toNat_natCast, IntKind.bits]
  rw [show ((a : Int) * 2 ^ min k 32) = ((a * 2 ^ min k 32 : Nat) : Int) from by norm_cast, wrapU32]; rfl
theorem u32_shr (a k : Nat) (kk : IntKind) : binAV E .shr (.int .u32 a) (.int kk (k : Int)) = some (.int .u32 (shr32 a k : Nat)) := by
  show shiftBin .shr .u32 a k = _
  simp only [shiftBin]
  have h : decide ((k : Int) < 0) = false := by simp
  rw [h]
  simp only [Int.toNat_natCast, IntKind.bits]
  congr 2
  rw [Int.fdiv_eq_ediv_of_nonneg]
  · norm_cast
  · exact Int.le_of_lt (Int.pow_pos (by decide))
theorem u32_com (a : Nat) : IntKind.u32.wrap (((BitVec.ofInt IntKind.u32.bits (if IntKind.u32.signed then -1 else IntKind.u32.max) ^^^ BitVec.ofInt IntKind.u32.bits (a : Int)).toNat : Nat) : Int) = ((com32 a : Nat) : Int) := by
  rw [wrapU32]
  simp only [IntKind.bits, ofInt_nat]
  rfl
theorem u32_cv (a : Nat) : IntKind.u32.wrap (a : Int) = ((a % 4294967296 : Nat) : Int) := wrapU32 a
end

/-! ### Whole numbers -/
theorem i64_wrap {n : Int} (h1 : -9223372036854775808 ≤ n) (h2 : n ≤ 9223372036854775807) : IntKind.i64.wrap n = n := wrap64_id h1 h2
theorem i64_add {E : Env} (a b : Nat) (h : a + b ≤ 9223372036854775807) : binAV E .add (.int .i64 a) (.int .i64 b) = some (.int .i64 ((a + b : Nat) : Int)) := by
  show some (AV.int .i64 (IntKind.i64.wrap ((a : Int) + b))) = _
  rw [i64_wrap (by omega) (by omega)]; norm_cast
theorem i64_mul {E : Env} (a b : Nat) (h : a * b ≤ 9223372036854775807) : binAV E .mul (.int .i64 a) (.int .i64 b) = some (.int .i64 ((a * b : Nat) : Int)) := by
  show some (AV.int .i64 (IntKind.i64.wrap ((a : Int) * b))) = _
  rw [show ((a : Int) * b) = ((a * b : Nat) : Int) from by norm_cast, i64_wrap (by omega) (by omega)]
theorem i64_sub {E : Env} (a b : Nat) (h : b ≤ a) (h2 : a ≤ 9223372036854775807) : binAV E .sub (.int .i64 a) (.int .i64 b) = some (.int .i64 ((a - b : Nat) : Int)) := by
  show some (AV.int .i64 (IntKind.i64.wrap ((a : Int) - b))) = _
  rw [i64_wrap (by omega) (by omega), Int.natCast_sub h]
theorem i64_lss {E : Env} (a b : Nat) : binAV E .lss (.int .i64 a) (.int .i64 b) = some (.bool (decide (a < b))) := by
  show some (AV.bool (decide ((a : Int) < b))) = _
  congr 2; simp

theorem upd_self {τ : Nat → AV} {d : Nat} {v : AV} (h : τ d = v) : upd τ d v = τ := by
  funext n; simp only [upd]; split
  · rename_i e; rw [e, h]
  · rfl

/-! ### Arrays -/
/-- All but one array lie as they lay. -/
structure Only (a : Nat) (s s' : AS) : Prop where
  na : s'.na = s.na
  nm : s'.nm = s.nm
  nl : s'.nl = s.nl
  maps : s'.maps = s.maps
  loops : s'.loops = s.loops
  arr : ∀ b, b ≠ a → s'.arrs.get b = s.arrs.get b
theorem Only.refl (a : Nat) (s : AS) : Only a s s := ⟨rfl, rfl, rfl, rfl, rfl, fun _ _ => rfl⟩
theorem Only.trans {a : Nat} {s t u : AS} (h : Only a s t) (k : Only a t u) : Only a s u :=
  ⟨k.na.trans h.na, k.nm.trans h.nm, k.nl.trans h.nl, k.maps.trans h.maps, k.loops.trans h.loops, fun b hb => (k.arr b hb).trans (h.arr b hb)⟩
theorem Only.rd {a b : Nat} {s s' : AS} (h : Only a s s') (hb : b ≠ a) (j i : Nat) : s'.rd b j i = s.rd b j i := by
  simp only [AS.rd, h.arr b hb]
/-- An array of n cells: what each holds; it may be written. -/
def Own (s : AS) (a j o n : Nat) (f : Nat → AV) : Prop :=
  ∃ A, s.arrs.get a = some A ∧ A.ver = j ∧ A.lo ≤ o ∧ o + n ≤ A.n ∧ ∀ i, i < n → A.rd j (o + i) = some (f i)
theorem Own.rd {s : AS} {a j o n : Nat} {f : Nat → AV} (h : Own s a j o n f) {i : Nat} (hi : i < n) : s.rd a j (o + i) = some (f i) := by
  obtain ⟨A, h1, _, _, _, h2⟩ := h
  simp only [AS.rd, h1, h2 i hi]
theorem Own.keep {s s' : AS} {a b j o n : Nat} {f : Nat → AV} (h : Own s a j o n f) (k : Only b s s') (hb : a ≠ b) : Own s' a j o n f := by
  obtain ⟨A, h1, h2⟩ := h
  exact ⟨A, by rw [k.arr a hb]; exact h1, h2⟩
theorem rdN_of {A : Arr} {j : Nat} : ∀ {n o : Nat} {f : Nat → AV}, (∀ i, i < n → A.rd j (o + i) = some (f i)) → Ab.rdN A j o n = some ((List.range n).map f) := by
  intro n
  induction n with
  | zero => intro o f _; rfl
  | succ n ih =>
    intro o f h
    have h0 := h 0 (by omega)
    have h1 := ih (o := o + 1) (f := fun i => f (i + 1)) (fun i hi => by rw [show o + 1 + i = o + (i + 1) from by omega]; exact h (i + 1) (by omega))
    simp only [Nat.add_zero] at h0
    simp only [Ab.rdN, h0, h1, List.range_succ_eq_map, List.map_cons, List.map_map]
    rfl
theorem Own.rdN {s : AS} {a j o n : Nat} {f : Nat → AV} (h : Own s a j o n f) : s.rdN a j o n = some ((List.range n).map f) := by
  obtain ⟨A, h1, _, _, _, h2⟩ := h
  simp only [AS.rdN, h1, rdN_of h2]
theorem wrN_own {A : Arr} {j : Nat} : ∀ {l : List AV} {o : Nat}, A.ver = j → A.lo ≤ o → o + l.length ≤ A.n → (∀ v ∈ l, leaf v = true) →
    ∃ A', Ab.wrN A j o l = some A' ∧ A'.ver = A.ver ∧ A'.lo = A.lo ∧ A'.n = A.n ∧ ∀ i, A'.rd j i = if o ≤ i ∧ i < o + l.length then l[i - o]? else A.rd j i := by
  intro l
  induction l generalizing A with
  | nil => intro o _ _ _ _; exact ⟨A, rfl, rfl, rfl, rfl, fun i => by rw [if_neg (by simp)]⟩
  | cons v l ih =>
    intro o hv hlo hn hl
    simp only [List.length_cons] at hn
    have hw : A.wr j o v = some { A with cells := A.cells.set o (j, v) } := by
      simp [Arr.wr, beq_eq, hv, hl v (List.mem_cons_self ..), ltb_eq, ble_eq, hlo, show o < A.n from by omega]
    obtain ⟨A', h1, h2, h3, h4, h5⟩ := ih (A := { A with cells := A.cells.set o (j, v) }) (o := o + 1) hv (by show A.lo ≤ o + 1; omega) (by show o + 1 + l.length ≤ A.n; omega) (fun x hx => hl x (List.mem_cons_of_mem _ hx))
    refine ⟨A', by simp only [Ab.wrN, hw]; exact h1, h2, h3, h4, fun i => ?_⟩
    rw [h5]
    by_cases hi : i = o
    · subst hi
      rw [if_neg (by omega), if_pos (by simp)]
      simp [Arr.rd, Arr.get, ltb_eq, ble_eq, hlo, show i < A.n from by omega]
    · have hne : ({ A with cells := A.cells.set o (j, v) } : Arr).rd j i = A.rd j i := by
        simp only [Arr.rd, Arr.get, Tr.get_set_ne _ _ hi]
      rw [hne]
      by_cases h6 : o + 1 ≤ i ∧ i < o + 1 + l.length
      · rw [if_pos h6, if_pos (by simp; omega), show i - o = (i - (o + 1)) + 1 from by omega]; simp
      · rw [if_neg h6, if_neg (by simp; omega)]
theorem Own.wrN {s : AS} {a j o n : Nat} {f : Nat → AV} (h : Own s a j o n f) {i : Nat} {l : List AV} (hi : i + l.length ≤ n) (hl : ∀ v ∈ l, leaf v = true) :
    ∃ s', s.wrN a j (o + i) l = some s' ∧ Only a s s' ∧ Own s' a j o n (fun k => if i ≤ k ∧ k < i + l.length then l.getD (k - i) .undef else f k) := by
  obtain ⟨A, h1, h2, h3, h4, h5⟩ := h
  obtain ⟨A', k1, k2, k3, k4, k5⟩ := wrN_own (A := A) (j := j) (o := o + i) (l := l) h2 (by omega) (by omega) hl
  refine ⟨{ s with arrs := s.arrs.set a A' }, by simp only [AS.wrN, h1, k1], ⟨rfl, rfl, rfl, rfl, rfl, fun b hb => Tr.get_set_ne _ _ hb⟩, A', Tr.get_set_same _ _ _, by rw [k2, h2], by omega, by omega, fun k hk => ?_⟩
  rw [k5]
  show _ = some (if i ≤ k ∧ k < i + l.length then l.getD (k - i) .undef else f k)
  by_cases h6 : i ≤ k ∧ k < i + l.length
  · rw [if_pos (by omega), if_pos h6, show o + k - (o + i) = k - i from by omega, List.getD_eq_getElem?_getD]
    rw [List.getElem?_eq_getElem (by omega)]; rfl
  · rw [if_neg (by omega), if_neg h6]; exact h5 k hk
theorem Own.newZ {s : AS} {n : Nat} {z : List AV} (hz : z ≠ []) : Own (s.newZ n z).2 s.na 0 0 n (fun i => z.getD (i % z.length) .undef) := by
  refine ⟨⟨0, n, 0, z, .e⟩, Tr.get_set_same _ _ _, rfl, Nat.le_refl _, by simp, fun i hi => ?_⟩
  simp only [Nat.zero_add]
  have := rowZ_rd n z 0 i hz
  rw [if_pos hi] at this
  have hlt : i % z.length < z.length := Nat.mod_lt _ (by cases z with | nil => exact absurd rfl hz | cons _ _ => simp)
  rw [List.getElem?_eq_getElem hlt] at this
  rw [List.getD_eq_getElem?_getD, List.getElem?_eq_getElem hlt]
  exact this

/-- What lay there lies as it lay, but for one array; there may be more. -/
structure Fr (x : Nat) (s s' : AS) : Prop where
  na : s.na ≤ s'.na
  nm : s'.nm = s.nm
  nl : s'.nl = s.nl
  maps : s'.maps = s.maps
  loops : s'.loops = s.loops
  arr : ∀ b, b < s.na → b ≠ x → s'.arrs.get b = s.arrs.get b
theorem Fr.trans {x : Nat} {s t u : AS} (h : Fr x s t) (k : Fr x t u) : Fr x s u :=
  ⟨Nat.le_trans h.na k.na, k.nm.trans h.nm, k.nl.trans h.nl, k.maps.trans h.maps, k.loops.trans h.loops, fun b hb hx => (k.arr b (Nat.lt_of_lt_of_le hb h.na) hx).trans (h.arr b hb hx)⟩
theorem Fr.newZ (x : Nat) (s : AS) (n : Nat) (z : List AV) : Fr x s (s.newZ n z).2 :=
  ⟨Nat.le_succ _, rfl, rfl, rfl, rfl, fun b hb _ => Tr.get_set_ne _ _ (by omega)⟩
theorem Fr.only' {x : Nat} {s s' : AS} (h : Only x s s') : Fr x s s' :=
  ⟨by rw [h.na]; exact Nat.le_refl _, h.nm, h.nl, h.maps, h.loops, fun b _ hx => h.arr b hx⟩
theorem Fr.more {x a : Nat} {s t u : AS} (h : Fr x s t) (k : Only a t u) (ha : s.na ≤ a) : Fr x s u :=
  ⟨by rw [k.na]; exact h.na, k.nm.trans h.nm, k.nl.trans h.nl, k.maps.trans h.maps, k.loops.trans h.loops, fun b hb hx => (k.arr b (by omega)).trans (h.arr b hb hx)⟩
theorem Fr.thn {x y : Nat} {s t u : AS} (h : Fr x s t) (k : Fr y t u) (hy : s.na ≤ y) : Fr x s u :=
  ⟨Nat.le_trans h.na k.na, k.nm.trans h.nm, k.nl.trans h.nl, k.maps.trans h.maps, k.loops.trans h.loops, fun b hb hx => (k.arr b (Nat.lt_of_lt_of_le hb h.na) (by omega)).trans (h.arr b hb hx)⟩
theorem Own.frame {s s' : AS} {a j o n x : Nat} {f : Nat → AV} (h : Own s a j o n f) (k : Fr x s s') (ha : a < s.na) (hx : a ≠ x) : Own s' a j o n f := by
  obtain ⟨A, h1, h2⟩ := h
  exact ⟨A, by rw [k.arr a ha hx]; exact h1, h2⟩

theorem Own.congr {s : AS} {a j o n : Nat} {f g : Nat → AV} (h : Own s a j o n f) (k : ∀ i, i < n → f i = g i) : Own s a j o n g := by
  obtain ⟨A, h1, h2, h3, h4, h5⟩ := h
  exact ⟨A, h1, h2, h3, h4, fun i hi => by rw [h5 i hi, k i hi]⟩
def natAt : AV → Nat
  | .int _ n => n.toNat
  | _ => 0
theorem same_u32 (n : Int) : same (.int .u32 n) (.int .u32 n) = true := by simp [same, same1, IntKind.same]
theorem wrN_told {A A' : Arr} {j o : Nat} {l : List AV} (h : Ab.wrN A j o l = some A') (h1 : A.ver = j) (h2 : A.lo ≤ o) (h3 : o + l.length ≤ A.n) (h4 : ∀ v ∈ l, leaf v = true) :
    A'.ver = A.ver ∧ A'.lo = A.lo ∧ A'.n = A.n ∧ ∀ i, A'.rd j i = if o ≤ i ∧ i < o + l.length then l[i - o]? else A.rd j i := by
  obtain ⟨A'', k1, k2⟩ := wrN_own (A := A) (j := j) (o := o) (l := l) h1 h2 h3 h4
  rw [h] at k1; cases k1; exact k2
theorem wrN_append {A : Arr} {j : Nat} {m : List AV} : ∀ {l : List AV} {o : Nat}, Ab.wrN A j o (l ++ m) = match Ab.wrN A j o l with
    | some A' => Ab.wrN A' j (o + l.length) m
    | none => none := by
  intro l
  induction l generalizing A with
  | nil => intro o; rfl
  | cons v l ih =>
    intro o
    simp only [List.cons_append, Ab.wrN, List.length_cons]
    cases A.wr j o v with
    | none => rfl
    | some A₁ => simp only [ih]; rw [show o + 1 + l.length = o + (l.length + 1) from by omega]

/-! ### The change by a block -/
def rot32 (x n : Nat) : Nat := or32 (shl32 x (32 - n)) (shr32 x n)
def shaWord (b : Nat → Nat) (t : Nat) : Nat :=
  or32 (or32 (or32 (shl32 (b (4 * t) % 4294967296) 24) (shl32 (b (4 * t + 1) % 4294967296) 16)) (shl32 (b (4 * t + 2) % 4294967296) 8)) (b (4 * t + 3) % 4294967296)
def shaNext (w16 w15 w7 w2 : Nat) : Nat :=
  add32 (add32 (add32 w16 (xor32 (xor32 (rot32 w15 7) (rot32 w15 18)) (shr32 w15 3))) w7) (xor32 (xor32 (rot32 w2 17) (rot32 w2 19)) (shr32 w2 10))
/-- The first t + 16 words. -/
def shaSch (b : Nat → Nat) (t : Nat) : Nat :=
  if t < 16 then shaWord b t else shaNext (shaSch b (t - 16)) (shaSch b (t - 15)) (shaSch b (t - 7)) (shaSch b (t - 2))
termination_by t
decreasing_by all_goals omega

theorem shaSch_next {b : Nat → Nat} {t : Nat} (h : 16 ≤ t) : shaSch b t = shaNext (shaSch b (t - 16)) (shaSch b (t - 15)) (shaSch b (t - 7)) (shaSch b (t - 2)) := by
  rw [shaSch, if_neg (by omega)]

structure W8 where
  a : Nat
  b : Nat
  c : Nat
  d : Nat
  e : Nat
  f : Nat
  g : Nat
  h : Nat
def W8.list (s : W8) : List Nat := [s.a, s.b, s.c, s.d, s.e, s.f, s.g, s.h]
def shaRound (s : W8) (k w : Nat) : W8 :=
  let one := add32 (add32 (add32 (add32 s.h (xor32 (xor32 (rot32 s.e 6) (rot32 s.e 11)) (rot32 s.e 25))) (xor32 (and32 s.e s.f) (and32 (com32 s.e) s.g))) k) w
  let two := add32 (xor32 (xor32 (rot32 s.a 2) (rot32 s.a 13)) (rot32 s.a 22)) (xor32 (xor32 (and32 s.a s.b) (and32 s.a s.c)) (and32 s.b s.c))
  ⟨add32 one two, s.a, s.b, s.c, add32 s.d one, s.e, s.f, s.g⟩
def shaRounds (b : Nat → Nat) (K : Nat → Nat) (s : W8) : Nat → W8
  | 0 => s
  | t + 1 => shaRound (shaRounds b K s t) (K t) (shaSch b t)
theorem shaRound_cells {R : W8} {k w one two : Nat} (h1 : add32 (add32 (add32 (add32 R.h (xor32 (xor32 (rot32 R.e 6) (rot32 R.e 11)) (rot32 R.e 25))) (xor32 (and32 R.e R.f) (and32 (com32 R.e) R.g))) k) w = one)
    (h2 : add32 (xor32 (xor32 (rot32 R.a 2) (rot32 R.a 13)) (rot32 R.a 22)) (xor32 (xor32 (and32 R.a R.b) (and32 R.a R.c)) (and32 R.b R.c)) = two) (i : Nat) (hi : i < 8) :
    ([AV.int .u32 ((add32 one two : Nat) : Int), .int .u32 ((R.a : Nat) : Int), .int .u32 ((R.b : Nat) : Int), .int .u32 ((R.c : Nat) : Int), .int .u32 ((add32 R.d one : Nat) : Int), .int .u32 ((R.e : Nat) : Int), .int .u32 ((R.f : Nat) : Int), .int .u32 ((R.g : Nat) : Int)] : List AV).getD i .undef = .int .u32 (((shaRound R k w).list.getD i 0 : Nat) : Int) := by
  have e : (shaRound R k w).list = [add32 one two, R.a, R.b, R.c, add32 R.d one, R.e, R.f, R.g] := by
    simp only [shaRound, W8.list, h1, h2]
  rw [e]
  generalize add32 one two = x
  generalize add32 R.d one = y
  match i, hi with
  | 0, _ => rfl
  | 1, _ => rfl
  | 2, _ => rfl
  | 3, _ => rfl
  | 4, _ => rfl
  | 5, _ => rfl
  | 6, _ => rfl
  | 7, _ => rfl
def W8.add (s t : W8) : W8 := ⟨add32 s.a t.a, add32 s.b t.b, add32 s.c t.c, add32 s.d t.d, add32 s.e t.e, add32 s.f t.f, add32 s.g t.g, add32 s.h t.h⟩
def shaTake (b : Nat → Nat) (K : Nat → Nat) (s : W8) : W8 := s.add (shaRounds b K s 64)

end Go.Ab
end
