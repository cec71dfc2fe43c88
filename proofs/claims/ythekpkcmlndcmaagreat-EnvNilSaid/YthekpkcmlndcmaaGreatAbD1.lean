/- Soundness of the abstract evaluator: what an operation hangs on. -/
import Derived.Test.YthekpkcmlndcmaaGreatAbComp
noncomputable section
namespace Go.Ab

theorem ev_congr {T T' : Tr AV} {x : EO} (h : ∀ t, t ∈ tmpsX x → (EO.t t).ev T = (EO.t t).ev T') : x.ev T = x.ev T' := by
  cases x with
  | t n => exact h n (by simp [tmpsX])
  | c v => rfl

theorem evs_congr {T T' : Tr AV} : ∀ {l : List EO}, (∀ t, t ∈ tmpsL l → (EO.t t).ev T = (EO.t t).ev T') → evs T l = evs T' l
  | [], _ => rfl
  | x :: l, h => by
    simp only [evs]
    rw [ev_congr (fun t ht => h t (by simp [tmpsL, ht])), evs_congr (fun t ht => h t (by simp [tmpsL, ht]))]

theorem optEv_congr {T T' : Tr AV} {x : Option EO} (h : ∀ t, t ∈ tmpsO x → (EO.t t).ev T = (EO.t t).ev T') : optEv T x = optEv T' x := by
  cases x with
  | none => rfl
  | some x => simp only [optEv]; rw [ev_congr h]

theorem fillP_congr {T T' : Tr AV} : ∀ {ps : List (Nat × Nat × EO)} {cs : List AV}, (∀ t, t ∈ tmpsP ps → (EO.t t).ev T = (EO.t t).ev T') → fillP T cs ps = fillP T' cs ps
  | [], _, _ => rfl
  | (o, n, x) :: l, cs, h => by
    simp only [fillP]
    rw [ev_congr (x := x) (fun t ht => h t (by simp [tmpsP, ht]))]
    split
    · exact fillP_congr (fun t ht => h t (by simp [tmpsP, ht]))
    · rfl

theorem evOp_congr {E : Env} {cl : Oracle} {e : EOp} {T T' : Tr AV} {s : AS} (h : ∀ t, t ∈ tmpsE e → (EO.t t).ev T = (EO.t t).ev T') : evOp E cl e T s = evOp E cl e T' s := by
  cases e <;> simp only [tmpsE, List.mem_append] at h <;> simp only [evOp] <;> first
    | rfl
    | (rw [ev_congr (T := T) (T' := T') (fun t ht => h t ht)]; done)
    | (rw [evs_congr (T := T) (T' := T') (fun t ht => h t ht)]; done)
    | (rw [fillP_congr (T := T) (T' := T') (fun t ht => h t ht)]; done)
    | (rename_i x y; rw [ev_congr (x := x) (fun t ht => h t (.inl ht)), ev_congr (x := y) (fun t ht => h t (.inr ht))]; done)
    | (rename_i x y; rw [evs_congr (l := x) (fun t ht => h t (.inl ht)), evs_congr (l := y) (fun t ht => h t (.inr ht))]; done)
    | (rename_i x y; rw [ev_congr (x := x) (fun t ht => h t (.inl ht)), evs_congr (l := y) (fun t ht => h t (.inr ht))]; done)
    | (rename_i x y z; rw [ev_congr (x := x) (fun t ht => h t (.inl ht)), ev_congr (x := y) (fun t ht => h t (.inr (.inl ht))), ev_congr (x := z) (fun t ht => h t (.inr (.inr ht)))]; done)
    | (rename_i x y z; rw [ev_congr (x := x) (fun t ht => h t (.inl ht)), optEv_congr (x := y) (fun t ht => h t (.inr (.inl ht))), optEv_congr (x := z) (fun t ht => h t (.inr (.inr ht)))]; done)
    | (rename_i x y z u; rw [ev_congr (x := x) (fun t ht => h t (.inl ht)), optEv_congr (x := y) (fun t ht => h t (.inr (.inl ht))), optEv_congr (x := z) (fun t ht => h t (.inr (.inr (.inl ht)))), optEv_congr (x := u) (fun t ht => h t (.inr (.inr (.inr ht))))]; done)

theorem evOper_congr {E : Env} {cl : Oracle} {o : EOper} {T T' : Tr AV} {s : AS} (h : ∀ t, t ∈ tmpsOper o → (EO.t t).ev T = (EO.t t).ev T') : evOper E cl o T s = evOper E cl o T' s := by
  have h1 : wantedE T o.guard = wantedE T' o.guard := by
    unfold wantedE
    split
    · rfl
    · rfl
    · rename_i t b hg
      rw [h t (by simp [tmpsOper, hg])]
  unfold evOper
  rw [h1, evOp_congr (T := T) (T' := T') (fun t ht => h t (by simp [tmpsOper, ht]))]

/-- What changes nothing and looks at no memory. -/
theorem evOp_pure {E : Env} {cl : Oracle} {e : EOp} {T : Tr AV} {s s₁ : AS} {v : AV} (hc : clsOf e = .pure) (h : evOp E cl e T s = some (v, s₁)) : s₁ = s ∧ ∀ s₂, evOp E cl e T s₂ = some (v, s₂) := by
  cases e <;> simp only [clsOf] at hc <;> first
    | (cases hc; done)
    | (simp only [evOp, some2] at h ⊢
       (repeat' split at h) <;> first
         | (cases h; done)
         | (cases h; refine ⟨rfl, fun s₂ => ?_⟩; simp_all))

/-- More memory. -/
structure AExt (s t : AS) : Prop where
  arr : ∀ a A, s.arrs.get a = some A → t.arrs.get a = some A
  map : ∀ m M, s.maps.get m = some M → t.maps.get m = some M

theorem AExt.refl (s : AS) : AExt s s := ⟨fun _ _ h => h, fun _ _ h => h⟩
theorem AExt.trans {a b c : AS} (h : AExt a b) (k : AExt b c) : AExt a c := ⟨fun x A e => k.arr x A (h.arr x A e), fun x A e => k.map x A (h.map x A e)⟩

theorem AExt.rd {s t : AS} (h : AExt s t) {a j i : Nat} {v : AV} (hr : s.rd a j i = some v) : t.rd a j i = some v := by
  unfold AS.rd at hr ⊢
  split at hr
  · rename_i A hA; rw [h.arr _ _ hA]; exact hr
  · cases hr
theorem AExt.rdN {s t : AS} (h : AExt s t) {a j i n : Nat} {v : List AV} (hr : s.rdN a j i n = some v) : t.rdN a j i n = some v := by
  unfold AS.rdN at hr ⊢
  split at hr
  · rename_i A hA; rw [h.arr _ _ hA]; exact hr
  · cases hr
theorem AExt.len {s t : AS} (h : AExt s t) {v : AV} {n : Nat} (hr : lenAV s v = some n) : lenAV t v = some n := by
  unfold lenAV at hr ⊢
  split at hr <;> try exact hr
  split at hr
  · rename_i M hM; simp only [h.map _ _ hM]; exact hr
  · cases hr

/-- A load: what it gives it gives with more memory, too. -/
theorem evOp_read {E : Env} {cl : Oracle} {e : EOp} {T : Tr AV} {s s₁ : AS} {v : AV} (hc : clsOf e = .read) (h : evOp E cl e T s = some (v, s₁)) :
    s₁ = s ∧ ∀ s₂, AExt s s₂ → evOp E cl e T s₂ = some (v, s₂) := by
  cases e <;> simp only [clsOf] at hc <;> try (cases hc; done)
  · simp only [evOp] at h ⊢
    split at h
    · simp only [some2] at h
      split at h
      · rename_i hv; cases h
        exact ⟨rfl, fun s₂ hs => by rw [hs.rd hv]; rfl⟩
      · cases h
    · cases h
  · simp only [evOp] at h ⊢
    split at h
    · split at h
      · rename_i hv; cases h
        exact ⟨rfl, fun s₂ hs => by rw [hs.rdN hv]⟩
      · cases h
    · cases h
  · simp only [evOp] at h ⊢
    split at h
    · cases h; exact ⟨rfl, fun _ _ => rfl⟩
    · cases h; exact ⟨rfl, fun _ _ => rfl⟩
    · split at h
      · cases h; rename_i hz; exact ⟨rfl, fun _ _ => by simp [hz]⟩
      · rename_i hz
        split at h
        · rename_i hv
          split at h
          · rename_i hb; cases h
            exact ⟨rfl, fun s₂ hs => by rw [hs.rdN hv]; simp [hz, hb]⟩
          · cases h
        · cases h
    · cases h
  · rename_i k z ok x i
    simp only [evOp] at h ⊢
    have key : ∀ r, lookOf E k s (x.ev T) (i.ev T) = some r → ∀ s₂, AExt s s₂ → lookOf E k s₂ (x.ev T) (i.ev T) = some r := by
      intro r hr s₂ hs
      unfold lookOf at hr ⊢
      split at hr
      · exact hr
      · split at hr
        · rename_i M hM; simp only [hs.map _ _ hM]; exact hr
        · cases hr
      · cases hr
    split at h
    · rename_i hr; cases h
      exact ⟨rfl, fun s₂ hs => by rw [key _ hr s₂ hs]⟩
    · rename_i hr; cases h
      exact ⟨rfl, fun s₂ hs => by rw [key _ hr s₂ hs]⟩
    · cases h
  · simp only [evOp] at h ⊢
    split at h
    · split at h
      · rename_i hn; cases h
        exact ⟨rfl, fun s₂ hs => by rw [hs.len hn]⟩
      · cases h
    · cases h

/-- All ids below the counters. -/
structure AS.wf (s : AS) : Prop where
  arr : ∀ a, s.na ≤ a → s.arrs.get a = none
  map : ∀ m, s.nm ≤ m → s.maps.get m = none

/-- One array more, or one map more, or nothing. -/
def OneMore (s t : AS) : Prop :=
  t = s ∨ (∃ A, t = { s with arrs := s.arrs.set s.na A, na := s.na + 1 }) ∨ (∃ M, t = { s with maps := s.maps.set s.nm M, nm := s.nm + 1 })

theorem evOp_alloc {E : Env} {cl : Oracle} {e : EOp} {T : Tr AV} {s s₁ : AS} {v : AV} (hc : clsOf e = .alloc) (h : evOp E cl e T s = some (v, s₁)) : OneMore s s₁ := by
  cases e <;> simp only [clsOf] at hc <;> try (cases hc; done)
  all_goals
    simp only [evOp, AS.newZ, AS.new, freshSl] at h
    (repeat' split at h) <;> first
      | (cases h; done)
      | (cases h; exact .inr (.inl ⟨_, rfl⟩))
      | (cases h; exact .inr (.inr ⟨_, rfl⟩))
      | (rename_i heq; cases heq; cases h; exact .inr (.inl ⟨_, rfl⟩))
      | (rename_i heq _; cases heq; cases h; exact .inr (.inl ⟨_, rfl⟩))

end Go.Ab
