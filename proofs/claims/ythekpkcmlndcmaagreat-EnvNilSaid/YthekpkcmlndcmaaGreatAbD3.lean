/- Soundness of the abstract evaluator: memory that comes about later than the abstract heap has it. -/
import Derived.Test.YthekpkcmlndcmaaGreatAbO3

noncomputable section
namespace Go.Ab

/-- As 'Ext', of what lies below two bounds alone. -/
structure ExtB (B Bm : Nat) (σ : Sg) (s : AS) (w : World) (σ' : Sg) (s' : AS) (w' : World) : Prop where
  le : σ.le σ'
  img : ∀ r, img σ' r → img σ r ∨ w.heap.size ≤ r
  fr : ∀ r, r < w.heap.size → ¬ Ab.img σ r → w'.heap[r]? = w.heap[r]?
  size : w.heap.size ≤ w'.heap.size
  os : w'.os = w.os
  tape : w'.tape = w.tape
  output : w'.output = w.output
  na : s.na ≤ s'.na
  nm : s.nm ≤ s'.nm
  nl : s.nl ≤ s'.nl
  fa : ∀ a, a < B → σ.ar a = [] → s'.arrs.get a = s.arrs.get a ∧ σ'.ar a = []
  fm : ∀ m, m < Bm → σ.mp m = none → s'.maps.get m = s.maps.get m ∧ σ'.mp m = none

theorem Ext.toB {B Bm : Nat} {σ σ' : Sg} {s s' : AS} {w w' : World} (h : Ext σ s w σ' s' w') (hB : B ≤ s.na) (hm : Bm ≤ s.nm) : ExtB B Bm σ s w σ' s' w' :=
  ⟨h.le, h.img, h.fr, h.size, h.os, h.tape, h.output, h.na, h.nm, h.nl, fun a ha h0 => h.fa a (by omega) h0, fun a ha h0 => h.fm a (by omega) h0⟩
theorem ExtB.toExt {σ σ' : Sg} {s s' : AS} {w w' : World} (h : ExtB s.na s.nm σ s w σ' s' w') : Ext σ s w σ' s' w' :=
  ⟨h.le, h.img, h.fr, h.size, h.os, h.tape, h.output, h.na, h.nm, h.nl, h.fa, h.fm⟩
theorem ExtB.refl (B Bm : Nat) (σ : Sg) (s : AS) (w : World) : ExtB B Bm σ s w σ s w :=
  ⟨.refl σ, fun _ h => .inl h, fun _ _ _ => rfl, Nat.le_refl _, rfl, rfl, rfl, Nat.le_refl _, Nat.le_refl _, Nat.le_refl _, fun _ _ h => ⟨rfl, h⟩, fun _ _ h => ⟨rfl, h⟩⟩
theorem ExtB.trans {B Bm : Nat} {σ σ₁ σ₂ : Sg} {s s₁ s₂ : AS} {w w₁ w₂ : World} (h : ExtB B Bm σ s w σ₁ s₁ w₁) (k : ExtB B Bm σ₁ s₁ w₁ σ₂ s₂ w₂) : ExtB B Bm σ s w σ₂ s₂ w₂ where
  le := h.le.trans k.le
  img r hr := by
    rcases k.img r hr with h1 | h1
    · exact h.img r h1
    · exact .inr (Nat.le_trans h.size h1)
  fr r hr hn := by
    have h1 : ¬ Ab.img σ₁ r := fun h1 => by
      rcases h.img r h1 with h2 | h2
      · exact hn h2
      · omega
    rw [k.fr r (Nat.lt_of_lt_of_le hr h.size) h1, h.fr r hr hn]
  size := Nat.le_trans h.size k.size
  os := k.os.trans h.os
  tape := k.tape.trans h.tape
  output := k.output.trans h.output
  na := Nat.le_trans h.na k.na
  nm := Nat.le_trans h.nm k.nm
  nl := Nat.le_trans h.nl k.nl
  fa a ha hn := by
    obtain ⟨h1, h2⟩ := h.fa a ha hn
    obtain ⟨h3, h4⟩ := k.fa a ha h2
    exact ⟨h3.trans h1, h4⟩
  fm a ha hn := by
    obtain ⟨h1, h2⟩ := h.fm a ha hn
    obtain ⟨h3, h4⟩ := k.fm a ha h2
    exact ⟨h3.trans h1, h4⟩

/-- More abstract memory, of which nothing stands in the world yet. -/
structure More (s t : AS) : Prop where
  na : s.na ≤ t.na
  nm : s.nm ≤ t.nm
  nl : s.nl ≤ t.nl
  arr : ∀ a, a < s.na → t.arrs.get a = s.arrs.get a
  map : ∀ m, m < s.nm → t.maps.get m = s.maps.get m
  lop : ∀ l, t.loops.get l = s.loops.get l

theorem More.refl (s : AS) : More s s := ⟨Nat.le_refl _, Nat.le_refl _, Nat.le_refl _, fun _ _ => rfl, fun _ _ => rfl, fun _ => rfl⟩
theorem More.trans {a b c : AS} (h : More a b) (k : More b c) : More a c :=
  ⟨Nat.le_trans h.na k.na, Nat.le_trans h.nm k.nm, Nat.le_trans h.nl k.nl, fun x hx => (k.arr x (Nat.lt_of_lt_of_le hx h.na)).trans (h.arr x hx),
    fun x hx => (k.map x (Nat.lt_of_lt_of_le hx h.nm)).trans (h.map x hx), fun l => (k.lop l).trans (h.lop l)⟩

theorem OneMore.more {s t : AS} (h : OneMore s t) : More s t := by
  rcases h with rfl | ⟨A, rfl⟩ | ⟨M, rfl⟩
  · exact .refl _
  · exact ⟨Nat.le_succ _, Nat.le_refl _, Nat.le_refl _, fun a ha => Tr.get_set_ne _ _ (by omega), fun _ _ => rfl, fun _ => rfl⟩
  · exact ⟨Nat.le_refl _, Nat.le_succ _, Nat.le_refl _, fun _ _ => rfl, fun a ha => Tr.get_set_ne _ _ (by omega), fun _ => rfl⟩

theorem Rel.more {P : Program} {σ : Sg} {s t : AS} {w : World} (r : Rel P σ s w) (h : More s t) (hw : t.wf) : Rel P σ t w where
  arr a := by
    rcases Nat.lt_or_ge a s.na with ha | ha
    · exact (r.arr a).mono (.refl σ) rfl (h.arr a ha) fun _ _ => rfl
    · intro hne; exact absurd (r.na a ha) hne
  inj := r.inj
  map m := by
    rcases Nat.lt_or_ge m s.nm with hm | hm
    · exact (r.map m).mono (.refl σ) rfl (h.map m hm) fun _ _ => rfl
    · intro b hb; rw [r.nm m hm] at hb; cases hb
  minj := r.minj
  lop l := (r.lop l).mono (.refl σ) rfl (h.lop l) fun _ _ => rfl
  linj := r.linj
  na a ha := r.na a (Nat.le_trans h.na ha)
  nm a ha := r.nm a (Nat.le_trans h.nm ha)
  nl a ha := r.nl a (Nat.le_trans h.nl ha)
  opq := r.opq
  wf := hw

theorem OneMore.wf {s t : AS} (h : OneMore s t) (hs : s.wf) : t.wf := by
  rcases h with rfl | ⟨A, rfl⟩ | ⟨M, rfl⟩
  · exact hs
  · exact ⟨fun a ha => by simp only at ha ⊢; rw [Tr.get_set_ne _ _ (by omega)]; exact hs.arr a (by omega), hs.map⟩
  · exact ⟨hs.arr, fun a ha => by simp only at ha ⊢; rw [Tr.get_set_ne _ _ (by omega)]; exact hs.map a (by omega)⟩

theorem OneMore.aext {s t : AS} (h : OneMore s t) (hs : s.wf) : AExt s t := by
  rcases h with rfl | ⟨A, rfl⟩ | ⟨M, rfl⟩
  · exact .refl _
  · refine ⟨fun a B hB => ?_, fun _ _ h => h⟩
    have hne : a ≠ s.na := by rintro rfl; rw [hs.arr _ (Nat.le_refl _)] at hB; cases hB
    simp only; rw [Tr.get_set_ne _ _ hne]; exact hB
  · refine ⟨fun _ _ h => h, fun a B hB => ?_⟩
    have hne : a ≠ s.nm := by rintro rfl; rw [hs.map _ (Nat.le_refl _)] at hB; cases hB
    simp only; rw [Tr.get_set_ne _ _ hne]; exact hB

theorem ExtB.more {B Bm : Nat} {σ : Sg} {s t : AS} {w : World} (h : More s t) (hB : B ≤ s.na) (hm : Bm ≤ s.nm) : ExtB B Bm σ s w σ t w :=
  ⟨.refl σ, fun _ h => .inl h, fun _ _ _ => rfl, Nat.le_refl _, rfl, rfl, rfl, h.na, h.nm, h.nl, fun a ha h0 => ⟨h.arr a (by omega), h0⟩, fun a ha h0 => ⟨h.map a (by omega), h0⟩⟩

/-- A new block for an array that the abstract heap has already. -/
theorem Rel.lateA {P : Program} {σ : Sg} {s : AS} {w : World} (r : Rel P σ s w) {a B Bm : Nat} {A : Arr} {cs : Array Value} {E : TypeId} {fz : Nat × Nat} (hB : B ≤ a)
    (ha : a < s.na) (h0 : σ.ar a = []) (hA : s.arrs.get a = some A)
    (hv : A.ver = 0) (hful : ∀ i, A.lo ≤ i → i < A.n → ∃ m v, A.get i = some (m, v) ∧ m ≤ A.ver) (hin : ∀ j i v, A.rd j i = some v → In σ v) (hfz : fine fz cs.size)
    (hcs : ∀ i v, A.rd 0 i = some v → cs[i]? = some (conc σ v)) :
    Rel P (σ.addA a ⟨w.heap.size, 0, cs.size⟩) s (w.alloc (.cells cs E fz)) ∧
    ExtB B Bm σ s w (σ.addA a ⟨w.heap.size, 0, cs.size⟩) s (w.alloc (.cells cs E fz)) ∧
    (σ.addA a ⟨w.heap.size, 0, cs.size⟩).ar a = [⟨w.heap.size, 0, cs.size⟩] := by
  have hle := σ.le_addA a ⟨w.heap.size, 0, cs.size⟩
  have hsame : (σ.addA a ⟨w.heap.size, 0, cs.size⟩).ar a = [⟨w.heap.size, 0, cs.size⟩] := by rw [Sg.addA_same, h0]; rfl
  have hmem : ∀ x vi, vi ∈ (σ.addA a ⟨w.heap.size, 0, cs.size⟩).ar x → (x = a ∧ vi.blk = w.heap.size) ∨ (x ≠ a ∧ vi ∈ σ.ar x ∧ vi.blk < w.heap.size) := by
    intro x vi hvi
    by_cases hx : x = a
    · subst hx; rw [hsame] at hvi; simp at hvi; exact .inl ⟨rfl, by rw [hvi]⟩
    · rw [Sg.addA_ne _ _ hx] at hvi; exact .inr ⟨hx, hvi, r.blk_lt (.inl ⟨x, vi, hvi, rfl⟩)⟩
  refine ⟨?_, ?_, hsame⟩
  · constructor
    · intro x
      by_cases hx : x = a
      · subst hx
        intro _
        refine ⟨A, hA, ?_⟩
        rw [hsame]
        refine ⟨by simp [hv], hful, by simp, fun j i v h => (conc_le hle v (hin j i v h)).2, ?_⟩
        intro j vi hj
        cases j with
        | zero =>
          simp at hj; subst hj
          refine ⟨cs, E, fz, heap_alloc_new _ _, by simp, hfz, fun i v h => ⟨Nat.zero_le _, ?_⟩⟩
          rw [(conc_le hle v (hin 0 i v h)).1]; simpa using hcs i v h
        | succ j => simp at hj
      · exact (r.arr x).mono hle (Sg.addA_ne _ _ hx) rfl fun vi hv => heap_alloc w _ (r.blk_lt (.inl ⟨x, vi, hv, rfl⟩))
    · intro x x' vi vi' h h' he
      rcases hmem x vi h with ⟨h1, h2⟩ | ⟨h1, h2, h3⟩ <;> rcases hmem x' vi' h' with ⟨k1, k2⟩ | ⟨k1, k2, k3⟩
      · omega
      · omega
      · omega
      · exact r.inj x x' vi vi' h2 k2 he
    · exact fun m => (r.map m).mono hle rfl rfl fun b hb => heap_alloc w _ (r.blk_lt (.inr (.inl ⟨m, hb⟩)))
    · exact r.minj
    · exact fun l => (r.lop l).mono hle rfl rfl fun b hb => heap_alloc w _ (r.blk_lt (.inr (.inr ⟨l, hb⟩)))
    · exact r.linj
    · intro x hx
      rw [Sg.addA_ne _ _ (by omega)]; exact r.na x hx
    · exact r.nm
    · exact r.nl
    · exact r.opq
    · exact r.wf
  · refine ⟨hle, ?_, fun b hb _ => heap_alloc w _ hb, by simp, rfl, rfl, rfl, Nat.le_refl _, Nat.le_refl _, Nat.le_refl _, ?_, fun _ _ h => ⟨rfl, h⟩⟩
    · rintro b (⟨x, vi, hv, rfl⟩ | h | h)
      · rcases hmem x vi hv with ⟨h1, h2⟩ | ⟨h1, h2, h3⟩
        · exact .inr (by omega)
        · exact .inl (.inl ⟨x, vi, h2, rfl⟩)
      · exact .inl (.inr (.inl h))
      · exact .inl (.inr (.inr h))
    · intro x hx h
      exact ⟨rfl, by rw [Sg.addA_ne _ _ (by omega)]; exact h⟩

def Sg.addM (σ : Sg) (m b : Nat) : Sg := { σ with mp := fun x => if x = m then some b else σ.mp x }
theorem Sg.le_addM (σ : Sg) (m b : Nat) (h : σ.mp m = none) : σ.le (σ.addM m b) where
  ar _ := List.prefix_refl _
  mp x r hr := by
    simp only [Sg.addM]
    split
    · rename_i e; subst e; rw [h] at hr; cases hr
    · exact hr
  lp _ _ h := h
  opq := rfl
  sym := rfl

/-- A new map that the abstract heap has already. -/
theorem Rel.lateM {P : Program} {σ : Sg} {s : AS} {w : World} (r : Rel P σ s w) {m B Bm : Nat} (hB : Bm ≤ m) (hm : m < s.nm) (h0 : σ.mp m = none) (hA : s.maps.get m = some ⟨[], 0⟩) :
    Rel P (σ.addM m w.heap.size) s (w.alloc (.map #[] 0)) ∧ ExtB B Bm σ s w (σ.addM m w.heap.size) s (w.alloc (.map #[] 0)) ∧ (σ.addM m w.heap.size).mp m = some w.heap.size := by
  have hle := σ.le_addM m w.heap.size h0
  have hsame : (σ.addM m w.heap.size).mp m = some w.heap.size := by simp [Sg.addM]
  have hne : ∀ x, x ≠ m → (σ.addM m w.heap.size).mp x = σ.mp x := fun x hx => by simp [Sg.addM, hx]
  refine ⟨?_, ?_, hsame⟩
  · constructor
    · exact fun x => (r.arr x).mono hle rfl rfl fun vi hv => heap_alloc w _ (r.blk_lt (.inl ⟨x, vi, hv, rfl⟩))
    · exact r.inj
    · intro x
      by_cases hx : x = m
      · subst hx
        intro b hb
        rw [hsame] at hb; cases hb
        exact ⟨_, hA, by simpa using heap_alloc_new w _, by simp⟩
      · exact (r.map x).mono hle (hne x hx) rfl fun b hb => heap_alloc w _ (r.blk_lt (.inr (.inl ⟨x, hb⟩)))
    · intro x x' b h h'
      by_cases hx : x = m <;> by_cases hx' : x' = m
      · omega
      · subst hx; rw [hsame] at h; cases h
        rw [hne x' hx'] at h'
        have := r.blk_lt (.inr (.inl ⟨x', h'⟩)); omega
      · subst hx'; rw [hsame] at h'; cases h'
        rw [hne x hx] at h
        have := r.blk_lt (.inr (.inl ⟨x, h⟩)); omega
      · rw [hne x hx] at h; rw [hne x' hx'] at h'; exact r.minj x x' b h h'
    · exact fun l => (r.lop l).mono hle rfl rfl fun b hb => heap_alloc w _ (r.blk_lt (.inr (.inr ⟨l, hb⟩)))
    · exact r.linj
    · exact r.na
    · intro x hx; rw [hne x (by omega)]; exact r.nm x hx
    · exact r.nl
    · exact r.opq
    · exact r.wf
  · refine ⟨hle, ?_, fun b hb _ => heap_alloc w _ hb, by simp, rfl, rfl, rfl, Nat.le_refl _, Nat.le_refl _, Nat.le_refl _, fun _ _ h => ⟨rfl, h⟩, ?_⟩
    · rintro b (⟨x, vi, hv, rfl⟩ | ⟨x, h⟩ | h)
      · exact .inl (.inl ⟨x, vi, hv, rfl⟩)
      · by_cases hx : x = m
        · subst hx; rw [hsame] at h; cases h; exact .inr (Nat.le_refl _)
        · rw [hne x hx] at h; exact .inl (.inr (.inl ⟨x, h⟩))
      · exact .inl (.inr (.inr h))
    · intro x hx h
      exact ⟨rfl, by rw [hne x (by omega)]; exact h⟩

/-- What an operation that makes memory comes to. -/
inductive AllocRes (P : Program) (σ : Sg) (w : World) (s : AS) (v : AV) (s₁ : AS) (res : Result Next) : Prop where
  | arr (A : Arr) (cs : Array Value) (E : TypeId) (fz : Nat × Nat) (w₁ : World) (V : Value)
      (hs : s₁ = { s with arrs := s.arrs.set s.na A, na := s.na + 1 }) (hw : w₁ = w ∨ w₁ = w.drew) (hr : res = .ok (.value V) (w₁.alloc (.cells cs E fz)))
      (hv : A.ver = 0) (hful : ∀ i, A.lo ≤ i → i < A.n → ∃ m v, A.get i = some (m, v) ∧ m ≤ A.ver) (hin : ∀ j i v, A.rd j i = some v → In σ v) (hfz : fine fz cs.size)
      (hcs : ∀ i v, A.rd 0 i = some v → cs[i]? = some (conc σ v))
      (hV : ∀ τ : Sg, τ.ar s.na = [⟨w.heap.size, 0, cs.size⟩] → V = conc τ v ∧ In τ v)
  | map (hs : s₁ = { s with maps := s.maps.set s.nm ⟨[], 0⟩, nm := s.nm + 1 }) (hv : v = .mp s.nm) (hr : res = .ok (.value (.map (some w.heap.size))) (w.alloc (.map #[] 0)))

/-- Memory that comes about now, where the abstract heap has it since then. -/
theorem AllocRes.late {P : Program} {σ : Sg} {w : World} {s s₁ t : AS} {v : AV} {res : Result Next} {B Bm : Nat} (h : AllocRes P σ w s v s₁ res) (r : Rel P σ t w) (hB : B ≤ s.na) (hBm : Bm ≤ s.nm)
    (hna : s₁.na ≤ t.na) (hnm : s₁.nm ≤ t.nm)
    (hpa : ∀ a, s.na ≤ a → a < s₁.na → σ.ar a = [] ∧ t.arrs.get a = s₁.arrs.get a) (hpm : ∀ m, s.nm ≤ m → m < s₁.nm → σ.mp m = none ∧ t.maps.get m = s₁.maps.get m) :
    ∃ σ' w', res = .ok (.value (conc σ' v)) w' ∧ Rel P σ' t w' ∧ In σ' v ∧ ExtB B Bm σ t w σ' t w' ∧
      (∀ a, (a < s.na ∨ s₁.na ≤ a) → σ'.ar a = σ.ar a) ∧ (∀ m, (m < s.nm ∨ s₁.nm ≤ m) → σ'.mp m = σ.mp m) := by
  cases h with
  | arr A cs E fz w₁ V hs hw hr hv hful hin hfz hcs hV =>
    subst hs
    simp only at hna hnm hpa hpm
    obtain ⟨h1, h2⟩ := hpa s.na (Nat.le_refl _) (by omega)
    simp only [Tr.get_set_same] at h2
    have hh : w₁.heap = w.heap := by rcases hw with rfl | rfl <;> rfl
    have r₁ : Rel P σ t w₁ := r.world fun b _ => by rw [hh]
    have x₁ : ExtB B Bm σ t w σ t w₁ := by
      rcases hw with rfl | rfl
      · exact .refl _ _ _ _ _
      · exact ⟨.refl σ, fun _ h => .inl h, fun _ _ _ => rfl, Nat.le_refl _, rfl, rfl, rfl, Nat.le_refl _, Nat.le_refl _, Nat.le_refl _, fun _ _ h => ⟨rfl, h⟩, fun _ _ h => ⟨rfl, h⟩⟩
    obtain ⟨k1, k2, k3⟩ := r₁.lateA (B := B) (Bm := Bm) (E := E) hB (by omega) h1 h2 hv hful hin hfz hcs
    rw [hh] at k1 k2 k3
    obtain ⟨m1, m2⟩ := hV _ k3
    refine ⟨_, _, by rw [hr, m1], k1, m2, x₁.trans k2, ?_, fun _ _ => rfl⟩
    intro a ha
    exact Sg.addA_ne _ _ (by simp only at ha; omega)
  | map hs hv hr =>
    subst hs; subst hv
    simp only at hna hnm hpa hpm
    obtain ⟨h1, h2⟩ := hpm s.nm (Nat.le_refl _) (by omega)
    simp only [Tr.get_set_same] at h2
    obtain ⟨k1, k2, k3⟩ := r.lateM (B := B) (Bm := Bm) hBm (by omega) h1 h2
    refine ⟨_, _, by rw [hr]; simp [conc, k3], k1, by simp [In, k3], k2, fun _ _ => rfl, ?_⟩
    intro a ha
    have hne : a ≠ s.nm := by simp only at ha; omega
    simp [Sg.addM, hne]

end Go.Ab
