/- Soundness of the abstract evaluator: a new version of an array. -/
import Derived.Test.YthekpkcmlndcmaaGreatAbO6
noncomputable section
namespace Go.Ab
section
variable {P : Program} {E : Env} {σ : Sg} {s : AS} {w : World}

/-- The array behind an append: a new version. -/
def bumpA (A : Arr) (off N : Nat) (new : List AV) : Arr := ⟨A.ver + 1, N + new.length, off, A.dv, setAll A.cells (A.ver + 1) N new⟩

theorem bump_get {A : Arr} {off N : Nat} {new : List AV} (hlo : A.lo ≤ off) (hN : off ≤ N) (hn : N ≤ A.n) (i : Nat) :
    (bumpA A off N new).get i = if off ≤ i ∧ i < N + new.length then (if h : N ≤ i ∧ i - N < new.length then some (A.ver + 1, new[i - N]'h.2) else A.get i) else none := by
  by_cases h : off ≤ i ∧ i < N + new.length
  · rw [if_pos h]
    by_cases h2 : N ≤ i
    · have h3 : i - N < new.length := by omega
      rw [dif_pos ⟨h2, h3⟩]
      simp [Arr.get, bumpA, ltb_eq, ble_eq, h, setAll_get, h2, h3]
    · have h4 : ¬ (N ≤ i ∧ i - N < new.length) := by omega
      rw [dif_neg h4]
      have e1 : (ltb i (N + new.length) && Nat.ble off i) = true := by simp [ltb_eq, ble_eq, h]
      have e2 : (ltb i A.n && Nat.ble A.lo i) = true := by simp [ltb_eq, ble_eq]; omega
      simp only [Arr.get, bumpA, e1, e2, setAll_get]
      rw [if_neg (by omega)]
  · rw [if_neg h]
    have e1 : (ltb i (N + new.length) && Nat.ble off i) = false := by
      simp only [ltb_eq, ble_eq]
      by_cases h1 : i < N + new.length
      · have : ¬ off ≤ i := fun h2 => h ⟨h2, h1⟩
        simp [this]
      · simp [h1]
    simp only [Arr.get, bumpA, e1]

theorem bump_old {A : Arr} {off N : Nat} {new : List AV} (hlo : A.lo ≤ off) (hN : off ≤ N) (hn : N ≤ A.n) {j i : Nat} {v : AV} (hj : j ≤ A.ver) (h : (bumpA A off N new).rd j i = some v) :
    off ≤ i ∧ i < N ∧ A.rd j i = some v := by
  simp only [Arr.rd, bump_get hlo hN hn] at h
  by_cases h1 : off ≤ i ∧ i < N + new.length
  · rw [if_pos h1] at h
    by_cases h2 : N ≤ i ∧ i - N < new.length
    · rw [dif_pos h2] at h
      simp only [ble_eq] at h
      have : ¬ (A.ver + 1 ≤ j) := by omega
      simp [this] at h
    · rw [dif_neg h2] at h
      exact ⟨h1.1, by omega, by simpa only [Arr.rd] using h⟩
  · rw [if_neg h1] at h; cases h

theorem bump_new {A : Arr} {off N : Nat} {new : List AV} (hlo : A.lo ≤ off) (hN : off ≤ N) (hn : N ≤ A.n) {i : Nat} {v : AV} {j : Nat} (h : (bumpA A off N new).rd j i = some v) :
    (off ≤ i ∧ i < N ∧ ∃ m, A.get i = some (m, v)) ∨ (N ≤ i ∧ new[i - N]? = some v) := by
  simp only [Arr.rd, bump_get hlo hN hn] at h
  by_cases h1 : off ≤ i ∧ i < N + new.length
  · rw [if_pos h1] at h
    by_cases h2 : N ≤ i ∧ i - N < new.length
    · rw [dif_pos h2] at h
      simp only at h
      split at h
      · cases h
        exact .inr ⟨h2.1, by rw [List.getElem?_eq_getElem h2.2]⟩
      · cases h
    · rw [dif_neg h2] at h
      split at h
      · rename_i m v' hg
        split at h
        · cases h; exact .inl ⟨h1.1, by omega, m, hg⟩
        · cases h
      · cases h
  · rw [if_neg h1] at h; cases h

theorem Rel.bump (r : Rel P σ s w) {a j off N : Nat} {A : Arr} {new : List AV} (hj : j < (σ.ar a).length) (hA : s.arrs.get a = some A) (hlo : A.lo ≤ off) (hN : off ≤ N) (hn : N ≤ A.n) (hin : InL σ new)
    {vi : VI} {w' : World} {cs : Array Value} {E' : TypeId} {fz : Nat × Nat} (hb : w'.heap[vi.blk]? = some (.cells cs E' fz)) (hen : vi.en = vi.sh + cs.size) (hfz : fine fz cs.size)
    (ho : ∀ i m v, off ≤ i → i < N → A.get i = some (m, v) → vi.sh ≤ i ∧ cs[i - vi.sh]? = some (conc σ v)) (hnw : ∀ i v, new[i]? = some v → vi.sh ≤ N + i ∧ cs[N + i - vi.sh]? = some (conc σ v))
    (hk : vi.blk = w.heap.size ∨ (vi = σ.vi a j ∧ ∀ cs₀ E₀ fz₀, w.heap[vi.blk]? = some (.cells cs₀ E₀ fz₀) → cs₀.size = cs.size ∧ ∀ i, vi.sh ≤ i → i < N → cs[i - vi.sh]? = cs₀[i - vi.sh]?))
    (hfr : ∀ b, b < w.heap.size → b ≠ vi.blk → w'.heap[b]? = w.heap[b]?) (hsz : w.heap.size ≤ w'.heap.size) (hos : w'.os = w.os) (htp : w'.tape = w.tape) (hou : w'.output = w.output) :
    Rel P (σ.addA a vi) { s with arrs := s.arrs.set a (bumpA A off N new) } w' ∧ Ext σ s w (σ.addA a vi) { s with arrs := s.arrs.set a (bumpA A off N new) } w' ∧
      (σ.addA a vi).ar a = σ.ar a ++ [vi] := by
  have hle := σ.le_addA a vi
  have hsame := Sg.addA_same σ a vi
  have hne : σ.ar a ≠ [] := List.ne_nil_of_mem (Sg.vi_mem hj)
  obtain ⟨A₀, hA₀, h2⟩ := r.arr a hne
  rw [hA] at hA₀; cases hA₀
  have hlen := h2.len
  have hmem : ∀ x u, u ∈ (σ.addA a vi).ar x → (u ∈ σ.ar x) ∨ (x = a ∧ u = vi) := by
    intro x u hu
    by_cases hx : x = a
    · subst hx
      rw [hsame] at hu
      rcases List.mem_append.1 hu with hu | hu
      · exact .inl hu
      · simp at hu; exact .inr ⟨rfl, hu⟩
    · rw [Sg.addA_ne _ _ hx] at hu; exact .inl hu
  have hlt : ∀ x u, u ∈ σ.ar x → u.blk < w.heap.size := fun x u hu => r.blk_lt (.inl ⟨x, u, hu, rfl⟩)
  -- a block that is the new version's is an old one of the same array, or new
  have hblk : ∀ x u, u ∈ σ.ar x → u.blk = vi.blk → x = a ∧ vi = σ.vi a j := by
    intro x u hu he
    rcases hk with hk | ⟨hk, _⟩
    · have := hlt x u hu; omega
    · exact ⟨r.inj x a u (σ.vi a j) hu (Sg.vi_mem hj) (by rw [he, hk]), hk⟩
  have hother : ∀ b, img σ b → b ≠ vi.blk → w'.heap[b]? = w.heap[b]? := fun b hb hne => hfr b (r.blk_lt hb) hne
  have hcells : ∀ o, (∀ c E f, o ≠ Obj.cells c E f) → ∀ b, w.heap[b]? = some o → img σ b → b ≠ vi.blk := by
    intro o ho b hbo hib e
    rcases hk with hk | ⟨hk, _⟩
    · have := r.blk_lt hib; omega
    · obtain ⟨A₁, cs₁, E₁, fz₁, _, _, q, _⟩ := r.at hj
      rw [e, hk, q] at hbo
      cases hbo
      exact ho _ _ _ rfl
  refine ⟨?_, ?_, hsame⟩
  · constructor
    · intro x
      by_cases hx : x = a
      · subst hx
        intro _
        refine ⟨bumpA A off N new, by simp, ?_⟩
        rw [hsame]
        refine ⟨by simp [hlen, bumpA], ?_, ?_, ?_, ?_⟩
        · intro i hi1 hi2
          simp only [bumpA] at hi1 hi2
          rw [bump_get hlo hN hn, if_pos ⟨hi1, hi2⟩]
          by_cases h3 : N ≤ i ∧ i - N < new.length
          · rw [dif_pos h3]; exact ⟨_, _, rfl, Nat.le_refl _⟩
          · rw [dif_neg h3]
            obtain ⟨m, v, h4, h5⟩ := h2.full i (by omega) (by omega)
            exact ⟨m, v, h4, by simp only [bumpA]; omega⟩
        · intro u u' hu hu' he
          rcases hmem x u (by rw [hsame]; exact hu) with h3 | ⟨_, e1⟩ <;> rcases hmem x u' (by rw [hsame]; exact hu') with h4 | ⟨_, e2⟩
          · exact h2.shs u u' h3 h4 he
          · rw [e2] at he ⊢
            obtain ⟨_, q⟩ := hblk x u h3 he
            rw [q] at he ⊢; exact h2.shs u _ h3 (Sg.vi_mem hj) he
          · rw [e1] at he ⊢
            obtain ⟨_, q⟩ := hblk x u' h4 he.symm
            rw [q] at he ⊢; exact h2.shs _ u' (Sg.vi_mem hj) h4 he
          · rw [e1, e2]
        · intro j' i v hv
          refine (conc_le hle v ?_).2
          rcases bump_new hlo hN hn hv with ⟨_, _, m, h3⟩ | ⟨_, h3⟩
          · obtain ⟨m', v', h4, h5⟩ := h2.full i (by omega) (by omega)
            rw [h3] at h4; cases h4
            exact h2.inn A.ver i v (by simp [Arr.rd, h3, ble_eq, h5])
          · exact (InL_iff σ _).1 hin v (List.mem_of_getElem? h3)
        · intro j' u hju
          by_cases hj' : j' < (σ.ar x).length
          · rw [List.getElem?_append_left hj'] at hju
            have humem := List.mem_of_getElem? hju
            obtain ⟨cs', E₁, fz', q1, q2, q3, q4⟩ := h2.blk j' u hju
            by_cases hub : u.blk = vi.blk
            · obtain ⟨_, hvi⟩ := hblk x u humem hub
              have hsh : u.sh = vi.sh := by rw [hvi] at hub ⊢; exact h2.shs u _ humem (Sg.vi_mem hj) hub
              rcases hk with hk | ⟨_, hk⟩
              · have := hlt x u humem; omega
              · obtain ⟨k1, k2⟩ := hk cs' E₁ fz' (by rw [← hub]; exact q1)
                refine ⟨cs, E', fz, by rw [hub]; exact hb, by rw [q2, k1], hfz, ?_⟩
                intro i v hv
                obtain ⟨b1, b2, b3⟩ := bump_old hlo hN hn (by omega) hv
                obtain ⟨b4, b5⟩ := q4 i v b3
                refine ⟨b4, ?_⟩
                rw [hsh, k2 i (by omega) b2, ← hsh, b5, (conc_le hle v (h2.inn _ _ _ b3)).1]
            · refine ⟨cs', E₁, fz', by rw [hother _ (.inl ⟨x, u, humem, rfl⟩) hub]; exact q1, q2, q3, ?_⟩
              intro i v hv
              obtain ⟨b1, b2, b3⟩ := bump_old hlo hN hn (by omega) hv
              obtain ⟨b4, b5⟩ := q4 i v b3
              exact ⟨b4, by rw [b5, (conc_le hle v (h2.inn _ _ _ b3)).1]⟩
          · rw [List.getElem?_append_right (by omega)] at hju
            have : j' - (σ.ar x).length = 0 := by
              rcases Nat.eq_zero_or_pos (j' - (σ.ar x).length) with h | h
              · exact h
              · rw [List.getElem?_eq_none (by simp; omega)] at hju; cases hju
            rw [this] at hju
            simp at hju; subst hju
            refine ⟨cs, E', fz, hb, hen, hfz, ?_⟩
            intro i v hv
            rcases bump_new hlo hN hn hv with ⟨b1, b2, m, h3⟩ | ⟨b1, h3⟩
            · obtain ⟨m', v', h4, h5⟩ := h2.full i (by omega) (by omega)
              rw [h3] at h4; cases h4
              obtain ⟨b4, b5⟩ := ho i m v b1 b2 h3
              exact ⟨b4, by rw [b5, (conc_le hle v (h2.inn A.ver i v (by simp [Arr.rd, h3, ble_eq, h5]))).1]⟩
            · obtain ⟨b4, b5⟩ := hnw (i - N) v h3
              rw [show N + (i - N) = i from by omega] at b4 b5
              exact ⟨b4, by rw [b5, (conc_le hle v ((InL_iff σ _).1 hin v (List.mem_of_getElem? h3))).1]⟩
      · exact (r.arr x).mono hle (Sg.addA_ne _ _ hx) (Tr.get_set_ne _ _ hx) fun u hu => hother _ (.inl ⟨x, u, hu, rfl⟩) fun e => hx (hblk x u hu e).1
    · intro x y u u' hu hu' he
      rcases hmem x u hu with h1 | ⟨e1, e2⟩ <;> rcases hmem y u' hu' with h3 | ⟨e3, e4⟩
      · exact r.inj x y u u' h1 h3 he
      · rw [e3]; exact (hblk x u h1 (by rw [he, e4])).1
      · rw [e1]; exact (hblk y u' h3 (by rw [← he, e2])).1.symm
      · rw [e1, e3]
    · intro m
      refine (r.map m).mono hle rfl rfl fun b hb' => ?_
      obtain ⟨M, _, hM, _⟩ := r.map m b hb'
      exact hother b (.inr (.inl ⟨m, hb'⟩)) (hcells _ (by intro _ _ _ h; cases h) b hM (.inr (.inl ⟨m, hb'⟩)))
    · exact r.minj
    · intro l
      refine (r.lop l).mono hle rfl rfl fun b hb' => ?_
      obtain ⟨L, _, hL⟩ := r.lop l b hb'
      obtain ⟨N', fn, tmps, asn, body, d, hL1, _⟩ := hL.ex
      exact hother b (.inr (.inr ⟨l, hb'⟩)) (hcells _ (by intro _ _ _ h; cases h) b hL1 (.inr (.inr ⟨l, hb'⟩)))
    · exact r.linj
    · intro x hx
      have : x ≠ a := by rintro rfl; exact hne (r.na x hx)
      rw [Sg.addA_ne _ _ this]; exact r.na x hx
    · exact r.nm
    · exact r.nl
    · exact r.opq
    · refine ⟨fun x hx => ?_, r.wf.map⟩
      have : x ≠ a := by rintro rfl; exact hne (r.na x hx)
      simp only; rw [Tr.get_set_ne _ _ this]; exact r.wf.arr x hx
  · refine ⟨hle, ?_, ?_, hsz, hos, htp, hou, Nat.le_refl _, Nat.le_refl _, Nat.le_refl _, ?_, fun _ _ h => ⟨rfl, h⟩⟩
    · rintro b (⟨x, u, hu, rfl⟩ | h | h)
      · rcases hmem x u hu with hu | ⟨rfl, rfl⟩
        · exact .inl (.inl ⟨x, u, hu, rfl⟩)
        · rcases hk with hk | ⟨hk, _⟩
          · exact .inr (by omega)
          · exact .inl (.inl ⟨x, _, Sg.vi_mem hj, by rw [hk]⟩)
      · exact .inl (.inr (.inl h))
      · exact .inl (.inr (.inr h))
    · intro b hb1 hb2
      refine hfr b hb1 fun e => ?_
      rcases hk with hk | ⟨hk, _⟩
      · omega
      · exact hb2 (.inl ⟨a, _, Sg.vi_mem hj, by rw [e, hk]⟩)
    · intro x _ hx
      have : x ≠ a := by rintro rfl; exact hne hx
      exact ⟨Tr.get_set_ne _ _ this, by rw [Sg.addA_ne _ _ this]; exact hx⟩

end
end Go.Ab
