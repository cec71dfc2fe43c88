/- Soundness of the abstract evaluator, part 2: the relation between abstract heaps and worlds, and what keeps it. -/
import Derived.Test.YthekpkcmlndcmaaGreatAbS1
noncomputable section
namespace Go.Ab

def fine (fz : Nat × Nat) (n : Nat) : Prop := fz = (0, 0) ∨ n ≤ fz.1

structure RArr (σ : Sg) (w : World) (A : Arr) (vis : List VI) : Prop where
  len : vis.length = A.ver + 1
  full : ∀ i, A.lo ≤ i → i < A.n → ∃ m v, A.get i = some (m, v) ∧ m ≤ A.ver
  shs : ∀ vi vi', vi ∈ vis → vi' ∈ vis → vi.blk = vi'.blk → vi.sh = vi'.sh
  inn : ∀ j i v, A.rd j i = some v → In σ v
  blk : ∀ (j : Nat) (vi : VI), vis[j]? = some vi → ∃ cs E fz, w.heap[vi.blk]? = some (.cells cs E fz) ∧ vi.en = vi.sh + cs.size ∧ fine fz cs.size ∧
    ∀ i v, A.rd j i = some v → vi.sh ≤ i ∧ cs[i - vi.sh]? = some (conc σ v)

def centry (σ : Sg) (e : AV × AV × Nat) : MapEntry := { key := conc σ e.1, val := conc σ e.2.1, born := e.2.2 }

/-- Temporaries: an abstract row of them and a real one. -/
def RTmp (σ : Sg) (N : Nat) (T : Tr AV) (tmps : Array Value) : Prop :=
  tmps.size = N ∧ ∀ t, In σ ((EO.t t).ev T) ∧ tmps.getD t Go.undef = conc σ ((EO.t t).ev T)

def cEx : Ex → Option Code
  | .normal => none
  | .exit id => some (.exit id)
  | .ret => some .ret

structure RLoop (P : Program) (σ : Sg) (w : World) (L : ALoop) (r : Nat) : Prop where
  ex : ∃ N fn tmps asn body d, w.heap[r]? = some (.loop { state := L.state, pending := cEx L.pend, fn, tmps, params := L.ps.toArray, assign := asn, body, defers := d }) ∧
    RTmp σ N L.tmps tmps ∧ L.asn = cCode P asn ∧ L.body = cCode P body ∧ dstC N L.asn = true ∧ dstC N L.body = true ∧ L.ps.all (ltb · N) = true

def PA (σ : Sg) (s : AS) (w : World) (a : Nat) : Prop := σ.ar a ≠ [] → ∃ A, s.arrs.get a = some A ∧ RArr σ w A (σ.ar a)
def PM (σ : Sg) (s : AS) (w : World) (m : Nat) : Prop :=
  ∀ r, σ.mp m = some r → ∃ M, s.maps.get m = some M ∧ w.heap[r]? = some (.map (M.es.map (centry σ)).toArray M.clock) ∧ ∀ e ∈ M.es, In σ e.1 ∧ In σ e.2.1
def PL (P : Program) (σ : Sg) (s : AS) (w : World) (l : Nat) : Prop :=
  ∀ r, σ.lp l = some r → ∃ L, s.loops.get l = some L ∧ RLoop P σ w L r

structure Rel (P : Program) (σ : Sg) (s : AS) (w : World) : Prop where
  arr : ∀ a, PA σ s w a
  inj : ∀ a a' vi vi', vi ∈ σ.ar a → vi' ∈ σ.ar a' → vi.blk = vi'.blk → a = a'
  map : ∀ m, PM σ s w m
  minj : ∀ m m' r, σ.mp m = some r → σ.mp m' = some r → m = m'
  lop : ∀ l, PL P σ s w l
  linj : ∀ l l' r, σ.lp l = some r → σ.lp l' = some r → l = l'
  na : ∀ a, s.na ≤ a → σ.ar a = []
  nm : ∀ m, s.nm ≤ m → σ.mp m = none
  nl : ∀ l, s.nl ≤ l → σ.lp l = none
  opq : ∀ i, (σ.opq i).oneCell' = true
  wf : s.wf

def img (σ : Sg) (r : Nat) : Prop := (∃ a vi, vi ∈ σ.ar a ∧ vi.blk = r) ∨ (∃ m, σ.mp m = some r) ∨ (∃ l, σ.lp l = some r)

structure Ext (σ : Sg) (s : AS) (w : World) (σ' : Sg) (s' : AS) (w' : World) : Prop where
  le : σ.le σ'
  img : ∀ r, img σ' r → img σ r ∨ w.heap.size ≤ r
  fr : ∀ r, r < w.heap.size → ¬ Ab.img σ r → w'.heap[r]? = w.heap[r]?
  size : w.heap.size ≤ w'.heap.size
  os : w'.os = w.os
  tape : w'.tape = w.tape
  output : w'.output = w.output
  na : s.na ≤ s'.na
  nm : s.nm ≤ s'.nm
  nl : s.nl ≤ s'.nl
  fa : ∀ a, a < s.na → σ.ar a = [] → s'.arrs.get a = s.arrs.get a ∧ σ'.ar a = []
  fm : ∀ m, m < s.nm → σ.mp m = none → s'.maps.get m = s.maps.get m ∧ σ'.mp m = none

theorem Ext.refl (σ : Sg) (s : AS) (w : World) : Ext σ s w σ s w :=
  ⟨.refl σ, fun _ h => .inl h, fun _ _ _ => rfl, Nat.le_refl _, rfl, rfl, rfl, Nat.le_refl _, Nat.le_refl _, Nat.le_refl _, fun _ _ h => ⟨rfl, h⟩, fun _ _ h => ⟨rfl, h⟩⟩

theorem Ext.trans {σ σ₁ σ₂ : Sg} {s s₁ s₂ : AS} {w w₁ w₂ : World} (h : Ext σ s w σ₁ s₁ w₁) (k : Ext σ₁ s₁ w₁ σ₂ s₂ w₂) : Ext σ s w σ₂ s₂ w₂ where
  le := h.le.trans k.le
  img r hr := by
    rcases k.img r hr with h1 | h1
    · exact h.img r h1
    · exact .inr (Nat.le_trans h.size h1)
  fr r hr hn := by
    have h1 : ¬ Ab.img σ₁ r := fun h1 => by
      rcases h.img r h1 with h2 | h2
      · exact hn h2
      · omega
    rw [k.fr r (Nat.lt_of_lt_of_le hr h.size) h1, h.fr r hr hn]
  size := Nat.le_trans h.size k.size
  os := k.os.trans h.os
  tape := k.tape.trans h.tape
  output := k.output.trans h.output
  na := Nat.le_trans h.na k.na
  nm := Nat.le_trans h.nm k.nm
  nl := Nat.le_trans h.nl k.nl
  fa a ha hn := by
    obtain ⟨h1, h2⟩ := h.fa a ha hn
    obtain ⟨h3, h4⟩ := k.fa a (Nat.lt_of_lt_of_le ha h.na) h2
    exact ⟨h3.trans h1, h4⟩
  fm a ha hn := by
    obtain ⟨h1, h2⟩ := h.fm a ha hn
    obtain ⟨h3, h4⟩ := k.fm a (Nat.lt_of_lt_of_le ha h.nm) h2
    exact ⟨h3.trans h1, h4⟩

theorem RTmp.le {σ τ : Sg} (h : σ.le τ) {N : Nat} {T : Tr AV} {tmps : Array Value} (r : RTmp σ N T tmps) : RTmp τ N T tmps :=
  ⟨r.1, fun t => ⟨(conc_le h _ (r.2 t).1).2, by rw [(r.2 t).2, (conc_le h _ (r.2 t).1).1]⟩⟩

theorem RArr.mono {σ τ : Sg} {w w' : World} {A : Arr} {vis : List VI} (r : RArr σ w A vis) (h : σ.le τ) (hw : ∀ vi, vi ∈ vis → w'.heap[vi.blk]? = w.heap[vi.blk]?) : RArr τ w' A vis where
  len := r.len
  full := r.full
  shs := r.shs
  inn j i v hv := (conc_le h v (r.inn j i v hv)).2
  blk j vi hj := by
    obtain ⟨cs, E, fz, h1, h2, h3, h4⟩ := r.blk j vi hj
    refine ⟨cs, E, fz, by rw [hw vi (List.mem_of_getElem? hj)]; exact h1, h2, h3, fun i v hv => ?_⟩
    obtain ⟨h5, h6⟩ := h4 i v hv
    exact ⟨h5, by rw [h6, (conc_le h v (r.inn j i v hv)).1]⟩

theorem PA.mono {σ τ : Sg} {s s' : AS} {w w' : World} {a : Nat} (p : PA σ s w a) (h : σ.le τ) (ha : τ.ar a = σ.ar a) (hs : s'.arrs.get a = s.arrs.get a)
    (hw : ∀ vi, vi ∈ σ.ar a → w'.heap[vi.blk]? = w.heap[vi.blk]?) : PA τ s' w' a := by
  intro hne
  rw [ha] at hne ⊢
  obtain ⟨A, h1, h2⟩ := p hne
  exact ⟨A, by rw [hs]; exact h1, h2.mono h hw⟩

theorem centry_le {σ τ : Sg} (h : σ.le τ) {e : AV × AV × Nat} (he : In σ e.1 ∧ In σ e.2.1) : centry τ e = centry σ e := by
  simp only [centry, (conc_le h _ he.1).1, (conc_le h _ he.2).1]

theorem PM.mono {σ τ : Sg} {s s' : AS} {w w' : World} {m : Nat} (p : PM σ s w m) (h : σ.le τ) (hm : τ.mp m = σ.mp m) (hs : s'.maps.get m = s.maps.get m)
    (hw : ∀ r, σ.mp m = some r → w'.heap[r]? = w.heap[r]?) : PM τ s' w' m := by
  intro r hr
  rw [hm] at hr
  obtain ⟨M, h1, h2, h3⟩ := p r hr
  refine ⟨M, by rw [hs]; exact h1, ?_, fun e he => ⟨(conc_le h _ (h3 e he).1).2, (conc_le h _ (h3 e he).2).2⟩⟩
  rw [hw r hr, h2]
  have : M.es.map (centry τ) = M.es.map (centry σ) := List.map_congr_left fun e he => centry_le h (h3 e he)
  rw [this]

theorem RLoop.mono {P : Program} {σ τ : Sg} {w w' : World} {L : ALoop} {r : Nat} (p : RLoop P σ w L r) (h : σ.le τ) (hw : w'.heap[r]? = w.heap[r]?) : RLoop P τ w' L r := by
  obtain ⟨N, fn, tmps, asn, body, d, h1, h2, h3⟩ := p.ex
  exact ⟨N, fn, tmps, asn, body, d, by rw [hw]; exact h1, h2.le h, h3⟩

theorem PL.mono {P : Program} {σ τ : Sg} {s s' : AS} {w w' : World} {l : Nat} (p : PL P σ s w l) (h : σ.le τ) (hl : τ.lp l = σ.lp l) (hs : s'.loops.get l = s.loops.get l)
    (hw : ∀ r, σ.lp l = some r → w'.heap[r]? = w.heap[r]?) : PL P τ s' w' l := by
  intro r hr
  rw [hl] at hr
  obtain ⟨L, h1, h2⟩ := p r hr
  exact ⟨L, by rw [hs]; exact h1, h2.mono h (hw r hr)⟩

/-- A world in which what the abstract heap speaks of lies as it lay. -/
theorem Rel.world {P : Program} {σ : Sg} {s : AS} {w w' : World} (r : Rel P σ s w) (hw : ∀ b, img σ b → w'.heap[b]? = w.heap[b]?) : Rel P σ s w' where
  arr a := (r.arr a).mono (.refl σ) rfl rfl fun vi hv => hw _ (.inl ⟨a, vi, hv, rfl⟩)
  inj := r.inj
  map m := (r.map m).mono (.refl σ) rfl rfl fun _ hb => hw _ (.inr (.inl ⟨m, hb⟩))
  minj := r.minj
  lop l := (r.lop l).mono (.refl σ) rfl rfl fun _ hb => hw _ (.inr (.inr ⟨l, hb⟩))
  linj := r.linj
  na := r.na
  nm := r.nm
  nl := r.nl
  opq := r.opq
  wf := r.wf

theorem Rel.blk_lt {P : Program} {σ : Sg} {s : AS} {w : World} (r : Rel P σ s w) {b : Nat} (h : img σ b) : b < w.heap.size := by
  have key : ∀ o, w.heap[b]? = some o → b < w.heap.size := fun o ho => by
    rcases Nat.lt_or_ge b w.heap.size with h | h
    · exact h
    · rw [Array.getElem?_eq_none h] at ho; cases ho
  rcases h with ⟨a, vi, hv, rfl⟩ | ⟨m, hm⟩ | ⟨l, hl⟩
  · obtain ⟨A, _, h2⟩ := r.arr a (List.ne_nil_of_mem hv)
    obtain ⟨j, hj⟩ := List.getElem?_of_mem hv
    obtain ⟨cs, E, fz, h3, _⟩ := h2.blk j vi hj
    exact key _ h3
  · obtain ⟨M, _, h2, _⟩ := r.map m b hm
    exact key _ h2
  · obtain ⟨L, _, h2⟩ := r.lop l b hl
    obtain ⟨N, fn, tmps, asn, body, d, h1, _⟩ := h2.ex
    exact key _ h1

theorem Rel.drew {P : Program} {σ : Sg} {s : AS} {w : World} (r : Rel P σ s w) : Rel P σ s w.drew := r.world fun _ _ => rfl
theorem Ext.drew (σ : Sg) (s : AS) (w : World) : Ext σ s w σ s w.drew :=
  ⟨.refl σ, fun _ h => .inl h, fun _ _ _ => rfl, Nat.le_refl _, rfl, rfl, rfl, Nat.le_refl _, Nat.le_refl _, Nat.le_refl _, fun _ _ h => ⟨rfl, h⟩, fun _ _ h => ⟨rfl, h⟩⟩

theorem heap_alloc (w : World) (o : Obj) {k : Nat} (h : k < w.heap.size) : (w.alloc o).heap[k]? = w.heap[k]? := by
  show (w.heap.push o)[k]? = _
  rw [Array.getElem?_push, if_neg (by omega)]
theorem heap_alloc_new (w : World) (o : Obj) : (w.alloc o).heap[w.heap.size]? = some o := by
  show (w.heap.push o)[w.heap.size]? = _
  simp

/-- A block that nothing abstract stands for. -/
theorem Rel.garbage {P : Program} {σ : Sg} {s : AS} {w : World} (r : Rel P σ s w) (o : Obj) : Rel P σ s (w.alloc o) :=
  r.world fun _ hb => heap_alloc w o (r.blk_lt hb)
theorem Ext.garbage (σ : Sg) (s : AS) (w : World) (o : Obj) : Ext σ s w σ s (w.alloc o) :=
  ⟨.refl σ, fun _ h => .inl h, fun _ h _ => heap_alloc w o h, by simp, rfl, rfl, rfl, Nat.le_refl _, Nat.le_refl _, Nat.le_refl _, fun _ _ h => ⟨rfl, h⟩, fun _ _ h => ⟨rfl, h⟩⟩

/-! ### A new array -/
def Sg.addA (σ : Sg) (a : Nat) (vi : VI) : Sg := { σ with ar := fun x => if x = a then σ.ar a ++ [vi] else σ.ar x }

theorem Sg.le_addA (σ : Sg) (a : Nat) (vi : VI) : σ.le (σ.addA a vi) where
  ar x := by
    simp only [Sg.addA]
    split
    · rename_i h; subst h; exact List.prefix_append _ _
    · exact List.prefix_refl _
  mp _ _ h := h
  lp _ _ h := h
  opq := rfl
  sym := rfl

theorem Sg.addA_same (σ : Sg) (a : Nat) (vi : VI) : (σ.addA a vi).ar a = σ.ar a ++ [vi] := by simp [Sg.addA]
theorem Sg.addA_ne (σ : Sg) {a x : Nat} (vi : VI) (h : x ≠ a) : (σ.addA a vi).ar x = σ.ar x := by simp [Sg.addA, h]

theorem nth_eq (l : List AV) (k : Nat) : nth l k = l[k]? := by
  induction l generalizing k with
  | nil => simp [nth]
  | cons x l ih =>
    simp only [nth, beq_eq]
    cases k with
    | zero => simp
    | succ k => simp [ih]

theorem setAll_get (l : List AV) (t : Tr (Nat × AV)) (m i k : Nat) :
    (setAll t m i l).get k = if i ≤ k ∧ k < i + l.length then (l[k - i]?).map (fun v => (m, v)) else t.get k := by
  induction l generalizing t i with
  | nil => simp [setAll]; omega
  | cons v l ih =>
    simp only [setAll, ih, Tr.get_set, List.length_cons]
    by_cases h1 : i + 1 ≤ k ∧ k < i + 1 + l.length
    · rw [if_pos h1, if_pos (by omega)]
      have : k - i = (k - (i + 1)) + 1 := by omega
      rw [this]; simp
    · rw [if_neg h1]
      by_cases h2 : k = i
      · subst h2; simp
      · rw [if_neg h2, if_neg (by omega)]

theorem ltb_eq (a b : Nat) : ltb a b = decide (a < b) := by
  simp only [ltb]
  cases h : Nat.ble (a + 1) b with
  | true => have := Nat.le_of_ble_eq_true h; simp; omega
  | false =>
    have : ¬ a + 1 ≤ b := fun h' => by have := Nat.ble_eq_true_of_le h'; simp [this] at h
    simp; omega
theorem ble_eq (a b : Nat) : Nat.ble a b = decide (a ≤ b) := by
  cases h : Nat.ble a b with
  | true => have := Nat.le_of_ble_eq_true h; simp; omega
  | false =>
    have : ¬ a ≤ b := fun h' => by have := Nat.ble_eq_true_of_le h'; simp [this] at h
    simp; omega

/-- A row of cells as it is read. -/
def rowOf (l : List AV) : Arr := ⟨0, l.length, 0, [], setAll .e 0 0 l⟩
theorem rowOf_rd (l : List AV) (j i : Nat) : (rowOf l).rd j i = l[i]? := by
  simp only [Arr.rd, Arr.get, rowOf, ltb_eq, ble_eq, setAll_get]
  by_cases h : i < l.length
  · simp [h]
  · simp [h]

def rowZ (n : Nat) (z : List AV) : Arr := ⟨0, n, 0, z, .e⟩
theorem rowZ_rd (n : Nat) (z : List AV) (j i : Nat) (hz : z ≠ []) : (rowZ n z).rd j i = if i < n then z[i % z.length]? else none := by
  simp only [Arr.rd, Arr.get, rowZ, ltb_eq, ble_eq, Tr.get_e]
  by_cases h : i < n
  · simp only [h, decide_true, Nat.zero_le, Bool.and_self, if_true]
    cases z with
    | nil => exact absurd rfl hz
    | cons x l =>
      simp only [nth_eq]
      cases (x :: l)[i % (x :: l).length]? <;> simp
  · simp [h]

/-- A new block for a new array. -/
theorem Rel.newA {P : Program} {σ : Sg} {s : AS} {w : World} (r : Rel P σ s w) (A : Arr) (cs : Array Value) (E : TypeId) (fz : Nat × Nat)
    (hv : A.ver = 0) (hful : ∀ i, A.lo ≤ i → i < A.n → ∃ m v, A.get i = some (m, v) ∧ m ≤ A.ver) (hin : ∀ j i v, A.rd j i = some v → In σ v) (hfz : fine fz cs.size)
    (hcs : ∀ i v, A.rd 0 i = some v → cs[i]? = some (conc σ v)) :
    Rel P (σ.addA s.na ⟨w.heap.size, 0, cs.size⟩) { s with arrs := s.arrs.set s.na A, na := s.na + 1 } (w.alloc (.cells cs E fz)) ∧
    Ext σ s w (σ.addA s.na ⟨w.heap.size, 0, cs.size⟩) { s with arrs := s.arrs.set s.na A, na := s.na + 1 } (w.alloc (.cells cs E fz)) ∧
    (σ.addA s.na ⟨w.heap.size, 0, cs.size⟩).ar s.na = [⟨w.heap.size, 0, cs.size⟩] := by
  have hle := σ.le_addA s.na ⟨w.heap.size, 0, cs.size⟩
  have h0 : σ.ar s.na = [] := r.na _ (Nat.le_refl _)
  have hsame : (σ.addA s.na ⟨w.heap.size, 0, cs.size⟩).ar s.na = [⟨w.heap.size, 0, cs.size⟩] := by rw [Sg.addA_same, h0]; rfl
  have hmem : ∀ a vi, vi ∈ (σ.addA s.na ⟨w.heap.size, 0, cs.size⟩).ar a → (a = s.na ∧ vi.blk = w.heap.size) ∨ (a ≠ s.na ∧ vi ∈ σ.ar a ∧ vi.blk < w.heap.size) := by
    intro a vi hvi
    by_cases ha : a = s.na
    · subst ha; rw [hsame] at hvi; simp at hvi; exact .inl ⟨rfl, by rw [hvi]⟩
    · rw [Sg.addA_ne _ _ ha] at hvi; exact .inr ⟨ha, hvi, r.blk_lt (.inl ⟨a, vi, hvi, rfl⟩)⟩
  refine ⟨?_, ?_, hsame⟩
  · constructor
    · intro a
      by_cases ha : a = s.na
      · subst ha
        intro _
        refine ⟨A, by simp, ?_⟩
        rw [hsame]
        refine ⟨by simp [hv], hful, by simp, fun j i v h => (conc_le hle v (hin j i v h)).2, ?_⟩
        intro j vi hj
        cases j with
        | zero =>
          simp at hj; subst hj
          refine ⟨cs, E, fz, heap_alloc_new _ _, by simp, hfz, fun i v h => ⟨Nat.zero_le _, ?_⟩⟩
          rw [(conc_le hle v (hin 0 i v h)).1]; simpa using hcs i v h
        | succ j => simp at hj
      · refine (r.arr a).mono hle (Sg.addA_ne _ _ ha) (by simp [Tr.get_set_ne _ _ ha]) fun vi hv => heap_alloc w _ (r.blk_lt (.inl ⟨a, vi, hv, rfl⟩))
    · intro a a' vi vi' h h' he
      rcases hmem a vi h with ⟨h1, h2⟩ | ⟨h1, h2, h3⟩ <;> rcases hmem a' vi' h' with ⟨k1, k2⟩ | ⟨k1, k2, k3⟩
      · omega
      · omega
      · omega
      · exact r.inj a a' vi vi' h2 k2 he
    · exact fun m => (r.map m).mono hle rfl rfl fun b hb => heap_alloc w _ (r.blk_lt (.inr (.inl ⟨m, hb⟩)))
    · exact r.minj
    · exact fun l => (r.lop l).mono hle rfl rfl fun b hb => heap_alloc w _ (r.blk_lt (.inr (.inr ⟨l, hb⟩)))
    · exact r.linj
    · intro a ha
      simp only at ha
      rw [Sg.addA_ne _ _ (by omega)]; exact r.na a (by omega)
    · exact r.nm
    · exact r.nl
    · exact r.opq
    · exact ⟨fun a ha => by simp only at ha; simp only; rw [Tr.get_set_ne _ _ (by omega)]; exact r.wf.arr a (by omega), r.wf.map⟩
  · refine ⟨hle, ?_, fun b hb _ => heap_alloc w _ hb, by simp, rfl, rfl, rfl, Nat.le_succ _, Nat.le_refl _, Nat.le_refl _, ?_, fun _ _ h => ⟨rfl, h⟩⟩
    · rintro b (⟨a, vi, hv, rfl⟩ | h | h)
      · rcases hmem a vi hv with ⟨h1, h2⟩ | ⟨h1, h2, h3⟩
        · exact .inr (by omega)
        · exact .inl (.inl ⟨a, vi, h2, rfl⟩)
      · exact .inl (.inr (.inl h))
      · exact .inl (.inr (.inr h))
    · intro a ha h
      exact ⟨by simp [Tr.get_set_ne _ _ (show a ≠ s.na by omega)], by rw [Sg.addA_ne _ _ (by omega)]; exact h⟩

end Go.Ab
