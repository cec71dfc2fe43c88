/- Soundness of the abstract evaluator: append. -/
import Derived.Test.YthekpkcmlndcmaaGreatAbO7
import Derived.Deep.DeepAppendWide
noncomputable section
namespace Go.Ab
section
variable {P : Program} {E : Env} {σ : Sg} {s : AS} {w : World}

theorem add_plain (b o n : Nat) : (⟨b, o, none⟩ : Addr).add n = ⟨b, o + n, none⟩ := by
  simp only [Addr.add]
  split
  · rename_i h; subst h; rfl
  · rfl

/-- A row of cells stored in a block. -/
theorem storeRow_run {b o₀ : Nat} {E' : TypeId} {fz : Nat × Nat} : ∀ (vals : List Value) (k : Nat) (w : World) (cs : Array Value), w.heap[b]? = some (.cells cs E' fz) → fine fz cs.size → o₀ + k + vals.length ≤ cs.size → (∀ v ∈ vals, v.oneCell' = true) →
    ∃ w' cs', (storeCells ⟨b, o₀, none⟩ vals k).run P w = .ok () w' ∧ w'.heap[b]? = some (.cells cs' E' fz) ∧ cs'.size = cs.size ∧ (∀ i, cs'[i]? = if o₀ + k ≤ i ∧ i < o₀ + k + vals.length then vals[i - (o₀ + k)]? else cs[i]?) ∧
      (∀ c, c ≠ b → w'.heap[c]? = w.heap[c]?) ∧ w'.heap.size = w.heap.size ∧ w'.os = w.os ∧ w'.tape = w.tape ∧ w'.output = w.output := by
  intro vals
  induction vals with
  | nil =>
    intro k w cs h _ _ _
    refine ⟨w, cs, by simp [storeCells], h, rfl, fun i => ?_, fun _ _ => rfl, rfl, rfl, rfl, rfl⟩
    rw [if_neg (by simp)]
  | cons v vals ih =>
    intro k w cs h hf hl h1
    simp only [List.length_cons] at hl
    have hin : o₀ + k < cs.size := by omega
    have hcell : w.cell? ⟨b, o₀ + k, none⟩ = some cs[o₀ + k] := by simp [World.cell?, h, hin]
    have hfr : w.frozen? ⟨b, o₀ + k, none⟩ = false := by
      simp only [World.frozen?, h]
      rcases hf with rfl | hf
      · simp
      · have h9 : ¬ fz.1 ≤ o₀ + k := by omega
        simp [h9]
    have hst : (store ⟨b, o₀ + k, none⟩ v).run P w = .ok () (w.setCell ⟨b, o₀ + k, none⟩ v) := by
      rw [run_store P w _ _ _ (h1 v (List.mem_cons_self ..)), hcell]; simp [hfr]
    have h2 := heap_setCell_eq w b (o₀ + k) v h
    obtain ⟨w', cs', k1, k2, k3, k4, k5, k6, k7, k8, k9⟩ := ih (k + 1) (w.setCell ⟨b, o₀ + k, none⟩ v) _ h2 (by simpa using hf) (by simp; omega) (fun x hx => h1 x (List.mem_cons_of_mem _ hx))
    refine ⟨w', cs', ?_, k2, by simpa using k3, ?_, ?_, by simpa using k6, k7, k8, k9⟩
    · simp only [storeCells, Sem.run_bind, add_plain, hst, Result.andThen_ok]; exact k1
    · intro i
      rw [k4 i]
      by_cases hi : i = o₀ + k
      · subst hi
        rw [if_neg (by omega), if_pos (by simp)]
        simp [hin]
      · by_cases h3 : o₀ + (k + 1) ≤ i ∧ i < o₀ + (k + 1) + vals.length
        · rw [if_pos h3, if_pos (by simp; omega)]
          rw [show i - (o₀ + k) = (i - (o₀ + (k + 1))) + 1 from by omega]
          simp
        · rw [if_neg h3, if_neg (by simp; omega), Array.getElem?_setIfInBounds_ne (by omega)]
    · intro c hc
      rw [k5 c hc, heap_setCell_ne w _ _ hc]

theorem lenOf_run {y : AV} {n : Nat} (h : lenAV s y = some n) (hy : ∀ m, y ≠ .mp m) (hn : y ≠ .nilm) : (Builtin.lenOf (conc σ y)).run P w = .ok n w := by
  unfold lenAV at h
  split at h
  all_goals (first | (cases h; simp [conc, Builtin.lenOf]; done) | (exact absurd rfl hn) | (exact absurd rfl (hy _)) | cases h)

theorem src_run (r : Rel P σ s w) {es n : Nat} {y : AV} {l : List AV} (hy : In σ y) (h : srcCells s es n y = some l) (hn : y = .nils ∨ (∃ a j o l e, y = .tail a j o l e) → n = 0) : (Builtin.firstCells es n (conc σ y)).run P w = .ok (concL σ l).toArray w ∧ InL σ l := by
  unfold srcCells at h
  split at h
  · cases h
    simp [conc, Builtin.firstCells, concL, InL]
  · cases h
    obtain rfl := hn (.inr ⟨_, _, _, _, _, rfl⟩)
    simp [conc, Builtin.firstCells, concL, InL, loadCells, loadCellsFrom]
  · rename_i a j o len c
    have hin : j < (σ.ar a).length ∧ (σ.vi a j).sh ≤ o := by
      cases c <;> (simp only [In] at hy; exact ⟨hy.1, hy.2.1⟩)
    rw [beq_eq] at h
    split at h
    · rename_i h0
      simp at h0; subst h0
      cases h
      simp [conc, Builtin.firstCells, concL, InL, loadCells, loadCellsFrom]
    · obtain ⟨h1, h2, h3⟩ := r.rdN hin.1 hin.2 h
      simp only [conc, Builtin.firstCells]
      exact ⟨h1, h2⟩
  · rename_i b
    cases h
    refine ⟨?_, ?_⟩
    · simp only [conc, Builtin.firstCells, Sem.run_pure]
      congr 1
      apply Array.ext'
      simp only [Array.toList_map, concL_eq, List.map_map]
      have : (b.extract 0 n).data.toList = b.toList.take n := by
        rw [ByteArray.toList_eq b]
        simp [ByteArray.data_extract]
      rw [this]
      rfl
    · rw [InL_iff]
      intro v hv
      obtain ⟨x, _, rfl⟩ := List.mem_map.1 hv
      trivial
  · cases h

theorem allLeaf_mem {l : List AV} (h : allLeaf l = true) : ∀ v ∈ l, leaf v = true := by
  induction l with
  | nil => intro v hv; cases hv
  | cons x l ih =>
    simp only [allLeaf] at h
    split at h
    · rename_i hx
      intro v hv
      cases hv with
      | head => exact hx
      | tail _ hv => exact ih h v hv
    · cases h

theorem leaf_cells (r : Rel P σ s w) {l : List AV} (h : allLeaf l = true) : ∀ v ∈ concL σ l, v.oneCell' = true := by
  intro v hv
  rw [concL_eq] at hv
  obtain ⟨x, hx, rfl⟩ := List.mem_map.1 hv
  exact oneCell_conc r (allLeaf_mem h x hx)


theorem app_fit {sT xT elem type : TypeId} {u : TypeDesc} {es n : Nat} {X : Value} {new : Array Value} (hsl : P.underlying sT = some (.slice elem)) (hes : tsize P.toTables elem = some es) (hu : P.underlying xT = some u) (hk : ∀ k, u ≠ .int k)
    (h1 : (Builtin.lenOf X).run P w = .ok n w) (h2 : (Builtin.firstCells es n X).run P w = .ok new w) {base : Option Addr} {len cap : Nat} (hc : len + n ≤ cap) {w' : World}
    (hs : base = none ∧ w' = w ∨ ∃ a, base = some a ∧ (storeCells (a.add (len * es)) new.toList).run P w = .ok () w') :
    (Builtin.append_ #[sT, xT] type #[.slice base len cap, X]).run P w = .ok (.slice base (len + n) cap) w' := by
  simp only [Builtin.append_, List.getElem?_toArray, List.getElem?_cons_zero, List.getElem?_cons_succ, Sem.run_bind, run_und hsl, run_und hu, Result.andThen_ok, run_size hes, Sem.run_pure]
  simp only [Bool.false_eq_true, if_false, Sem.run_bind, h1, Result.andThen_ok, if_pos hc, Bool.not_false, if_true, h2]
  rcases hs with ⟨rfl, rfl⟩ | ⟨a, rfl, hs⟩
  · simp
  · simp [hs]

theorem nextcap_ok {need cap bytes : Nat} (h : sane need bytes = true) (hc : cap < need) : ¬ Builtin.nextslicecap need cap * bytes > 2 ^ 48 := by
  have h1 := nextslicecap_le_wide hc
  have h2 := sane_spec h
  have h3 : Builtin.nextslicecap need cap * bytes ≤ (need + need / 4 + 192) * bytes := Nat.mul_le_mul_right _ h1
  have h4 : (need + need / 4 + 192) * bytes ≤ (194 * need) * bytes := Nat.mul_le_mul_right _ (by omega)
  have h5 : (194 * need) * bytes = 194 * (need * bytes) := Nat.mul_assoc ..
  have h6 : need * (bytes + 1) = need * bytes + need := Nat.mul_succ ..
  omega

theorem app_grow {sT xT elem type : TypeId} {u : TypeDesc} {es bytes n : Nat} {X : Value} {old new : Array Value} {zero : Value} (hsl : P.underlying sT = some (.slice elem)) (hes : tsize P.toTables elem = some es) (hby : tbytes P.toTables elem = some bytes) (hu : P.underlying xT = some u) (hk : ∀ k, u ≠ .int k)
    (h1 : (Builtin.lenOf X).run P w = .ok n w) {base : Option Addr} {len cap : Nat} (hc : ¬ len + n ≤ cap) (hsane : sane (len + n) bytes = true)
    (ho : (Builtin.firstCells es len (.slice base len cap)).run P w.drew = .ok old w.drew) (h2 : (Builtin.firstCells es n X).run P w.drew = .ok new w.drew) (hz : (zeroValue elem).run P w.drew = .ok zero w.drew) :
    ∃ c, len + n ≤ c ∧ (Builtin.append_ #[sT, xT] type #[.slice base len cap, X]).run P w =
      .ok (.slice (some ⟨w.heap.size, 0, none⟩) (len + n) c) (w.drew.alloc (.cells (old ++ new ++ Builtin.zeroCells zero.cells (c - (len + n))) elem)) := by
  refine ⟨(Question.appendCap (len + n) cap elem).cut (w.tape w.drawn (.appendCap (len + n) cap elem)), by simp [Question.cut], ?_⟩
  obtain ⟨i, hi1, hi2⟩ := tbytes_some hby
  have hmax : ¬ (((len + n : Nat) : Int) > IntKind.i64.max ∧ (false = true ∨ bytes = 0)) := by
    have := sane_spec hsane
    have h6 : (len + n) * (bytes + 1) = (len + n) * bytes + (len + n) := Nat.mul_succ ..
    have : IntKind.i64.max = 9223372036854775807 := by decide
    rw [this]
    rintro ⟨h, _⟩
    omega
  have hnext := nextcap_ok hsane (by omega : cap < len + n)
  simp only [Builtin.append_, List.getElem?_toArray, List.getElem?_cons_zero, List.getElem?_cons_succ, Sem.run_bind, run_und hsl, run_und hu, Result.andThen_ok, run_size hes, Sem.run_pure]
  simp only [Bool.false_eq_true, if_false, Sem.run_bind, h1, Result.andThen_ok, if_neg hc, run_tinfo hi1, hi2]
  simp only [Bool.false_eq_true] at hmax
  rw [if_neg hmax]
  simp only [Sem.run_bind, run_tinfo hi1, hi2, Result.andThen_ok]
  rw [if_neg hnext]
  simp only [Sem.run_bind, run_choose, Question.forced, Bool.false_eq_true, if_false, Result.andThen_ok, run_tinfo hi1, run_askRoom, ho, Bool.not_false, if_true, h2, hz, newRow, run_newObj, Sem.run_pure]
  simp [ho, h2, hz]


theorem fresh_sound (r : Rel P σ s w) {es len c : Nat} {l : List AV} {elem : TypeId} {rest : Array Value} (hin : InL σ l) (hl : l.length = len * es) (hes : 1 ≤ es) (hc : len ≤ c) (hr : l.length + rest.size = c * es) {v : AV} {s₁ : AS} (h : freshSl s es l len = (v, s₁)) :
    ∃ σ' w', Result.ok (Next.value (Value.slice (some ⟨w.heap.size, 0, none⟩) len c)) (w.drew.alloc (.cells ((concL σ l).toArray ++ rest) elem)) = .ok (.value (conc σ' v)) w' ∧ Rel P σ' s₁ w' ∧ In σ' v ∧ Ext σ s w σ' s₁ w' := by
  simp only [freshSl, AS.new] at h
  cases h
  obtain ⟨k1, k2, k3⟩ := r.drew.newA (rowOf l) ((concL σ l).toArray ++ rest) elem (0, 0) rfl (rowOf_full l) (by
    intro j i v hv; rw [rowOf_rd] at hv; exact (InL_iff σ l).1 hin v (List.mem_of_getElem? hv)) (.inl rfl) (by
    intro i v hv
    rw [rowOf_rd] at hv
    have hlt : i < l.length := by
      rcases Nat.lt_or_ge i l.length with h | h
      · exact h
      · rw [List.getElem?_eq_none h] at hv; cases hv
    rw [Array.getElem?_append_left (by simp [concL_eq, hlt])]
    simp [concL_eq, hv])
  have hs : ((concL σ l).toArray ++ rest).size = c * es := by simp [concL_length, hr]
  obtain ⟨k4, k5⟩ := sl_rest k3 hs hc hes
  have k4' : Value.slice (some ⟨w.heap.size, 0, none⟩) len c = _ := k4
  exact ⟨_, _, by rw [← k4'], k1, k5, (Ext.drew σ s w).trans k2⟩

theorem zeroCells_size (z : Array Value) (n : Nat) : (Builtin.zeroCells z n).size = n * z.size := by simp [Builtin.zeroCells]

theorem oldOk_spec {A : Arr} {j : Nat} : ∀ {n i : Nat}, oldOk A j i n = true → ∀ q, q < n → ∃ v, A.rd j (i + q) = some v := by
  intro n
  induction n with
  | zero => intro i _ q hq; omega
  | succ n ih =>
    intro i h q hq
    simp only [oldOk] at h
    split at h
    · rename_i v hv
      cases q with
      | zero => exact ⟨v, hv⟩
      | succ q =>
        obtain ⟨u, hu⟩ := ih h q (by omega)
        exact ⟨u, by rw [← hu]; congr 1; omega⟩
    · cases h

theorem rdN_ex {A : Arr} {j : Nat} : ∀ {n i : Nat}, (∀ q, q < n → ∃ v, A.rd j (i + q) = some v) → ∃ l, rdN A j i n = some l := by
  intro n
  induction n with
  | zero => intro i _; exact ⟨[], rfl⟩
  | succ n ih =>
    intro i h
    obtain ⟨v, hv⟩ := h 0 (by omega)
    obtain ⟨l, hl⟩ := ih (i := i + 1) fun q hq => by
      obtain ⟨u, hu⟩ := h (q + 1) (by omega)
      exact ⟨u, by rw [← hu]; congr 1; omega⟩
    exact ⟨v :: l, by simp only [rdN]; rw [show A.rd j i = some v from hv, hl]⟩

/-- append of cells. -/
theorem sim_app (r : Rel P σ s w) {sT xT elem type : TypeId} {u : TypeDesc} {es bytes k : Nat} {x y : AV} {new z : List AV} (hsl : P.underlying sT = some (.slice elem)) (hes : tsize P.toTables elem = some es) (hby : tbytes P.toTables elem = some bytes)
    (hz : tzeros P.toTables elem = some z) (h1 : 1 ≤ es) (hzl : z.length = es) (hu : P.underlying xT = some u) (hk : ∀ k, u ≠ .int k) (hx : In σ x) (hy : In σ y)
    (hlen : (Builtin.lenOf (conc σ y)).run P w = .ok k w) (hsrc : ∀ w', Rel P σ s w' → (Builtin.firstCells es k (conc σ y)).run P w' = .ok (concL σ new).toArray w') (hnew : InL σ new) {v : AV} {s₁ : AS} (h : appAV s es bytes k new x = some (v, s₁)) :
    ∃ σ' w', (do pure (Next.value (← Builtin.append_ #[sT, xT] type #[conc σ x, conc σ y])) : Sem Next).run P w = .ok (.value (conc σ' v)) w' ∧ Rel P σ' s₁ w' ∧ In σ' v ∧ Ext σ s w σ' s₁ w' := by
  unfold appAV at h
  split at h
  · rename_i hc
    simp only [Bool.and_eq_true, beq_eq, decide_eq_true_eq] at hc
    obtain ⟨hnl, hlf⟩ := hc
    obtain ⟨zv, z1, z2, z3⟩ := tzeros_some (w := w.drew) r.drew hz
    have zs : zv.cells.size = es := by rw [z2]; simp [concL_length, hzl]
    have d1 := hsrc _ r
    have d2 := hsrc _ r.drew
    have fit : ∀ {base : Option Addr} {len cap : Nat}, conc σ x = .slice base len cap → len + k ≤ cap → ∀ {w' : World}, (base = none ∧ w' = w ∨ ∃ a, base = some a ∧ (storeCells (a.add (len * es)) (concL σ new)).run P w = .ok () w') →
        (do pure (Next.value (← Builtin.append_ #[sT, xT] type #[conc σ x, conc σ y])) : Sem Next).run P w = .ok (.value (.slice base (len + k) cap)) w' := by
      intro base len cap hX hc w' hs
      rw [run_v, hX, app_fit (type := type) hsl hes hu hk hlen d1 hc (by simpa using hs)]; rfl
    have grow : ∀ {base : Option Addr} {len cap : Nat} {old : List AV}, conc σ x = .slice base len cap → ¬ len + k ≤ cap → sane (len + k) bytes = true → (Builtin.firstCells es len (.slice base len cap)).run P w.drew = .ok (concL σ old).toArray w.drew → InL σ old → old.length = len * es →
        ∃ c rest, len + k ≤ c ∧ (old ++ new).length + rest.size = c * es ∧
        (do pure (Next.value (← Builtin.append_ #[sT, xT] type #[conc σ x, conc σ y])) : Sem Next).run P w = .ok (.value (.slice (some ⟨w.heap.size, 0, none⟩) (len + k) c)) (w.drew.alloc (.cells ((concL σ (old ++ new)).toArray ++ rest) elem)) := by
      intro base len cap old hX hc hsn ho hio hol
      obtain ⟨c, c1, c2⟩ := app_grow (type := type) hsl hes hby hu hk hlen hc hsn ho d2 z1
      refine ⟨c, Builtin.zeroCells zv.cells (c - (len + k)), c1, ?_, ?_⟩
      · rw [zeroCells_size, zs, List.length_append, hol, hnl, ← Nat.add_mul, ← Nat.add_mul]
        congr 1; omega
      · rw [run_v, hX, c2]
        have : (concL σ (old ++ new)).toArray = (concL σ old).toArray ++ (concL σ new).toArray := by simp [concL_eq]
        rw [this]; rfl
    unfold appTo at h
    split at h
    · -- nil
      rw [beq_eq] at h
      split at h
      · rename_i hk0
        simp at hk0; subst hk0
        cases h
        refine ⟨σ, w, ?_, r, trivial, .refl _ _ _⟩
        rw [fit (base := none) (len := 0) (cap := 0) rfl (Nat.le_refl _) (.inl ⟨rfl, rfl⟩)]; rfl
      · rename_i hk0
        simp at hk0
        split at h
        · rename_i hc
          simp only [Bool.and_eq_true] at hc
          cases h
          obtain ⟨c, rest, c1, c2, c3⟩ := grow (base := none) (len := 0) (cap := 0) (old := []) rfl (by omega) (by simpa using hc.1) (by simp [Builtin.firstCells, concL]) trivial (by simp)
          simp only [Nat.zero_add, List.nil_append] at c1 c2 c3
          rw [c3]
          exact fresh_sound r hnew hnl h1 c1 c2 rfl
        · cases h
    · -- a known capacity
      rename_i a j off len c
      split at h
      · cases h
      · rename_i hc
        simp only [Bool.and_eq_true] at hc
        simp only [In] at hx
        rw [ble_eq] at h
        split at h
        · rename_i hle
          simp at hle
          split at h
          · rename_i s' hs'
            cases h
            obtain ⟨w', q1, q2, q3⟩ := r.wrN (k := 0) (i₀ := off + len * es) hx.1 (by omega) hnew hs'
            refine ⟨σ, w', ?_, q2, by simp only [In]; exact ⟨hx.1, hx.2.1, hle⟩, q3⟩
            rw [fit (base := some (σ.adr a j off)) (len := len) (cap := c) rfl hle (.inr ⟨_, rfl, by rw [adr_add hx.2.1]; exact q1⟩)]
            simp [conc, Sg.cap]
          · cases h
        · rename_i hle
          simp at hle
          split at h
          · rename_i old hold
            cases h
            obtain ⟨q1, q2, q3⟩ := r.drew.rdN hx.1 hx.2.1 hold
            obtain ⟨c', rest, c1, c2, c3⟩ := grow (base := some (σ.adr a j off)) (len := len) (cap := c) (old := old) rfl (by omega) hc.1 (by simp only [Builtin.firstCells]; exact q1) q2 q3
            rw [c3]
            exact fresh_sound r ((InL_iff σ _).2 fun v hv => (List.mem_append.1 hv).elim ((InL_iff σ _).1 q2 v) ((InL_iff σ _).1 hnew v)) (by rw [List.length_append, q3, hnl, Nat.add_mul]) h1 c1 c2 rfl
          · cases h
    · -- a capacity that is what is left
      rename_i a j off len es'
      have hx' := hx
      simp only [In] at hx
      obtain ⟨hj, hsh, hen, hes1⟩ := hx
      have hcapd : ∀ q, q ≤ ((σ.vi a j).en - off) / es' ↔ q * es' ≤ (σ.vi a j).en - off := fun q => Nat.le_div_iff_mul_le (by omega)
      have hX : conc σ (.sl a j off len (.rest es')) = .slice (some (σ.adr a j off)) len (((σ.vi a j).en - off) / es') := rfl
      rw [beq_eq] at h
      split at h
      · rename_i hk0
        simp at hk0; subst hk0
        obtain rfl : new = [] := List.eq_nil_of_length_eq_zero (by simpa using hnl)
        cases h
        refine ⟨σ, w, ?_, r, hx', .refl _ _ _⟩
        rw [fit hX (by rw [Nat.add_zero, hcapd]; omega) (w' := w) (.inr ⟨_, rfl, by simp [concL, storeCells]⟩)]
        rfl
      · rename_i hk0
        simp at hk0
        split at h
        · cases h
        · rename_i hc
          simp only [Bool.and_eq_true, beq_eq, decide_eq_true_eq] at hc
          obtain ⟨hee, hsn, _⟩ := hc
          subst hee
          split at h
          · cases h
          · rename_i A hA
            split at h
            · cases h
            · rename_i hc
              simp only [Bool.and_eq_true, Bool.or_eq_true, beq_eq, ble_eq, decide_eq_true_eq] at hc
              obtain ⟨hold, hlo, hn⟩ := hc
              cases h
              obtain ⟨A₀, cs, E', fz, a1, a2, a3, a4, a5, a6⟩ := r.at hj
              rw [hA] at a1; cases a1
              have hrd : ∀ i m v, off ≤ i → i < off + len * es → A.get i = some (m, v) → A.rd j i = some v := by
                intro i m v h1 h2 h3
                rcases hold with h4 | h4
                · obtain ⟨m', v', q1, q2⟩ := a2.full i (by omega) (by omega)
                  rw [h3] at q1; cases q1
                  simp [Arr.rd, h3, ble_eq, h4, q2]
                · obtain ⟨u, hu⟩ := oldOk_spec h4 (i - off) (by omega)
                  rw [show off + (i - off) = i from by omega] at hu
                  simp only [Arr.rd, h3] at hu ⊢
                  split at hu
                  · rename_i hb; simp [hb]
                  · cases hu
              have hlen : (σ.ar a).length = A.ver + 1 := a2.len
              have hmul : (len + k) * es = len * es + k * es := Nat.add_mul ..
              by_cases hle : len + k ≤ ((σ.vi a j).en - off) / es
              · have hle' := (hcapd _).1 hle
                obtain ⟨w', cs', b1, b2, b3, b4, b5, b6, b7, b8, b9⟩ := storeRow_run (P := P) (b := (σ.vi a j).blk) (o₀ := off + len * es - (σ.vi a j).sh) (concL σ new) 0 w cs a3 a5 (by rw [concL_length, hnl]; omega) (leaf_cells r hlf)
                have hB := r.bump (a := a) (j := j) (off := off) (N := off + len * es) (new := new) hj hA hlo (by omega) hn hnew (vi := σ.vi a j) (w' := w') (cs := cs') (E' := E') (fz := fz) b2 (by rw [b3]; exact a4) (by rw [b3]; exact a5) ?_ ?_ (.inr ⟨rfl, ?_⟩) (fun c _ hc => b5 c hc) (by omega) b7 b8 b9
                · obtain ⟨k1, k2, k3⟩ := hB
                  have hvi : (σ.addA a (σ.vi a j)).vi a (A.ver + 1) = σ.vi a j := by
                    have e : ((σ.addA a (σ.vi a j)).ar a)[A.ver + 1]? = some (σ.vi a j) := by rw [k3, ← hlen]; simp
                    show (((σ.addA a (σ.vi a j)).ar a)[A.ver + 1]?).getD ⟨0, 0, 0⟩ = σ.vi a j
                    rw [e]; rfl
                  refine ⟨_, w', ?_, k1, ?_, k2⟩
                  · rw [fit hX hle (.inr ⟨_, rfl, by rw [adr_add hsh]; exact b1⟩)]
                    simp only [conc, Sg.adr, Sg.cap, hvi]
                  · simp only [In, hvi, k3]
                    refine ⟨by simp [hlen], hsh, by omega, h1⟩
                · intro i m v h1 h2 h3
                  obtain ⟨q1, q2⟩ := a6 i v (hrd i m v h1 h2 h3)
                  exact ⟨q1, by rw [b4, if_neg (by omega)]; exact q2⟩
                · intro i v hv
                  have hlt : i < new.length := by
                    rcases Nat.lt_or_ge i new.length with h | h
                    · exact h
                    · rw [List.getElem?_eq_none h] at hv; cases hv
                  refine ⟨by omega, ?_⟩
                  rw [b4, if_pos (by rw [concL_length]; omega), show off + len * es + i - (σ.vi a j).sh - (off + len * es - (σ.vi a j).sh + 0) = i from by omega, concL_eq, List.getElem?_map, hv]
                  rfl
                · intro cs₀ E₀ fz₀ h0
                  rw [a3] at h0; cases h0
                  exact ⟨b3.symm, fun i h1 h2 => by rw [b4, if_neg (by omega)]⟩
              · obtain ⟨old, hold'⟩ := rdN_ex (A := A) (j := j) (i := off) (n := len * es) (fun q hq => by
                  obtain ⟨m, v, q1, _⟩ := a2.full (off + q) (by omega) (by omega)
                  exact ⟨v, hrd _ m v (by omega) (by omega) q1⟩)
                have hold2 : s.rdN a j off (len * es) = some old := by simp only [AS.rdN, hA]; exact hold'
                obtain ⟨q1, q2, q3⟩ := r.drew.rdN hj hsh hold2
                obtain ⟨_, q4⟩ := Ab.rdN_spec hold'
                obtain ⟨c, rest, c1, c2, c3⟩ := grow hX hle hsn (by simp only [Builtin.firstCells]; exact q1) q2 q3
                have hsz : ((concL σ (old ++ new)).toArray ++ rest).size = c * es := by simp [concL_length]; simpa using c2
                have hck : (len + k) * es ≤ c * es := Nat.mul_le_mul_right _ c1
                have hB := r.drew.bump (a := a) (j := j) (off := off) (N := off + len * es) (new := new) hj hA hlo (by omega) hn hnew (vi := ⟨w.heap.size, off, off + c * es⟩)
                  (w' := w.drew.alloc (.cells ((concL σ (old ++ new)).toArray ++ rest) elem)) (cs := (concL σ (old ++ new)).toArray ++ rest) (E' := elem) (fz := (0, 0)) (heap_alloc_new w.drew _) (by rw [hsz]) (.inl rfl) ?_ ?_ (.inl rfl)
                  (fun b hb _ => heap_alloc w.drew _ hb) (by simp [World.alloc]) rfl rfl rfl
                · obtain ⟨k1, k2, k3⟩ := hB
                  have hvi : (σ.addA a ⟨w.heap.size, off, off + c * es⟩).vi a (A.ver + 1) = ⟨w.heap.size, off, off + c * es⟩ := by simp [Sg.vi, k3, ← hlen]
                  refine ⟨_, _, ?_, k1, ?_, (Ext.drew σ s w).trans k2⟩
                  · rw [c3]
                    simp only [conc, Sg.adr, Sg.cap, hvi, Nat.sub_self, Nat.add_sub_cancel_left]
                    rw [Nat.mul_div_cancel _ (by omega)]
                  · simp only [In, hvi, k3]
                    refine ⟨by simp [hlen], Nat.le_refl _, by omega, h1⟩
                · intro i m v h1 h2 h3
                  refine ⟨h1, ?_⟩
                  have h4 := hrd i m v h1 h2 h3
                  have h5 := q4 (i - off) (by omega)
                  rw [show off + (i - off) = i from by omega, h4] at h5
                  have hlt : i - off < (old ++ new).length := by rw [List.length_append, q3]; omega
                  simp only
                  rw [Array.getElem?_append_left (by simpa [concL_length] using hlt)]
                  rw [List.getElem?_toArray, concL_eq, List.getElem?_map, List.getElem?_append_left (by omega), ← h5]
                  rfl
                · intro i v hv
                  have hlt : i < new.length := by
                    rcases Nat.lt_or_ge i new.length with h | h
                    · exact h
                    · rw [List.getElem?_eq_none h] at hv; cases hv
                  refine ⟨by simp only; omega, ?_⟩
                  simp only
                  rw [Array.getElem?_append_left (by simp [concL_length, q3]; omega)]
                  rw [List.getElem?_toArray, concL_eq, List.getElem?_map, List.getElem?_append_right (by omega), q3, show off + len * es + i - off - len * es = i from by omega, hv]
                  rfl
    · cases h
  · cases h

end
end Go.Ab
