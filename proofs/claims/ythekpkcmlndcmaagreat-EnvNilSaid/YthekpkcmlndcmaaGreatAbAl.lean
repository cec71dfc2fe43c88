/- Soundness of the abstract evaluator: operations that make memory. -/
import Derived.Test.YthekpkcmlndcmaaGreatAbD3
import Derived.Test.YthekpkcmlndcmaaGreatAbO3
noncomputable section
namespace Go.Ab

theorem rowOf_full (l : List AV) : ∀ i, (rowOf l).lo ≤ i → i < (rowOf l).n → ∃ m v, (rowOf l).get i = some (m, v) ∧ m ≤ (rowOf l).ver := by
  intro i _ hi
  simp only [rowOf] at hi
  refine ⟨0, l[i], ?_, Nat.le_refl _⟩
  simp [Arr.get, rowOf, ltb_eq, ble_eq, setAll_get, hi]

theorem rowZ_full (n : Nat) (z : List AV) (h : n = 0 ∨ z ≠ []) : ∀ i, (rowZ n z).lo ≤ i → i < (rowZ n z).n → ∃ m v, (rowZ n z).get i = some (m, v) ∧ m ≤ (rowZ n z).ver := by
  intro i _ hi
  simp only [rowZ] at hi
  have hz : z ≠ [] := by
    rcases h with h | h
    · omega
    · exact h
  cases z with
  | nil => exact absurd rfl hz
  | cons x l =>
    have hlt : i % (x :: l).length < (x :: l).length := Nat.mod_lt _ (by simp)
    refine ⟨0, (x :: l)[i % (x :: l).length], ?_, Nat.le_refl _⟩
    simp only [Arr.get, rowZ, ltb_eq, ble_eq, hi, decide_true, Nat.zero_le, Bool.and_self, Tr.get_e, nth_eq]
    rw [List.getElem?_eq_getElem hlt]

theorem rowZ_none (z : List AV) (j i : Nat) : (rowZ 0 z).rd j i = none := by
  simp [Arr.rd, Arr.get, rowZ, ltb_eq]

section
variable {P : Program} {E : Env} {σ : Sg} {s s₁ t : AS} {w : World} {T : Tr AV} {ρ : Operand → Value}

/-- A row that is what it is made of. -/
theorem allocRow (E' : TypeId) {l : List AV} (hin : InL σ l) {v : AV} {V : Value} {res : Result Next} (hr : res = .ok (.value V) (w.alloc (.cells (concL σ l).toArray E')))
    (hV : ∀ τ : Sg, τ.ar s.na = [⟨w.heap.size, 0, (concL σ l).toArray.size⟩] → V = conc τ v ∧ In τ v) :
    AllocRes P σ w s v { s with arrs := s.arrs.set s.na (rowOf l), na := s.na + 1 } res := by
  refine .arr (rowOf l) (concL σ l).toArray E' (0, 0) w V rfl (.inl rfl) hr rfl (rowOf_full l) ?_ (.inl rfl) ?_ hV
  · intro j i v hv
    rw [rowOf_rd] at hv
    exact (InL_iff σ l).1 hin v (List.mem_of_getElem? hv)
  · intro i v hv
    rw [rowOf_rd] at hv
    simp [concL_eq, hv]

theorem vi_of {τ : Sg} {a : Nat} {vi : VI} (h : τ.ar a = [vi]) : τ.vi a 0 = vi := by simp [Sg.vi, h]
theorem ptr_new {τ : Sg} {a b n : Nat} (h : τ.ar a = [⟨b, 0, n⟩]) : Value.pointer (some ⟨b, 0, none⟩) = conc τ (.ptr a 0 0) ∧ In τ (.ptr a 0 0) := by
  simp [conc, Sg.adr, vi_of h, In, h]
theorem sl_new {τ : Sg} {a b n len c : Nat} (h : τ.ar a = [⟨b, 0, n⟩]) (hc : len ≤ c) : Value.slice (some ⟨b, 0, none⟩) len c = conc τ (.sl a 0 0 len (.known c)) ∧ In τ (.sl a 0 0 len (.known c)) := by
  simp [conc, Sg.adr, Sg.cap, vi_of h, In, h, hc]
theorem sl_rest {τ : Sg} {a b n len es c : Nat} (h : τ.ar a = [⟨b, 0, n⟩]) (hn : n = c * es) (hc : len ≤ c) (he : 1 ≤ es) : Value.slice (some ⟨b, 0, none⟩) len c = conc τ (.sl a 0 0 len (.rest es)) ∧ In τ (.sl a 0 0 len (.rest es)) := by
  have hm : len * es ≤ c * es := Nat.mul_le_mul_right _ hc
  simp only [conc, Sg.adr, Sg.cap, vi_of h, In, h, hn, Nat.sub_zero]
  rw [Nat.mul_div_cancel _ (by omega)]
  exact ⟨rfl, by simp, by simp, by omega, he⟩

theorem tzero_some {t : TypeId} {a : AV} (h : tzero P.toTables t = some a) : ∃ z, (zeroValue t).run P w = .ok z w ∧ ofV z = some a := by
  unfold tzero at h
  cases hi : P.info? t with
  | none => simp [hi] at h
  | some i =>
    simp [hi] at h
    cases hz : i.zero with
    | none => simp [hz] at h
    | some z =>
      simp [hz] at h
      exact ⟨z, by simp [zeroValue, run_tinfo hi, hz], h⟩

theorem tzeros_some {t : TypeId} {l : List AV} (r : Rel P σ s w) (h : tzeros P.toTables t = some l) : ∃ z, (zeroValue t).run P w = .ok z w ∧ z.cells = (concL σ l).toArray ∧ InL σ l := by
  obtain ⟨a, h1, h2⟩ := map_some h
  obtain ⟨z, h3, h4⟩ := tzero_some (w := w) h1
  obtain ⟨h5, h6⟩ := ofV_conc (σ := σ) h4
  subst h2
  exact ⟨z, h3, by rw [← h5, conc_cells r], In_cells h6⟩

theorem al_alloc (r : Rel P σ t w) {e : TypeId} {zs : List AV} (hz : tzeros P.toTables e = some zs) {v : AV} {E : Env} {cl : Oracle} (h : evOp E cl (.alloc zs) T s = some (v, s₁)) :
    AllocRes P σ w s v s₁ ((do pure (Next.value (← Instr.alloc e true (.tuple #[]))) : Sem Next).run P w) := by
  simp only [evOp, AS.newZ] at h; cases h
  obtain ⟨z, h1, h2, h3⟩ := tzeros_some r hz
  refine .arr (rowZ zs.length zs) (concL σ zs).toArray e (0, 0) w _ rfl (.inl rfl) ?_ rfl (rowZ_full _ _ ?_) ?_ (.inl rfl) ?_ fun τ hτ => ptr_new hτ
  · simp [Instr.alloc, h1, newVar, newRow, h2]
  · cases zs with
    | nil => exact .inl rfl
    | cons x l => exact .inr (by simp)
  · intro j i v hv
    cases zs with
    | nil => rw [List.length_nil, rowZ_none] at hv; cases hv
    | cons x l =>
      rw [rowZ_rd _ _ _ _ (by simp)] at hv
      split at hv
      · exact (InL_iff σ _).1 h3 v (List.mem_of_getElem? hv)
      · cases hv
  · intro i v hv
    cases zs with
    | nil => rw [List.length_nil, rowZ_none] at hv; cases hv
    | cons x l =>
      rw [rowZ_rd _ _ _ _ (by simp)] at hv
      split at hv
      · rename_i hi
        rw [Nat.mod_eq_of_lt hi] at hv
        rw [concL_eq, List.getElem?_toArray, List.getElem?_map, hv]; rfl
      · cases hv

theorem al_box (r : Rel P σ t w) (ev : REv σ T ρ) {e : TypeId} {x : Operand} {x' : EO} (hx : cEO x = some x') {v : AV} {E : Env} {cl : Oracle} (h : evOp E cl (.box x') T s = some (v, s₁)) :
    AllocRes P σ w s v s₁ ((do pure (Next.value (← Instr.box e (ρ x))) : Sem Next).run P w) := by
  simp only [evOp, AS.new] at h; cases h
  obtain ⟨h1, h2⟩ := ev _ _ hx
  refine allocRow e (In_cells h2) ?_ fun τ hτ => ptr_new hτ
  simp [Instr.box, newVar, newRow, h1, conc_cells r]

theorem repL_eq (n : Nat) (z : List AV) : ∀ i, (repL n z)[i]? = if i < n * z.length then z[i % z.length]? else none := by
  induction n with
  | zero => intro i; simp [repL]
  | succ n ih =>
    intro i
    simp only [repL]
    by_cases h : i < z.length
    · rw [List.getElem?_append_left h, if_pos, Nat.mod_eq_of_lt h]
      rw [Nat.succ_mul]; omega
    · rw [List.getElem?_append_right (by omega), ih]
      have e : (i - z.length) % z.length = i % z.length := by
        conv => rhs; rw [show i = (i - z.length) + z.length from by omega]
        rw [Nat.add_mod_right]
      rw [e, Nat.succ_mul]
      by_cases h2 : i - z.length < n * z.length
      · rw [if_pos h2, if_pos (by omega)]
      · rw [if_neg h2, if_neg (by omega)]

theorem repL_in {n : Nat} {z : List AV} (h : InL σ z) : InL σ (repL n z) := by
  induction n with
  | zero => trivial
  | succ n ih =>
    rw [InL_iff] at *
    intro v hv
    rcases List.mem_append.1 hv with hv | hv
    · exact h v hv
    · exact ih v hv

theorem rep_conc (n : Nat) (z : List AV) (hz : z ≠ []) : ((Array.range (n * z.length)).map fun i => (concL σ z).toArray[i % (concL σ z).toArray.size]!) = (concL σ (repL n z)).toArray := by
  apply Array.ext_getElem?
  intro i
  simp only [Array.getElem?_map, List.getElem?_toArray, concL_eq, List.getElem?_map, repL_eq, List.size_toArray, List.length_map]
  by_cases h : i < n * z.length
  · have hlt : i % z.length < z.length := Nat.mod_lt _ (by cases z with | nil => exact absurd rfl hz | cons x l => simp)
    rw [if_pos h, List.getElem?_eq_getElem hlt]
    simp [Array.getElem?_range, h, hlt]
  · rw [if_neg h]
    simp [Array.getElem?_range, h]

theorem al_buildSl (r : Rel P σ t w) (ev : REv σ T ρ) {ty e : TypeId} {n len : Nat} {z : List AV} {parts : Array (Nat × Operand)} {ps : List (Nat × Nat × EO)} (ht : P.underlying ty = some (.slice e)) (hn : tsize P.toTables e = some n) (hz : tzeros P.toTables e = some z)
    (h1 : 1 ≤ n) (h2 : z.length = n) (h3 : len * n ≤ 65536) (hp : cPlaces P (fun i => some (i * n, n)) parts.toList = some ps) {v : AV} {E : Env} {cl : Oracle} (h : evOp E cl (.buildSl n len (repL len z) ps) T s = some (v, s₁)) :
    AllocRes P σ w s v s₁ ((do pure (Next.value (← Instr.buildSlice ty len (parts.map fun (i, x) => (i, ρ x)))) : Sem Next).run P w) := by
  simp only [evOp] at h
  split at h
  · rename_i l hl
    simp only [AS.new] at h; cases h
    obtain ⟨zv, k1, k2, k3⟩ := tzeros_some r hz
    have hzne : z ≠ [] := by rintro rfl; simp at h2; omega
    obtain ⟨f1, f2⟩ := fill_run r ev hp (repL_in k3) hl
    refine allocRow e f2 ?_ fun τ hτ => sl_new hτ (Nat.le_refl _)
    have hbig : ¬ len * n > 2 ^ 24 := by omega
    have hrow : ∀ zero : Array Value, (len * n = 0 ∨ zero = (concL σ z).toArray) → ((Array.range (len * n)).map (zero[· % zero.size]!)) = (concL σ (repL len z)).toArray := by
      intro zero hzero
      rcases hzero with h0 | h0
      · have hl0 : len = 0 := by
          rcases Nat.mul_eq_zero.1 h0 with h | h
          · exact h
          · omega
        subst hl0; simp [repL, concL]
      · subst h0
        rw [← h2]; exact rep_conc len z hzne
    have f1' : Instr.fill (fun i => some (i * n, n)) (concL σ (repL len z)).toArray (parts.map fun (i, x) => (i, ρ x)).toList = some (concL σ l).toArray := by
      rw [Array.toList_map]; exact f1
    simp only [Instr.buildSlice, Sem.run_bind, run_und ht, Result.andThen_ok, run_size hn, if_neg hbig]
    by_cases h0 : len * n = 0
    · simp only [h0, if_true, Sem.run_pure, Result.andThen_ok, pure_bind]
      have := hrow #[] (.inl h0)
      rw [h0] at this
      simp only [this, f1']
      simp [newRow]
    · simp only [h0, if_false, Sem.run_bind, k1, Result.andThen_ok, Sem.run_pure]
      have := hrow zv.cells (.inr k2)
      simp only [this, f1']
      simp [newRow]
  · cases h

theorem al_mkMap {ty : TypeId} {v : AV} {E : Env} {cl : Oracle} (h : evOp E cl .mkMap T s = some (v, s₁)) :
    AllocRes P σ w s v s₁ ((do pure (Next.value (← Instr.makeMap ty none)) : Sem Next).run P w) := by
  simp only [evOp] at h; cases h
  exact .map rfl rfl (by simp [Instr.makeMap])

theorem sane_spec {n b : Nat} (h : sane n b = true) : n * (b + 1) ≤ 1099511627776 := by
  simpa [sane, ble_eq] using h

theorem run_asInt {x : AV} {n : Nat} (h : natOf x = some n) : (asInt (conc σ x)).run P w = .ok (n : Int) w := by
  obtain ⟨k, hk⟩ := natOf_conc (σ := σ) h
  simp [asInt, asIntOf, hk]

theorem al_mkSl (r : Rel P σ t w) (ev : REv σ T ρ) {ty e : TypeId} {es bytes : Nat} {z : List AV} {l c : Operand} {l' c' : EO} (ht : P.underlying ty = some (.slice e)) (hn : tsize P.toTables e = some es) (hb : tbytes P.toTables e = some bytes) (hz : tzeros P.toTables e = some z)
    (h1 : 1 ≤ es) (h2 : z.length = es) (hl : cEO l = some l') (hc : cEO c = some c') {v : AV} {E : Env} {cl : Oracle} (h : evOp E cl (.mkSl es bytes z l' c') T s = some (v, s₁)) :
    AllocRes P σ w s v s₁ ((do pure (Next.value (← Instr.makeSlice ty (ρ l) (ρ c))) : Sem Next).run P w) := by
  simp only [evOp] at h
  split at h
  · cases h
  · rename_i ln hln
    split at h
    · cases h
    · rename_i cn hcn
      split at h
      · rename_i hcond
        simp only [AS.newZ] at h; cases h
        simp only [Bool.and_eq_true, ble_eq, decide_eq_true_eq] at hcond
        have hs := sane_spec hcond.2
        obtain ⟨i, hi1, hi2⟩ := tbytes_some hb
        obtain ⟨zv, k1, k2, k3⟩ := tzeros_some r hz
        have hzne : z ≠ [] := by rintro rfl; simp at h2; omega
        have hcb : cn ≤ 1099511627776 ∧ bytes * cn ≤ 1099511627776 := by
          rw [Nat.mul_add, Nat.mul_one] at hs
          rw [Nat.mul_comm]; omega
        have w1 : IntKind.i64.wrap (ln : Int) = (ln : Int) := wrap64_id (by omega) (by omega)
        have w2 : IntKind.i64.wrap (cn : Int) = (cn : Int) := wrap64_id (by omega) (by omega)
        have hrun : (Instr.makeSlice ty (ρ l) (ρ c)).run P w = .ok (.slice (some ⟨w.heap.size, 0, none⟩) ln cn) (w.alloc (.cells (concL σ (repL cn z)).toArray e)) := by
          have hno : ¬ (((decide ((cn : Int) < 0) || decide ((bytes : Int) * (cn : Int) > 2 ^ 48)) || decide ((ln : Int) < 0) || decide ((ln : Int) > (cn : Int))) = true) := by
            have e1 : ((bytes : Int) * (cn : Int)) = ((bytes * cn : Nat) : Int) := by simp
            simp only [e1, Bool.or_eq_true, decide_eq_true_eq, not_or]
            omega
          have hrow : ∀ zero : Array Value, (cn * es = 0 ∨ zero = (concL σ z).toArray) → ((Array.range (cn * es)).map (zero[· % zero.size]!)) = (concL σ (repL cn z)).toArray := by
            intro zero hzero
            rcases hzero with h0 | h0
            · have hl0 : cn = 0 := by
                rcases Nat.mul_eq_zero.1 h0 with h | h
                · exact h
                · omega
              subst hl0; simp [repL, concL]
            · subst h0; rw [← h2]; exact rep_conc cn z hzne
          simp only [Instr.makeSlice, Sem.run_bind, run_und ht, Result.andThen_ok, (ev _ _ hl).1, (ev _ _ hc).1, run_asInt hln, run_asInt hcn, run_tinfo hi1, hi2, w1, w2]
          rw [if_neg hno]
          simp only [Sem.run_bind, run_askRoom, Result.andThen_ok, run_size hn, Int.toNat_natCast]
          by_cases h0 : cn * es = 0
          · simp only [h0, if_true, Sem.run_pure, Result.andThen_ok, pure_bind]
            have := hrow #[] (.inl h0)
            rw [h0] at this
            simp only [this]
            simp [newRow]
          · simp only [h0, if_false, Sem.run_bind, k1, Result.andThen_ok, Sem.run_pure]
            have := hrow zv.cells (.inr k2)
            simp only [this]
            simp [newRow]
        refine .arr (rowZ (cn * es) z) (concL σ (repL cn z)).toArray e (0, 0) w _ rfl (.inl rfl) (by simp only [Sem.run_bind, hrun, Result.andThen_ok, Sem.run_pure]) rfl (rowZ_full _ _ (.inr hzne)) ?_ (.inl rfl) ?_ fun τ hτ => sl_new hτ hcond.1
        · intro j i v hv
          rw [rowZ_rd _ _ _ _ hzne] at hv
          split at hv
          · exact (InL_iff σ _).1 k3 v (List.mem_of_getElem? hv)
          · cases hv
        · intro i v hv
          rw [rowZ_rd _ _ _ _ hzne] at hv
          split at hv
          · rename_i hlt
            rw [concL_eq, List.getElem?_toArray, List.getElem?_map, repL_eq, h2, if_pos hlt, ← h2, hv]; rfl
          · cases hv
      · cases h

theorem freeze_new (w : World) (cs : Array Value) (e : TypeId) : (w.alloc (.cells cs e)).freeze ⟨w.heap.size, cs.size, none⟩ 1 = w.alloc (.cells cs e (cs.size, cs.size + 1)) := by
  simp only [World.freeze, World.alloc]
  rw [if_neg (by decide)]
  congr 1
  apply Array.ext_getElem?
  intro i
  rw [Array.getElem?_modify]
  by_cases h : w.heap.size = i
  · subst h; simp
  · rw [if_neg h, Array.getElem?_push, Array.getElem?_push]
    have h' : ¬ i = w.heap.size := fun e => h e.symm
    rw [if_neg h', if_neg h']

theorem al_cvSB (r : Rel P σ t w) (ev : REv σ T ρ) {a d e : TypeId} (ha : P.underlying a = some .string) (hd : P.underlying d = some (.slice e)) (hu : P.underlying e = some (.int .u8)) {x : Operand} {x' : EO} (hx : cEO x = some x') {v : AV} {E : Env} {cl : Oracle}
    (h : evOp E cl (.cvSB x') T s = some (v, s₁)) : AllocRes P σ w s v s₁ ((do pure (Next.value (← convert a d (ρ x))) : Sem Next).run P w) := by
  simp only [evOp] at h
  split at h
  · rename_i b hb
    simp only [freshSl, AS.new] at h; cases h
    have hρ : ρ x = .string b := by rw [(ev _ _ hx).1, hb]; rfl
    have hlist : b.toList = b.data.toList := ByteArray.toList_eq b
    obtain ⟨c, hc⟩ : ∃ c, c = (Question.appendCap b.size 0 e).cut (w.tape w.drawn (.appendCap b.size 0 e)) := ⟨_, rfl⟩
    have hcb : b.size ≤ c := by rw [hc]; simp [Question.cut]
    have hrun : (convert a d (ρ x)).run P w = .ok (.slice (some ⟨w.heap.size, 0, none⟩) b.size c)
        (w.drew.alloc (.cells (b.data.map (fun (b : UInt8) => Value.int .u8 (b.toNat : Int)) ++ Array.replicate (c - b.size) (Value.int .u8 0)) e
          ((b.data.map (fun (b : UInt8) => Value.int .u8 (b.toNat : Int)) ++ Array.replicate (c - b.size) (Value.int .u8 0)).size, (b.data.map (fun (b : UInt8) => Value.int .u8 (b.toNat : Int)) ++ Array.replicate (c - b.size) (Value.int .u8 0)).size + 1))) := by
      rw [hρ]
      simp only [convert, Sem.run_bind, run_und ha, run_und hd, run_und hu, Result.andThen_ok, Conv.stringToBytes, run_choose, Question.forced, Bool.false_eq_true, if_false, newRow, run_newObj, markStringish, Sem.run_pure, run_shape, ← hc]
      have hsh : ∀ cs : Array Value, ({ w with heap := w.heap.push (.cells cs e), drawn := w.drawn + 1 } : World).shape? w.heap.size = some (e, cs.size) := by
        intro cs; simp [World.shape?]
      simp only [hsh, run_freeze, Result.andThen_ok, Sem.run_bind, Sem.run_pure]
      rw [← freeze_new w.drew]
      rfl
    refine .arr (rowOf (b.toList.map fun c => .int .u8 (c.toNat : Int))) _ e _ w.drew _ rfl (.inr rfl) (by simp only [Sem.run_bind, hrun, Result.andThen_ok, Sem.run_pure]; rfl) rfl (rowOf_full _) ?_ (.inr (Nat.le_refl _)) ?_ fun τ hτ => sl_rest hτ (c := c) ?_ hcb (Nat.le_refl _)
    · intro j i v hv
      rw [rowOf_rd, List.getElem?_map] at hv
      cases hg : b.toList[i]? with
      | none => simp [hg] at hv
      | some u => simp [hg] at hv; subst hv; trivial
    · intro i v hv
      rw [rowOf_rd, List.getElem?_map, hlist] at hv
      cases hg : b.data.toList[i]? with
      | none => simp [hg] at hv
      | some u =>
        simp [hg] at hv; subst hv
        have hlt : i < b.data.size := by
          rcases Nat.lt_or_ge i b.data.size with h | h
          · exact h
          · rw [List.getElem?_eq_none (by simpa using h)] at hg; cases hg
        rw [Array.getElem?_append_left (by simpa using hlt)]
        rw [Array.getElem?_toList] at hg
        simp [hg, conc]
    · have : b.data.size = b.size := rfl
      simp [this]; omega
  · cases h

end
end Go.Ab
