/- Soundness of the abstract evaluator: == and != of whatever kind. -/
import Derived.Test.YthekpkcmlndcmaaGreatAbAl
noncomputable section
namespace Go.Ab
section
variable {P : Program} {E : Env} {σ : Sg} {s : AS} {w : World}

theorem eqFlat_app {k₁ k₂ : List LK} : ∀ {l m : List AV} {b : Bool}, k₁.length ≤ l.length → k₁.length ≤ m.length → eqFlat E (k₁ ++ k₂) l m = some b →
    ∃ c, eqFlat E k₁ (l.take k₁.length) (m.take k₁.length) = some c ∧ (c = false → b = false) ∧ (c = true → eqFlat E k₂ (l.drop k₁.length) (m.drop k₁.length) = some b) := by
  induction k₁ with
  | nil => intro l m b _ _ h; exact ⟨true, rfl, by simp, fun _ => h⟩
  | cons k ks ih =>
    intro l m b hl hm h
    cases l with
    | nil => simp at hl
    | cons x l => cases m with
      | nil => simp at hm
      | cons y m =>
        simp only [List.cons_append, eqFlat] at h
        simp only [List.length_cons, List.take_succ_cons, List.drop_succ_cons, eqFlat]
        split at h
        · rename_i he
          obtain ⟨c, h1, h2, h3⟩ := ih (by simpa using hl) (by simpa using hm) h
          exact ⟨c, h1, h2, h3⟩
        · rename_i he
          cases h
          exact ⟨false, rfl, fun _ => rfl, by simp⟩
        · cases h

/-- A flat value: its cells under a type. -/
def flatVal (P : Program) (σ : Sg) (t : TypeId) (l : List AV) (X : Value) : Prop :=
  (tagg P t = some true ∧ X = .agg (concL σ l).toArray) ∨ (tagg P t = some false ∧ ∃ x, l = [x] ∧ X = conc σ x)

/-- Values of a type, held against one another cell by cell. -/
def EqT (P : Program) (E : Env) (σ : Sg) (d : Nat) (t : TypeId) (ks : List LK) : Prop :=
  ∀ (w : World) (l m : List AV) (b : Bool) (X Y : Value), InL σ l → InL σ m → l.length = ks.length → m.length = ks.length → eqFlat E ks l m = some b → flatVal P σ t l X → flatVal P σ t m Y →
    (Op.equalIn d t X Y).run P w = .ok b w

theorem part_flat {t : TypeId} {g : Bool} {n off : Nat} {l : List AV} (hg : tagg P t = some g) (hn : tsize P.toTables t = some n) (h1 : g = true ∨ n = 1) (hin : InL σ l) (hl : off + n ≤ l.length) :
    ∃ X, (part t (concL σ l).toArray off).run P w = .ok X w ∧ flatVal P σ t ((l.drop off).take n) X := by
  cases g with
  | true =>
    have h : partOf true off n l = some (.agg ((l.drop off).take n)) := by simp [partOf, ble_eq, hl, takeN_eq, dropN_eq]
    exact ⟨_, (part_run hg hn hin h).1, .inl ⟨hg, by simp [conc]⟩⟩
  | false =>
    obtain rfl : n = 1 := by rcases h1 with h | h; cases h; exact h
    have hlt : off < l.length := by omega
    have h : partOf false off 1 l = some l[off] := by simp [partOf, nth_eq, hlt]
    refine ⟨_, (part_run hg hn hin h).1, .inr ⟨hg, _, ?_, rfl⟩⟩
    rw [List.drop_eq_getElem_cons hlt]; rfl

theorem InL_sub {l l' : List AV} (h : InL σ l) (hs : ∀ x, x ∈ l' → x ∈ l) : InL σ l' := by
  rw [InL_iff] at *; exact fun v hv => h v (hs v hv)

theorem fields_flat {dd : Nat} {f : TypeId → Option (List LK)} (hf : ∀ t ks, f t = some ks → EqT P E σ dd t ks) {l m : List AV} (hl : InL σ l) (hm : InL σ m) : ∀ (fs : List Field) (k : Nat) (ks : List LK) (b : Bool) (w : World),
    flat.flatFs P f fs k = some ks → l.length = k + ks.length → m.length = k + ks.length → eqFlat E ks (l.drop k) (m.drop k) = some b →
    (Op.eqFields dd (concL σ l).toArray (concL σ m).toArray fs).run P w = .ok b w := by
  intro fs
  induction fs with
  | nil =>
    intro k ks b w h h1 h2 h3
    simp [flat.flatFs] at h; subst h
    simp at h1 h2
    rw [List.drop_eq_nil_of_le (by omega), List.drop_eq_nil_of_le (by omega)] at h3
    simp [eqFlat] at h3
    simp [Op.eqFields, h3]
  | cons x fs ih =>
    intro k ks b w h h1 h2 h3
    simp only [flat.flatFs] at h
    split at h
    · rename_i ks' n g e1 e2 e3
      split at h
      · rename_i hc
        obtain ⟨c1, c2, c3, c4⟩ := hc
        split at h
        · rename_i r hr
          cases h
          simp only [List.length_append] at h1 h2
          obtain ⟨c, q1, q2, q3⟩ := eqFlat_app (by rw [List.length_drop]; omega) (by rw [List.length_drop]; omega) h3
          obtain ⟨X, p1, p2⟩ := part_flat (w := w) e3 e2 c4 hl (off := k) (by omega)
          obtain ⟨Y, p3, p4⟩ := part_flat (w := w) e3 e2 c4 hm (off := k) (by omega)
          have hq := hf _ _ e1 w _ _ c X Y (InL_sub hl fun _ h => List.mem_of_mem_drop (List.mem_of_mem_take h)) (InL_sub hm fun _ h => List.mem_of_mem_drop (List.mem_of_mem_take h))
            (by rw [List.length_take, List.length_drop]; omega) (by rw [List.length_take, List.length_drop]; omega) q1 (c3 ▸ p2) (c3 ▸ p4)
          simp only [Op.eqFields, c1, c2, ne_eq, not_false_eq_true, if_true, Sem.run_bind, p1, p3, Result.andThen_ok, hq]
          cases c with
          | false => simp [q2 rfl]
          | true =>
            simp only [Bool.not_true, Bool.false_eq_true, if_false]
            refine ih (k + n) r b w hr (by omega) (by omega) ?_
            have := q3 rfl
            rw [List.drop_drop, List.drop_drop] at this
            rw [c3]; exact this
        · cases h
      · cases h
    · cases h

theorem items_flat {dd : Nat} {e : TypeId} {k : LK} (hf : EqT P E σ dd e [k]) (hg : tagg P e = some false) (hn : tsize P.toTables e = some 1) {l m : List AV} (hl : InL σ l) (hm : InL σ m) : ∀ (c i : Nat) (b : Bool) (w : World),
    l.length = i + c → m.length = i + c → eqFlat E (flat.repK c [k]) (l.drop i) (m.drop i) = some b →
    (Op.eqItems dd e 1 (concL σ l).toArray (concL σ m).toArray (List.range' i c)).run P w = .ok b w := by
  intro c
  induction c with
  | zero =>
    intro i b w h1 h2 h3
    rw [List.drop_eq_nil_of_le (by omega), List.drop_eq_nil_of_le (by omega)] at h3
    simp [flat.repK, eqFlat] at h3
    simp [Op.eqItems, h3]
  | succ c ih =>
    intro i b w h1 h2 h3
    simp only [flat.repK] at h3
    obtain ⟨q, q1, q2, q3⟩ := eqFlat_app (by rw [List.length_drop]; simp; omega) (by rw [List.length_drop]; simp; omega) h3
    obtain ⟨X, p1, p2⟩ := part_flat (w := w) hg hn (.inr rfl) hl (off := i) (by omega)
    obtain ⟨Y, p3, p4⟩ := part_flat (w := w) hg hn (.inr rfl) hm (off := i) (by omega)
    have hq := hf w _ _ q X Y (InL_sub hl fun _ h => List.mem_of_mem_drop (List.mem_of_mem_take h)) (InL_sub hm fun _ h => List.mem_of_mem_drop (List.mem_of_mem_take h))
      (by rw [List.length_take, List.length_drop]; simp; omega) (by rw [List.length_take, List.length_drop]; simp; omega) q1 p2 p4
    rw [List.range'_succ]
    simp only [Op.eqItems, Nat.mul_one, Sem.run_bind, p1, p3, Result.andThen_ok, hq]
    cases q with
    | false => simp [q2 rfl]
    | true =>
      simp only [Bool.not_true, Bool.false_eq_true, if_false]
      refine ih (i + 1) b w (by omega) (by omega) ?_
      have := q3 rfl
      rw [List.drop_drop, List.drop_drop] at this
      exact this

theorem repK_len (c : Nat) (ks : List LK) : (flat.repK c ks).length = c * ks.length := by
  induction c with
  | zero => simp [flat.repK]
  | succ c ih => simp [flat.repK, ih, Nat.succ_mul, Nat.add_comm]

theorem tagg_leaf {t : TypeId} {u : TypeDesc} (h : P.underlying t = some u) (h1 : ∀ fs, u ≠ .struct fs) (h2 : ∀ n e, u ≠ .array n e) : tagg P t = some false := by
  unfold tagg; rw [h]; cases u <;> first | rfl | exact absurd rfl (h1 _) | exact absurd rfl (h2 _ _)

theorem leaf_EqT (he : EOk E σ) {d : Nat} {t : TypeId} {k : LK} (hk : isLK P t k) (hg : tagg P t = some false) : EqT P E σ (d + 1) t [k] := by
  intro w l m b X Y _ _ hl hm h hX hY
  rcases hX with ⟨e1, _⟩ | ⟨_, x, rfl, rfl⟩
  · rw [hg] at e1; cases e1
  rcases hY with ⟨e1, _⟩ | ⟨_, y, rfl, rfl⟩
  · rw [hg] at e1; cases e1
  simp only [eqFlat] at h
  split at h
  · rename_i he'; cases h; exact eqLeaf_in he he' hk d
  · rename_i he'; cases h; exact eqLeaf_in he he' hk d
  · cases h

theorem flat_EqT (he : EOk E σ) (D : Nat) : ∀ (d : Nat) (t : TypeId) (ks : List LK), flat P d t = some ks → EqT P E σ (D + d) t ks := by
  intro d
  induction d with
  | zero => intro t ks h; simp [flat] at h
  | succ d ih =>
    intro t ks h
    simp only [flat] at h
    split at h
    · rename_i hu
      cases h
      exact leaf_EqT he (show isLK P t .b from hu) (tagg_leaf hu (by simp) (by simp))
    · rename_i hu
      cases h
      exact leaf_EqT he (show isLK P t .i from ⟨_, hu⟩) (tagg_leaf hu (by simp) (by simp))
    · rename_i hu
      cases h
      exact leaf_EqT he (show isLK P t .s from hu) (tagg_leaf hu (by simp) (by simp))
    · rename_i fs hu
      split at h
      · rename_i hs
        intro w l m b X Y hl hm e1 e2 e3 hX hY
        have hg : tagg P t = some true := by simp [tagg, hu]
        rcases hX with ⟨_, rfl⟩ | ⟨q, _⟩
        · rcases hY with ⟨_, rfl⟩ | ⟨q, _⟩
          · have hfs : P.fieldsOf t = fs := by simp [Program.fieldsOf, hu]
            rw [show D + (d + 1) = (D + d) + 1 from rfl, run_equalIn_struct w (D + d) t _ _ (by rw [hfs]; exact hu) hs, hfs]
            exact fields_flat ih hl hm fs.toList 0 ks b w h (by omega) (by omega) e3
          · rw [hg] at q; cases q
        · rw [hg] at q; cases q
      · cases h
    · rename_i n e hu
      split at h
      · rename_i ke hke
        split at h
        · rename_i hc
          cases h
          obtain ⟨c1, c2, c3⟩ := hc
          intro w l m b X Y hl hm e1 e2 e3 hX hY
          have hg : tagg P t = some true := by simp [tagg, hu]
          rcases hX with ⟨_, rfl⟩ | ⟨q, _⟩
          · rcases hY with ⟨_, rfl⟩ | ⟨q, _⟩
            · obtain ⟨i, hi, hi2⟩ := tsize_some c1
              rw [c3] at hi2
              obtain ⟨k, rfl⟩ : ∃ k, ke = [k] := by
                match ke, c3 with
                | [k], _ => exact ⟨k, rfl⟩
              have hco : P.cellsOf e = 1 := by simp [Program.cellsOf, hi, hi2]
              rw [show D + (d + 1) = (D + d) + 1 from rfl, run_equalIn_array w (D + d) _ _ hu hi, hco, List.range_eq_range']
              rw [repK_len] at e1 e2
              exact items_flat (ih _ _ hke) c2 (by simpa using c1) hl hm n 0 b w (by simpa using e1) (by simpa using e2) e3
            · rw [hg] at q; cases q
          · rw [hg] at q; cases q
        · cases h
      · cases h
    · cases h

theorem xorb_some {n : Bool} {o : Option Bool} {v : AV} (h : xorb n o = some v) : ∃ b, o = some b ∧ v = .bool (b != n) := by
  unfold xorb at h
  split at h
  · cases h; exact ⟨_, rfl, rfl⟩
  · cases h

/-- '==' or '!='. -/
def eqOp (n : Bool) : BinOp := if n then .neq else .eql

theorem eq_by (n : Bool) (t : TypeId) {X Y : Value} {b : Bool} (hg : ∀ (x y : Operand), (eqGuard (eqOp n) t x y X Y).run P w = .ok () w) (hb : binOp (eqOp n) t X Y = (do pure (.bool ((← Op.equal t X Y) != n)) : Sem Value))
    (h : (Op.equalIn (9999 + 1) t X Y).run P w = .ok b w) (x y : Operand) : ((do eqGuard (eqOp n) t x y X Y; binOp (eqOp n) t X Y) : Sem Value).run P w = .ok (.bool (b != n)) w := by
  simp only [Sem.run_bind, hg, Result.andThen_ok, hb, equal_eq, h, Sem.run_pure]


theorem ptr_in {t e : TypeId} (hu : P.underlying t = some (.pointer e)) {m : Nat} (hn : tsize P.toTables e = some (m + 1)) {x y : AV} {b : Bool} (hx : In σ x) (hy : In σ y) (h : eqAV E .ptr x y = some b) (d : Nat) :
    (Op.equalIn (d + 1) t (conc σ x) (conc σ y)).run P w = .ok b w := by
  simp only [eqAV] at h
  split at h
  · cases h; simp [conc, Op.equalIn, run_und hu]
  · cases h; simp [conc, Op.equalIn, run_und hu]
  · cases h; simp [conc, Op.equalIn, run_und hu]
  · rename_i a j o a' j' o'
    split at h
    · rename_i hb
      cases h
      simp only [Bool.and_eq_true, beq_eq, decide_eq_true_eq] at hb
      obtain ⟨rfl, rfl⟩ := hb
      simp only [In] at hx hy
      have : (σ.adr a j o == σ.adr a j o') = Nat.beq o o' := by
        rw [beq_eq]
        by_cases h : o = o'
        · subst h; simp
        · have : σ.adr a j o ≠ σ.adr a j o' := by
            intro e
            have := congrArg Addr.off e
            simp only [Sg.adr] at this
            omega
          simp [h, this]
      simp [conc, Op.equalIn, run_und hu, run_size hn, sameAddr, this]
      simp [Sg.adr]
    · cases h
  · cases h

theorem sl_in {t e : TypeId} (hu : P.underlying t = some (.slice e)) {x y : AV} {b : Bool} (h : eqAV E .sl x y = some b) (d : Nat) :
    (Op.equalIn (d + 1) t (conc σ x) (conc σ y)).run P w = .ok b w := by
  simp only [eqAV] at h
  split at h <;> first | (cases h; simp [conc, Op.equalIn, run_und hu]) | cases h

theorem mp_in {t k e : TypeId} (hu : P.underlying t = some (.map k e)) {x y : AV} {b : Bool} (h : eqAV E .mp x y = some b) (d : Nat) :
    (Op.equalIn (d + 1) t (conc σ x) (conc σ y)).run P w = .ok b w := by
  simp only [eqAV] at h
  split at h <;> first | (cases h; simp [conc, Op.equalIn, run_und hu]) | cases h

theorem fn_in {t : TypeId} {p q : Array TypeId} {v : Bool} (hu : P.underlying t = some (.func p q v)) {x y : AV} {b : Bool} (h : eqAV E .fn x y = some b) (d : Nat) :
    (Op.equalIn (d + 1) t (conc σ x) (conc σ y)).run P w = .ok b w := by
  simp only [eqAV] at h
  split at h <;> first | (cases h; simp [conc, Op.equalIn, run_und hu]) | cases h

theorem ifc_in {t : TypeId} {ms : Array (String × TypeId)} (hu : P.underlying t = some (.interface ms)) {x y : AV} {b : Bool} (h : eqAV E .ifc x y = some b) (d : Nat) :
    (Op.equalIn (d + 1) t (conc σ x) (conc σ y)).run P w = .ok b w := by
  simp only [eqAV] at h
  split at h <;> first | (cases h; simp [conc, Op.equalIn, run_und hu]) | cases h

theorem flat_in (he : EOk E σ) {t : TypeId} {ks : List LK} (hk : flat P 8 t = some ks) (hg : tagg P t = some true) {x y : AV} {b : Bool} (hx : In σ x) (hy : In σ y) (h : eqAV E (.flat ks) x y = some b) (d : Nat) :
    ∃ X Y, conc σ x = .agg X ∧ conc σ y = .agg Y ∧ (Op.equalIn (d + 8) t (.agg X) (.agg Y)).run P w = .ok b w := by
  simp only [eqAV] at h
  split at h
  · rename_i l m
    split at h
    · rename_i hc
      simp only [Bool.and_eq_true, beq_eq, decide_eq_true_eq] at hc
      refine ⟨_, _, rfl, rfl, ?_⟩
      exact flat_EqT he d 8 t ks hk w l m b _ _ hx hy hc.1 hc.2 h (.inl ⟨hg, rfl⟩) (.inl ⟨hg, rfl⟩)
    · cases h
  · cases h

theorem gd1 (n : Bool) (t : TypeId) {X Y : Value} (h1 : ∀ c, X ≠ .agg c) (h2 : X ≠ .nilIface) (x y : Operand) : (eqGuard (eqOp n) t x y X Y).run P w = .ok () w := by
  cases n <;> cases X <;> simp_all [eqGuard, eqOp]

theorem gd2 (n : Bool) (t : TypeId) {X Y : Value} (h1 : ∀ c, Y ≠ .agg c) (h2 : Y ≠ .nilIface) (x y : Operand) : (eqGuard (eqOp n) t x y X Y).run P w = .ok () w := by
  cases n <;> cases X <;> simp only [eqGuard, eqOp, Bool.false_eq_true, if_true, if_false] <;> (cases Y <;> simp_all)

/-- Values that '==' gives to the general comparison. -/
def genV : Value → Bool
  | .bool _ | .pointer _ | .slice _ _ _ | .map _ | .func _ _ _ | .nilFunc | .nilIface | .iface _ _ | .agg _ => true
  | _ => false

theorem bin_gen (n : Bool) (t : TypeId) {X Y : Value} (h : genV X = true) (h' : genV Y = true) : binOp (eqOp n) t X Y = (do pure (.bool ((← Op.equal t X Y) != n)) : Sem Value) := by
  cases n <;> cases X <;> first | (cases h; done) | (cases Y <;> first | (cases h'; done) | simp [binOp, eqOp])

theorem sim_eq (he : EOk E σ) {t : TypeId} {k : EqK} (hk : eqKind P t = some k) {x y : AV} {b : Bool} (hx : In σ x) (hy : In σ y) (h : eqAV E k x y = some b) (n : Bool) (xo yo : Operand) :
    ((do eqGuard (eqOp n) t xo yo (conc σ x) (conc σ y); binOp (eqOp n) t (conc σ x) (conc σ y)) : Sem Value).run P w = .ok (.bool (b != n)) w := by
  unfold eqKind at hk
  split at hk
  · rename_i hu
    cases hk
    simp only [eqAV] at h
    have hin := eqLeaf_in (w := w) he h (show isLK P t .b from hu) 9999
    simp only [eqLeaf] at h
    split at h
    · exact eq_by n t (gd1 n t (by simp [conc]) (by simp [conc])) (bin_gen n t rfl rfl) hin xo yo
    · cases h
  · rename_i hu
    cases hk
    simp only [eqAV, eqLeaf] at h
    split at h
    · split at h
      · rename_i hk2
        cases h
        rw [same_kind hk2]
        simp only [Sem.run_bind, gd1 (X := conc σ (.int _ _)) n t (by simp [conc]) (by simp [conc]), Result.andThen_ok]
        cases n <;> simp [conc, binOp, eqOp, Op.intCmp, bne]
      · cases h
    · split at h
      · rename_i hk2
        rw [isI64_eq hk2]
        obtain ⟨h1, _⟩ := symCmp_run (P := P) (w := w) he (symB_some h) t
        simp only [Sem.run_bind, gd1 (X := conc σ (.sym _ _)) n t (by simp [conc]) (by simp [conc]), Result.andThen_ok]
        simp [binOp, Op.intCmp, numOf, conc] at h1
        cases n <;> simp [conc, binOp, eqOp, Op.intCmp, h1, bne]
      · cases h
    · split at h
      · rename_i hk2
        rw [isI64_eq hk2]
        obtain ⟨h1, _⟩ := symCmp_run (P := P) (w := w) he (symB_some h) t
        simp only [Sem.run_bind, gd1 (X := conc σ (.int _ _)) n t (by simp [conc]) (by simp [conc]), Result.andThen_ok]
        simp [binOp, Op.intCmp, numOf, conc] at h1
        cases n <;> simp [conc, binOp, eqOp, Op.intCmp, h1, bne]
      · cases h
    · cases h
  · rename_i hu
    cases hk
    simp only [eqAV, eqLeaf] at h
    split at h
    · cases h
      simp only [Sem.run_bind, gd1 (X := conc σ (.str _)) n t (by simp [conc]) (by simp [conc]), Result.andThen_ok]
      cases n <;> simp [conc, binOp, eqOp, Op.stringOp, bne]
    · cases h
  · rename_i e hu
    split at hk
    · cases hk
    · rename_i m hm hm2
      cases hk
      obtain ⟨m', rfl⟩ : ∃ m', m = m' + 1 := by
        cases m with
        | zero => exact absurd rfl hm
        | succ m' => exact ⟨m', rfl⟩
      have hin := ptr_in (w := w) hu hm2 hx hy h 9999
      simp only [eqAV] at h
      split at h <;> first | (cases h; done) | exact eq_by n t (gd1 n t (by simp [conc]) (by simp [conc])) (bin_gen n t rfl rfl) hin xo yo
    · cases hk
  · rename_i e hu
    cases hk
    have hin := sl_in (w := w) (σ := σ) hu h 9999
    simp only [eqAV] at h
    split at h <;> first | (cases h; done) | exact eq_by n t (gd1 n t (by simp [conc]) (by simp [conc])) (bin_gen n t rfl rfl) hin xo yo
  · rename_i k' e hu
    cases hk
    have hin := mp_in (w := w) (σ := σ) hu h 9999
    simp only [eqAV] at h
    split at h <;> first | (cases h; done) | exact eq_by n t (gd1 n t (by simp [conc]) (by simp [conc])) (bin_gen n t rfl rfl) hin xo yo
  · rename_i p q v hu
    cases hk
    have hin := fn_in (w := w) (σ := σ) hu h 9999
    simp only [eqAV] at h
    split at h <;> first | (cases h; done) | exact eq_by n t (gd1 n t (by simp [conc]) (by simp [conc])) (bin_gen n t rfl rfl) hin xo yo
  · rename_i ms hu
    cases hk
    have hin := ifc_in (w := w) (σ := σ) hu h 9999
    simp only [eqAV] at h
    split at h
    · exact eq_by n t (gd2 n t (by simp [conc]) (by simp [conc])) (bin_gen n t rfl rfl) hin xo yo
    · exact eq_by n t (gd1 n t (by simp [conc]) (by simp [conc])) (bin_gen n t rfl rfl) hin xo yo
    · cases h
  · rename_i fs hu
    split at hk
    · rename_i hgt
      obtain ⟨ks, hks, rfl⟩ := map_some hk
      obtain ⟨X, Y, e1, e2, e3⟩ := flat_in (w := w) he hks (by simp [tagg, hu]) hx hy h 9992
      rw [e1, e2]
      exact eq_by n t (fun x y => run_eqGuard_agg w _ t x y X Y hgt) (bin_gen n t rfl rfl) e3 xo yo
    · cases hk
  · rename_i m e hu
    split at hk
    · rename_i hgt
      obtain ⟨ks, hks, rfl⟩ := map_some hk
      obtain ⟨X, Y, e1, e2, e3⟩ := flat_in (w := w) he hks (by simp [tagg, hu]) hx hy h 9992
      rw [e1, e2]
      exact eq_by n t (fun x y => run_eqGuard_agg w _ t x y X Y hgt) (bin_gen n t rfl rfl) e3 xo yo
    · cases hk
  · cases hk

end
end Go.Ab
