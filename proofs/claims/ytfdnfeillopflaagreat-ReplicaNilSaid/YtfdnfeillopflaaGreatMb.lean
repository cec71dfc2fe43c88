/- Soundness of the abstract evaluator, part 1: tries, what abstract values stand for, the relation between abstract heaps and worlds. -/
import Derived.Test.YtfdnfeillopflaaGreatMa
import Derived.Calls
import Derived.Laws.Sem
import Derived.Laws.World
import Derived.Laws.StructEq
import Derived.ChangeKeysEq
import Derived.Laws.Cover3
import Derived.Laws.Pointers
noncomputable section
namespace Go.Ab

/-! ### Tries -/
theorem beq_eq {a b : Nat} : Nat.beq a b = decide (a = b) := by
  cases h : Nat.beq a b with
  | true => have := Nat.eq_of_beq_eq_true h; simp [this]
  | false => have := Nat.ne_of_beq_eq_false h; simp [this]

theorem Tr.get_sing {α : Type} (f k k' : Nat) (x : α) (h : k ≤ f) : (Tr.sing f k x).get k' = if k' = k then some x else none := by
  induction f generalizing k k' with
  | zero =>
    obtain rfl : k = 0 := by omega
    simp only [Tr.sing_zero, Tr.sing_succ, Tr.get_nil, Tr.get_node, beq_eq]
    by_cases h0 : k' = 0
    · simp [h0]
    · simp only [h0, decide_false]
      split <;> simp
  | succ f ih =>
    simp only [Tr.sing_zero, Tr.sing_succ, beq_eq]
    by_cases h0 : k = 0
    · subst h0
      simp only [decide_true, Tr.get_nil, Tr.get_node, beq_eq]
      by_cases h1 : k' = 0
      · simp [h1]
      · simp only [h1, decide_false]
        split <;> simp
    · simp only [h0, decide_false]
      by_cases h2 : k % 2 = 1
      · simp only [h2, decide_true, Tr.get_nil, Tr.get_node, beq_eq]
        by_cases h1 : k' = 0
        · subst h1; simp; omega
        · simp only [h1, decide_false]
          by_cases h3 : k' % 2 = 1
          · simp only [h3, decide_true, ih (k / 2) (k' / 2) (by omega)]
            by_cases h4 : k' = k
            · subst h4; simp
            · rw [if_neg h4, if_neg (by omega)]
          · simp only [h3, decide_false]
            rw [if_neg (by rintro rfl; exact h3 h2)]
      · simp only [h2, decide_false, Tr.get_nil, Tr.get_node, beq_eq]
        by_cases h1 : k' = 0
        · subst h1; simp; omega
        · simp only [h1, decide_false]
          by_cases h3 : k' % 2 = 1
          · simp only [h3, decide_true]
            rw [if_neg (by rintro rfl; exact h2 h3)]
          · simp only [h3, decide_false, ih (k / 2 - 1) (k' / 2 - 1) (by omega)]
            by_cases h4 : k' = k
            · subst h4; simp
            · rw [if_neg h4, if_neg (by omega)]

theorem Tr.get_set {α : Type} (t : Tr α) (k k' : Nat) (x : α) : (t.set k x).get k' = if k' = k then some x else t.get k' := by
  induction t generalizing k k' with
  | e => simp only [Tr.set_nil, Tr.set_node, Tr.get_sing k k k' x (Nat.le_refl _), Tr.get_nil, Tr.get_node]
  | n l v r ihl ihr =>
    simp only [Tr.set_nil, Tr.set_node, beq_eq]
    by_cases h0 : k = 0
    · subst h0
      simp only [decide_true, Tr.get_nil, Tr.get_node, beq_eq]
      by_cases h1 : k' = 0
      · simp [h1]
      · simp [h1]
    · simp only [h0, decide_false]
      by_cases h2 : k % 2 = 1
      · simp only [h2, decide_true, Tr.get_nil, Tr.get_node, beq_eq]
        by_cases h1 : k' = 0
        · subst h1; simp; omega
        · simp only [h1, decide_false]
          by_cases h3 : k' % 2 = 1
          · simp only [h3, decide_true, ihl]
            by_cases h4 : k' = k
            · subst h4; simp
            · rw [if_neg h4, if_neg (by omega)]
          · simp only [h3, decide_false]
            rw [if_neg (by rintro rfl; exact h3 h2)]
      · simp only [h2, decide_false, Tr.get_nil, Tr.get_node, beq_eq]
        by_cases h1 : k' = 0
        · subst h1; simp; omega
        · simp only [h1, decide_false]
          by_cases h3 : k' % 2 = 1
          · simp only [h3, decide_true]
            rw [if_neg (by rintro rfl; exact h2 h3)]
          · simp only [h3, decide_false, ihr]
            by_cases h4 : k' = k
            · subst h4; simp
            · rw [if_neg h4, if_neg (by omega)]

@[simp] theorem Tr.get_set_same {α : Type} (t : Tr α) (k : Nat) (x : α) : (t.set k x).get k = some x := by simp [Tr.get_set]
theorem Tr.get_set_ne {α : Type} (t : Tr α) {k k' : Nat} (x : α) (h : k' ≠ k) : (t.set k x).get k' = t.get k' := by simp [Tr.get_set, h]
@[simp] theorem Tr.get_e {α : Type} (k : Nat) : (Tr.e : Tr α).get k = none := rfl

/-! ### What abstract values stand for -/
/-- One version of an array: its block; the array's cell that is the block's first; the cell behind its last. -/
structure VI where
  blk : Nat
  sh : Nat
  en : Nat

structure Sg where
  ar : Nat → List VI
  mp : Nat → Option Nat
  lp : Nat → Option Nat
  opq : Nat → Value
  sym : Nat → Int

def Sg.vi (σ : Sg) (a j : Nat) : VI := ((σ.ar a)[j]?).getD ⟨0, 0, 0⟩
def Sg.adr (σ : Sg) (a j o : Nat) : Addr := ⟨(σ.vi a j).blk, o - (σ.vi a j).sh, none⟩
def Sg.cap (σ : Sg) (a j o : Nat) : Cap → Nat
  | .known c => c
  | .rest es => ((σ.vi a j).en - o) / es

mutual
def conc (σ : Sg) : AV → Value
  | .undef => Go.undef
  | .bool b => .bool b
  | .int k n => .int k n
  | .str s => .string s
  | .nilp => .pointer none
  | .nils => .slice none 0 0
  | .nilm => .map none
  | .nilf => .nilFunc
  | .nili => .nilIface
  | .ptr a j o => .pointer (some (σ.adr a j o))
  | .sl a j o len cap => .slice (some (σ.adr a j o)) len (σ.cap a j o cap)
  | .tail a j o l es => .slice (some (if σ.cap a j o (.rest es) = l then σ.adr a j o else (σ.adr a j o).add (l * es))) 0 (σ.cap a j o (.rest es) - l)
  | .mp m => .map (some ((σ.mp m).getD 0))
  | .fn f a b => .func (.func f) (concL σ a).toArray (concL σ b).toArray
  | .yld l => .func (.yield ((σ.lp l).getD 0)) #[] #[]
  | .ifc t v => .iface t (conc σ v)
  | .agg l => .agg (concL σ l).toArray
  | .tup l => .tuple (concL σ l).toArray
  | .sym i o => .int .i64 (σ.sym i + o)
  | .symu i => .int .u64 (IntKind.u64.wrap (σ.sym i))
  | .opq i => σ.opq i
def concL (σ : Sg) : List AV → List Value
  | [] => []
  | v :: l => conc σ v :: concL σ l
end

mutual
def In (σ : Sg) : AV → Prop
  | .ptr a j o => j < (σ.ar a).length ∧ (σ.vi a j).sh ≤ o
  | .sl a j o len (.known c) => j < (σ.ar a).length ∧ (σ.vi a j).sh ≤ o ∧ len ≤ c
  | .sl a j o len (.rest es) => j < (σ.ar a).length ∧ (σ.vi a j).sh ≤ o ∧ o + len * es ≤ (σ.vi a j).en ∧ 1 ≤ es
  | .tail a j o l es => j < (σ.ar a).length ∧ (σ.vi a j).sh ≤ o ∧ o + l * es ≤ (σ.vi a j).en ∧ 1 ≤ es ∧ 1 ≤ l
  | .mp m => (σ.mp m).isSome
  | .fn _ a b => InL σ a ∧ InL σ b
  | .yld l => (σ.lp l).isSome
  | .ifc _ v => In σ v
  | .agg l => InL σ l
  | .tup l => InL σ l
  | _ => True
def InL (σ : Sg) : List AV → Prop
  | [] => True
  | v :: l => In σ v ∧ InL σ l
end

theorem concL_eq (σ : Sg) (l : List AV) : concL σ l = l.map (conc σ) := by
  induction l with
  | nil => rfl
  | cons v l ih => simp only [concL, ih, List.map_cons]
theorem InL_iff (σ : Sg) (l : List AV) : InL σ l ↔ ∀ v ∈ l, In σ v := by
  induction l with
  | nil => simp [InL]
  | cons v l ih => simp [InL, ih]

structure Sg.le (σ τ : Sg) : Prop where
  ar : ∀ a, σ.ar a <+: τ.ar a
  mp : ∀ m r, σ.mp m = some r → τ.mp m = some r
  lp : ∀ l r, σ.lp l = some r → τ.lp l = some r
  opq : τ.opq = σ.opq
  sym : τ.sym = σ.sym

theorem Sg.le.refl (σ : Sg) : σ.le σ := ⟨fun _ => List.prefix_refl _, fun _ _ h => h, fun _ _ h => h, rfl, rfl⟩
theorem Sg.le.trans {a b c : Sg} (h : a.le b) (k : b.le c) : a.le c :=
  ⟨fun x => (h.ar x).trans (k.ar x), fun m r e => k.mp m r (h.mp m r e), fun m r e => k.lp m r (h.lp m r e), k.opq.trans h.opq, k.sym.trans h.sym⟩

theorem Sg.le.get {σ τ : Sg} (h : σ.le τ) {a j : Nat} (hj : j < (σ.ar a).length) : (τ.ar a)[j]? = (σ.ar a)[j]? := by
  obtain ⟨t, ht⟩ := h.ar a
  rw [← ht, List.getElem?_append_left hj]
theorem Sg.le.vi {σ τ : Sg} (h : σ.le τ) {a j : Nat} (hj : j < (σ.ar a).length) : τ.vi a j = σ.vi a j := by
  simp only [Sg.vi, h.get hj]
theorem Sg.le.len {σ τ : Sg} (h : σ.le τ) (a : Nat) : (σ.ar a).length ≤ (τ.ar a).length := (h.ar a).length_le

theorem isSome_get {α : Type} {o : Option α} (h : o.isSome) : ∃ x, o = some x := Option.isSome_iff_exists.1 h

mutual
theorem conc_le {σ τ : Sg} (h : σ.le τ) : ∀ (v : AV), In σ v → conc τ v = conc σ v ∧ In τ v
  | .ptr a j o, hv => by
    simp only [In] at hv ⊢
    simp only [conc, Sg.adr, h.vi hv.1]
    exact ⟨trivial, Nat.lt_of_lt_of_le hv.1 (h.len a), hv.2⟩
  | .sl a j o len (.known c), hv => by
    simp only [In] at hv ⊢
    simp only [conc, Sg.adr, Sg.cap, h.vi hv.1]
    exact ⟨trivial, Nat.lt_of_lt_of_le hv.1 (h.len a), hv.2⟩
  | .sl a j o len (.rest es), hv => by
    simp only [In] at hv ⊢
    simp only [conc, Sg.adr, Sg.cap, h.vi hv.1]
    exact ⟨trivial, Nat.lt_of_lt_of_le hv.1 (h.len a), hv.2⟩
  | .tail a j o l es, hv => by
    simp only [In] at hv ⊢
    simp only [conc, Sg.adr, Sg.cap, h.vi hv.1]
    exact ⟨rfl, Nat.lt_of_lt_of_le hv.1 (h.len a), hv.2⟩
  | .mp m, hv => by
    simp only [In] at hv ⊢
    obtain ⟨r, hr⟩ := isSome_get hv
    simp [conc, hr, h.mp m r hr]
  | .yld m, hv => by
    simp only [In] at hv ⊢
    obtain ⟨r, hr⟩ := isSome_get hv
    simp [conc, hr, h.lp m r hr]
  | .fn f a b, hv => by
    simp only [In] at hv ⊢
    simp only [conc, (concL_le h a hv.1).1, (concL_le h b hv.2).1]
    exact ⟨trivial, (concL_le h a hv.1).2, (concL_le h b hv.2).2⟩
  | .ifc t v, hv => by
    simp only [In] at hv ⊢
    simp only [conc, (conc_le h v hv).1]
    exact ⟨trivial, (conc_le h v hv).2⟩
  | .agg l, hv => by
    simp only [In] at hv ⊢
    simp only [conc, (concL_le h l hv).1]
    exact ⟨trivial, (concL_le h l hv).2⟩
  | .tup l, hv => by
    simp only [In] at hv ⊢
    simp only [conc, (concL_le h l hv).1]
    exact ⟨trivial, (concL_le h l hv).2⟩
  | .sym i o, _ => by simp [conc, In, h.sym]
  | .symu i, _ => by simp [conc, In, h.sym]
  | .opq i, _ => by simp [conc, In, h.opq]
  | .undef, _ => ⟨rfl, trivial⟩
  | .bool _, _ => ⟨rfl, trivial⟩
  | .int _ _, _ => ⟨rfl, trivial⟩
  | .str _, _ => ⟨rfl, trivial⟩
  | .nilp, _ => ⟨rfl, trivial⟩
  | .nils, _ => ⟨rfl, trivial⟩
  | .nilm, _ => ⟨rfl, trivial⟩
  | .nilf, _ => ⟨rfl, trivial⟩
  | .nili, _ => ⟨rfl, trivial⟩
theorem concL_le {σ τ : Sg} (h : σ.le τ) : ∀ (l : List AV), InL σ l → concL τ l = concL σ l ∧ InL τ l
  | [], _ => ⟨rfl, trivial⟩
  | v :: l, hv => by
    simp only [InL] at hv ⊢
    simp only [concL, (conc_le h v hv.1).1, (concL_le h l hv.2).1]
    exact ⟨trivial, (conc_le h v hv.1).2, (concL_le h l hv.2).2⟩
end

end Go.Ab
end

noncomputable section
namespace Go.Ab

def fine (fz : Nat × Nat) (n : Nat) : Prop := fz = (0, 0) ∨ n ≤ fz.1

structure RArr (σ : Sg) (w : World) (A : Arr) (vis : List VI) : Prop where
  len : vis.length = A.ver + 1
  full : ∀ i, A.lo ≤ i → i < A.n → ∃ m v, A.get i = some (m, v) ∧ m ≤ A.ver
  shs : ∀ vi vi', vi ∈ vis → vi' ∈ vis → vi.blk = vi'.blk → vi.sh = vi'.sh
  inn : ∀ j i v, A.rd j i = some v → In σ v
  blk : ∀ (j : Nat) (vi : VI), vis[j]? = some vi → ∃ cs E fz, w.heap[vi.blk]? = some (.cells cs E fz) ∧ vi.en = vi.sh + cs.size ∧ fine fz cs.size ∧
    ∀ i v, A.rd j i = some v → vi.sh ≤ i ∧ cs[i - vi.sh]? = some (conc σ v)

def centry (σ : Sg) (e : AV × AV × Nat) : MapEntry := { key := conc σ e.1, val := conc σ e.2.1, born := e.2.2 }

/-- Temporaries: an abstract row of them and a real one. -/
def RTmp (σ : Sg) (N : Nat) (T : Tr AV) (tmps : Array Value) : Prop :=
  tmps.size = N ∧ ∀ t, In σ ((EO.t t).ev T) ∧ tmps.getD t Go.undef = conc σ ((EO.t t).ev T)

def cEx : Ex → Option Code
  | .normal => none
  | .exit id => some (.exit id)
  | .ret => some .ret

structure RLoop (P : Program) (σ : Sg) (w : World) (L : ALoop) (r : Nat) : Prop where
  ex : ∃ N fn tmps asn body d, w.heap[r]? = some (.loop { state := L.state, pending := cEx L.pend, fn, tmps, params := L.ps.toArray, assign := asn, body, defers := d }) ∧
    RTmp σ N L.tmps tmps ∧ L.asn = cCode P asn ∧ L.body = cCode P body ∧ dstC N L.asn = true ∧ dstC N L.body = true ∧ L.ps.all (ltb · N) = true

def PA (σ : Sg) (s : AS) (w : World) (a : Nat) : Prop := σ.ar a ≠ [] → ∃ A, s.arrs.get a = some A ∧ RArr σ w A (σ.ar a)
def PM (σ : Sg) (s : AS) (w : World) (m : Nat) : Prop :=
  ∀ r, σ.mp m = some r → ∃ M, s.maps.get m = some M ∧ w.heap[r]? = some (.map (M.es.map (centry σ)).toArray M.clock) ∧ ∀ e ∈ M.es, In σ e.1 ∧ In σ e.2.1
def PL (P : Program) (σ : Sg) (s : AS) (w : World) (l : Nat) : Prop :=
  ∀ r, σ.lp l = some r → ∃ L, s.loops.get l = some L ∧ RLoop P σ w L r

structure Rel (P : Program) (σ : Sg) (s : AS) (w : World) : Prop where
  arr : ∀ a, PA σ s w a
  inj : ∀ a a' vi vi', vi ∈ σ.ar a → vi' ∈ σ.ar a' → vi.blk = vi'.blk → a = a'
  map : ∀ m, PM σ s w m
  minj : ∀ m m' r, σ.mp m = some r → σ.mp m' = some r → m = m'
  lop : ∀ l, PL P σ s w l
  linj : ∀ l l' r, σ.lp l = some r → σ.lp l' = some r → l = l'
  na : ∀ a, s.na ≤ a → σ.ar a = []
  nm : ∀ m, s.nm ≤ m → σ.mp m = none
  nl : ∀ l, s.nl ≤ l → σ.lp l = none
  opq : ∀ i, (σ.opq i).oneCell' = true
  wf : s.wf

def img (σ : Sg) (r : Nat) : Prop := (∃ a vi, vi ∈ σ.ar a ∧ vi.blk = r) ∨ (∃ m, σ.mp m = some r) ∨ (∃ l, σ.lp l = some r)

structure Ext (σ : Sg) (s : AS) (w : World) (σ' : Sg) (s' : AS) (w' : World) : Prop where
  le : σ.le σ'
  img : ∀ r, img σ' r → img σ r ∨ w.heap.size ≤ r
  fr : ∀ r, r < w.heap.size → ¬ Ab.img σ r → w'.heap[r]? = w.heap[r]?
  size : w.heap.size ≤ w'.heap.size
  os : w'.os = w.os
  tape : w'.tape = w.tape
  output : w'.output = w.output
  na : s.na ≤ s'.na
  nm : s.nm ≤ s'.nm
  nl : s.nl ≤ s'.nl
  fa : ∀ a, a < s.na → σ.ar a = [] → s'.arrs.get a = s.arrs.get a ∧ σ'.ar a = []
  fm : ∀ m, m < s.nm → σ.mp m = none → s'.maps.get m = s.maps.get m ∧ σ'.mp m = none

theorem Ext.refl (σ : Sg) (s : AS) (w : World) : Ext σ s w σ s w :=
  ⟨.refl σ, fun _ h => .inl h, fun _ _ _ => rfl, Nat.le_refl _, rfl, rfl, rfl, Nat.le_refl _, Nat.le_refl _, Nat.le_refl _, fun _ _ h => ⟨rfl, h⟩, fun _ _ h => ⟨rfl, h⟩⟩

theorem Ext.trans {σ σ₁ σ₂ : Sg} {s s₁ s₂ : AS} {w w₁ w₂ : World} (h : Ext σ s w σ₁ s₁ w₁) (k : Ext σ₁ s₁ w₁ σ₂ s₂ w₂) : Ext σ s w σ₂ s₂ w₂ where
  le := h.le.trans k.le
  img r hr := by
    rcases k.img r hr with h1 | h1
    · exact h.img r h1
    · exact .inr (Nat.le_trans h.size h1)
  fr r hr hn := by
    have h1 : ¬ Ab.img σ₁ r := fun h1 => by
      rcases h.img r h1 with h2 | h2
      · exact hn h2
      · omega
    rw [k.fr r (Nat.lt_of_lt_of_le hr h.size) h1, h.fr r hr hn]
  size := Nat.le_trans h.size k.size
  os := k.os.trans h.os
  tape := k.tape.trans h.tape
  output := k.output.trans h.output
  na := Nat.le_trans h.na k.na
  nm := Nat.le_trans h.nm k.nm
  nl := Nat.le_trans h.nl k.nl
  fa a ha hn := by
    obtain ⟨h1, h2⟩ := h.fa a ha hn
    obtain ⟨h3, h4⟩ := k.fa a (Nat.lt_of_lt_of_le ha h.na) h2
    exact ⟨h3.trans h1, h4⟩
  fm a ha hn := by
    obtain ⟨h1, h2⟩ := h.fm a ha hn
    obtain ⟨h3, h4⟩ := k.fm a (Nat.lt_of_lt_of_le ha h.nm) h2
    exact ⟨h3.trans h1, h4⟩

theorem RTmp.le {σ τ : Sg} (h : σ.le τ) {N : Nat} {T : Tr AV} {tmps : Array Value} (r : RTmp σ N T tmps) : RTmp τ N T tmps :=
  ⟨r.1, fun t => ⟨(conc_le h _ (r.2 t).1).2, by rw [(r.2 t).2, (conc_le h _ (r.2 t).1).1]⟩⟩

theorem RArr.mono {σ τ : Sg} {w w' : World} {A : Arr} {vis : List VI} (r : RArr σ w A vis) (h : σ.le τ) (hw : ∀ vi, vi ∈ vis → w'.heap[vi.blk]? = w.heap[vi.blk]?) : RArr τ w' A vis where
  len := r.len
  full := r.full
  shs := r.shs
  inn j i v hv := (conc_le h v (r.inn j i v hv)).2
  blk j vi hj := by
    obtain ⟨cs, E, fz, h1, h2, h3, h4⟩ := r.blk j vi hj
    refine ⟨cs, E, fz, by rw [hw vi (List.mem_of_getElem? hj)]; exact h1, h2, h3, fun i v hv => ?_⟩
    obtain ⟨h5, h6⟩ := h4 i v hv
    exact ⟨h5, by rw [h6, (conc_le h v (r.inn j i v hv)).1]⟩

theorem PA.mono {σ τ : Sg} {s s' : AS} {w w' : World} {a : Nat} (p : PA σ s w a) (h : σ.le τ) (ha : τ.ar a = σ.ar a) (hs : s'.arrs.get a = s.arrs.get a)
    (hw : ∀ vi, vi ∈ σ.ar a → w'.heap[vi.blk]? = w.heap[vi.blk]?) : PA τ s' w' a := by
  intro hne
  rw [ha] at hne ⊢
  obtain ⟨A, h1, h2⟩ := p hne
  exact ⟨A, by rw [hs]; exact h1, h2.mono h hw⟩

theorem centry_le {σ τ : Sg} (h : σ.le τ) {e : AV × AV × Nat} (he : In σ e.1 ∧ In σ e.2.1) : centry τ e = centry σ e := by
  simp only [centry, (conc_le h _ he.1).1, (conc_le h _ he.2).1]

theorem PM.mono {σ τ : Sg} {s s' : AS} {w w' : World} {m : Nat} (p : PM σ s w m) (h : σ.le τ) (hm : τ.mp m = σ.mp m) (hs : s'.maps.get m = s.maps.get m)
    (hw : ∀ r, σ.mp m = some r → w'.heap[r]? = w.heap[r]?) : PM τ s' w' m := by
  intro r hr
  rw [hm] at hr
  obtain ⟨M, h1, h2, h3⟩ := p r hr
  refine ⟨M, by rw [hs]; exact h1, ?_, fun e he => ⟨(conc_le h _ (h3 e he).1).2, (conc_le h _ (h3 e he).2).2⟩⟩
  rw [hw r hr, h2]
  have : M.es.map (centry τ) = M.es.map (centry σ) := List.map_congr_left fun e he => centry_le h (h3 e he)
  rw [this]

theorem RLoop.mono {P : Program} {σ τ : Sg} {w w' : World} {L : ALoop} {r : Nat} (p : RLoop P σ w L r) (h : σ.le τ) (hw : w'.heap[r]? = w.heap[r]?) : RLoop P τ w' L r := by
  obtain ⟨N, fn, tmps, asn, body, d, h1, h2, h3⟩ := p.ex
  exact ⟨N, fn, tmps, asn, body, d, by rw [hw]; exact h1, h2.le h, h3⟩

theorem PL.mono {P : Program} {σ τ : Sg} {s s' : AS} {w w' : World} {l : Nat} (p : PL P σ s w l) (h : σ.le τ) (hl : τ.lp l = σ.lp l) (hs : s'.loops.get l = s.loops.get l)
    (hw : ∀ r, σ.lp l = some r → w'.heap[r]? = w.heap[r]?) : PL P τ s' w' l := by
  intro r hr
  rw [hl] at hr
  obtain ⟨L, h1, h2⟩ := p r hr
  exact ⟨L, by rw [hs]; exact h1, h2.mono h (hw r hr)⟩

/-- A world in which what the abstract heap speaks of lies as it lay. -/
theorem Rel.world {P : Program} {σ : Sg} {s : AS} {w w' : World} (r : Rel P σ s w) (hw : ∀ b, img σ b → w'.heap[b]? = w.heap[b]?) : Rel P σ s w' where
  arr a := (r.arr a).mono (.refl σ) rfl rfl fun vi hv => hw _ (.inl ⟨a, vi, hv, rfl⟩)
  inj := r.inj
  map m := (r.map m).mono (.refl σ) rfl rfl fun _ hb => hw _ (.inr (.inl ⟨m, hb⟩))
  minj := r.minj
  lop l := (r.lop l).mono (.refl σ) rfl rfl fun _ hb => hw _ (.inr (.inr ⟨l, hb⟩))
  linj := r.linj
  na := r.na
  nm := r.nm
  nl := r.nl
  opq := r.opq
  wf := r.wf

theorem Rel.blk_lt {P : Program} {σ : Sg} {s : AS} {w : World} (r : Rel P σ s w) {b : Nat} (h : img σ b) : b < w.heap.size := by
  have key : ∀ o, w.heap[b]? = some o → b < w.heap.size := fun o ho => by
    rcases Nat.lt_or_ge b w.heap.size with h | h
    · exact h
    · rw [Array.getElem?_eq_none h] at ho; cases ho
  rcases h with ⟨a, vi, hv, rfl⟩ | ⟨m, hm⟩ | ⟨l, hl⟩
  · obtain ⟨A, _, h2⟩ := r.arr a (List.ne_nil_of_mem hv)
    obtain ⟨j, hj⟩ := List.getElem?_of_mem hv
    obtain ⟨cs, E, fz, h3, _⟩ := h2.blk j vi hj
    exact key _ h3
  · obtain ⟨M, _, h2, _⟩ := r.map m b hm
    exact key _ h2
  · obtain ⟨L, _, h2⟩ := r.lop l b hl
    obtain ⟨N, fn, tmps, asn, body, d, h1, _⟩ := h2.ex
    exact key _ h1

theorem Rel.drew {P : Program} {σ : Sg} {s : AS} {w : World} (r : Rel P σ s w) : Rel P σ s w.drew := r.world fun _ _ => rfl
theorem Ext.drew (σ : Sg) (s : AS) (w : World) : Ext σ s w σ s w.drew :=
  ⟨.refl σ, fun _ h => .inl h, fun _ _ _ => rfl, Nat.le_refl _, rfl, rfl, rfl, Nat.le_refl _, Nat.le_refl _, Nat.le_refl _, fun _ _ h => ⟨rfl, h⟩, fun _ _ h => ⟨rfl, h⟩⟩

theorem heap_alloc (w : World) (o : Obj) {k : Nat} (h : k < w.heap.size) : (w.alloc o).heap[k]? = w.heap[k]? := by
  show (w.heap.push o)[k]? = _
  rw [Array.getElem?_push, if_neg (by omega)]
theorem heap_alloc_new (w : World) (o : Obj) : (w.alloc o).heap[w.heap.size]? = some o := by
  show (w.heap.push o)[w.heap.size]? = _
  simp

/-- A block that nothing abstract stands for. -/
theorem Rel.garbage {P : Program} {σ : Sg} {s : AS} {w : World} (r : Rel P σ s w) (o : Obj) : Rel P σ s (w.alloc o) :=
  r.world fun _ hb => heap_alloc w o (r.blk_lt hb)
theorem Ext.garbage (σ : Sg) (s : AS) (w : World) (o : Obj) : Ext σ s w σ s (w.alloc o) :=
  ⟨.refl σ, fun _ h => .inl h, fun _ h _ => heap_alloc w o h, by simp, rfl, rfl, rfl, Nat.le_refl _, Nat.le_refl _, Nat.le_refl _, fun _ _ h => ⟨rfl, h⟩, fun _ _ h => ⟨rfl, h⟩⟩

/-! ### A new array -/
def Sg.addA (σ : Sg) (a : Nat) (vi : VI) : Sg := { σ with ar := fun x => if x = a then σ.ar a ++ [vi] else σ.ar x }

theorem Sg.le_addA (σ : Sg) (a : Nat) (vi : VI) : σ.le (σ.addA a vi) where
  ar x := by
    simp only [Sg.addA]
    split
    · rename_i h; subst h; exact List.prefix_append _ _
    · exact List.prefix_refl _
  mp _ _ h := h
  lp _ _ h := h
  opq := rfl
  sym := rfl

theorem Sg.addA_same (σ : Sg) (a : Nat) (vi : VI) : (σ.addA a vi).ar a = σ.ar a ++ [vi] := by simp [Sg.addA]
theorem Sg.addA_ne (σ : Sg) {a x : Nat} (vi : VI) (h : x ≠ a) : (σ.addA a vi).ar x = σ.ar x := by simp [Sg.addA, h]

theorem nth_eq (l : List AV) (k : Nat) : nth l k = l[k]? := by
  induction l generalizing k with
  | nil => simp [nth]
  | cons x l ih =>
    simp only [nth, beq_eq]
    cases k with
    | zero => simp
    | succ k => simp [ih]

theorem setAll_get (l : List AV) (t : Tr (Nat × AV)) (m i k : Nat) :
    (setAll t m i l).get k = if i ≤ k ∧ k < i + l.length then (l[k - i]?).map (fun v => (m, v)) else t.get k := by
  induction l generalizing t i with
  | nil => simp [setAll]; omega
  | cons v l ih =>
    simp only [setAll, ih, Tr.get_set, List.length_cons]
    by_cases h1 : i + 1 ≤ k ∧ k < i + 1 + l.length
    · rw [if_pos h1, if_pos (by omega)]
      have : k - i = (k - (i + 1)) + 1 := by omega
      rw [this]; simp
    · rw [if_neg h1]
      by_cases h2 : k = i
      · subst h2; simp
      · rw [if_neg h2, if_neg (by omega)]

theorem ltb_eq (a b : Nat) : ltb a b = decide (a < b) := by
  simp only [ltb]
  cases h : Nat.ble (a + 1) b with
  | true => have := Nat.le_of_ble_eq_true h; simp; omega
  | false =>
    have : ¬ a + 1 ≤ b := fun h' => by have := Nat.ble_eq_true_of_le h'; simp [this] at h
    simp; omega
theorem ble_eq (a b : Nat) : Nat.ble a b = decide (a ≤ b) := by
  cases h : Nat.ble a b with
  | true => have := Nat.le_of_ble_eq_true h; simp; omega
  | false =>
    have : ¬ a ≤ b := fun h' => by have := Nat.ble_eq_true_of_le h'; simp [this] at h
    simp; omega

/-- A row of cells as it is read. -/
def rowOf (l : List AV) : Arr := ⟨0, l.length, 0, [], setAll .e 0 0 l⟩
theorem rowOf_rd (l : List AV) (j i : Nat) : (rowOf l).rd j i = l[i]? := by
  simp only [Arr.rd, Arr.get, rowOf, ltb_eq, ble_eq, setAll_get]
  by_cases h : i < l.length
  · simp [h]
  · simp [h]

def rowZ (n : Nat) (z : List AV) : Arr := ⟨0, n, 0, z, .e⟩
theorem rowZ_rd (n : Nat) (z : List AV) (j i : Nat) (hz : z ≠ []) : (rowZ n z).rd j i = if i < n then z[i % z.length]? else none := by
  simp only [Arr.rd, Arr.get, rowZ, ltb_eq, ble_eq, Tr.get_e]
  by_cases h : i < n
  · simp only [h, decide_true, Nat.zero_le, Bool.and_self, if_true]
    cases z with
    | nil => exact absurd rfl hz
    | cons x l =>
      simp only [nth_eq]
      cases (x :: l)[i % (x :: l).length]? <;> simp
  · simp [h]

/-- A new block for a new array. -/
theorem Rel.newA {P : Program} {σ : Sg} {s : AS} {w : World} (r : Rel P σ s w) (A : Arr) (cs : Array Value) (E : TypeId) (fz : Nat × Nat)
    (hv : A.ver = 0) (hful : ∀ i, A.lo ≤ i → i < A.n → ∃ m v, A.get i = some (m, v) ∧ m ≤ A.ver) (hin : ∀ j i v, A.rd j i = some v → In σ v) (hfz : fine fz cs.size)
    (hcs : ∀ i v, A.rd 0 i = some v → cs[i]? = some (conc σ v)) :
    Rel P (σ.addA s.na ⟨w.heap.size, 0, cs.size⟩) { s with arrs := s.arrs.set s.na A, na := s.na + 1 } (w.alloc (.cells cs E fz)) ∧
    Ext σ s w (σ.addA s.na ⟨w.heap.size, 0, cs.size⟩) { s with arrs := s.arrs.set s.na A, na := s.na + 1 } (w.alloc (.cells cs E fz)) ∧
    (σ.addA s.na ⟨w.heap.size, 0, cs.size⟩).ar s.na = [⟨w.heap.size, 0, cs.size⟩] := by
  have hle := σ.le_addA s.na ⟨w.heap.size, 0, cs.size⟩
  have h0 : σ.ar s.na = [] := r.na _ (Nat.le_refl _)
  have hsame : (σ.addA s.na ⟨w.heap.size, 0, cs.size⟩).ar s.na = [⟨w.heap.size, 0, cs.size⟩] := by rw [Sg.addA_same, h0]; rfl
  have hmem : ∀ a vi, vi ∈ (σ.addA s.na ⟨w.heap.size, 0, cs.size⟩).ar a → (a = s.na ∧ vi.blk = w.heap.size) ∨ (a ≠ s.na ∧ vi ∈ σ.ar a ∧ vi.blk < w.heap.size) := by
    intro a vi hvi
    by_cases ha : a = s.na
    · subst ha; rw [hsame] at hvi; simp at hvi; exact .inl ⟨rfl, by rw [hvi]⟩
    · rw [Sg.addA_ne _ _ ha] at hvi; exact .inr ⟨ha, hvi, r.blk_lt (.inl ⟨a, vi, hvi, rfl⟩)⟩
  refine ⟨?_, ?_, hsame⟩
  · constructor
    · intro a
      by_cases ha : a = s.na
      · subst ha
        intro _
        refine ⟨A, by simp, ?_⟩
        rw [hsame]
        refine ⟨by simp [hv], hful, by simp, fun j i v h => (conc_le hle v (hin j i v h)).2, ?_⟩
        intro j vi hj
        cases j with
        | zero =>
          simp at hj; subst hj
          refine ⟨cs, E, fz, heap_alloc_new _ _, by simp, hfz, fun i v h => ⟨Nat.zero_le _, ?_⟩⟩
          rw [(conc_le hle v (hin 0 i v h)).1]; simpa using hcs i v h
        | succ j => simp at hj
      · refine (r.arr a).mono hle (Sg.addA_ne _ _ ha) (by simp [Tr.get_set_ne _ _ ha]) fun vi hv => heap_alloc w _ (r.blk_lt (.inl ⟨a, vi, hv, rfl⟩))
    · intro a a' vi vi' h h' he
      rcases hmem a vi h with ⟨h1, h2⟩ | ⟨h1, h2, h3⟩ <;> rcases hmem a' vi' h' with ⟨k1, k2⟩ | ⟨k1, k2, k3⟩
      · omega
      · omega
      · omega
      · exact r.inj a a' vi vi' h2 k2 he
    · exact fun m => (r.map m).mono hle rfl rfl fun b hb => heap_alloc w _ (r.blk_lt (.inr (.inl ⟨m, hb⟩)))
    · exact r.minj
    · exact fun l => (r.lop l).mono hle rfl rfl fun b hb => heap_alloc w _ (r.blk_lt (.inr (.inr ⟨l, hb⟩)))
    · exact r.linj
    · intro a ha
      simp only at ha
      rw [Sg.addA_ne _ _ (by omega)]; exact r.na a (by omega)
    · exact r.nm
    · exact r.nl
    · exact r.opq
    · exact ⟨fun a ha => by simp only at ha; simp only; rw [Tr.get_set_ne _ _ (by omega)]; exact r.wf.arr a (by omega), r.wf.map⟩
  · refine ⟨hle, ?_, fun b hb _ => heap_alloc w _ hb, by simp, rfl, rfl, rfl, Nat.le_succ _, Nat.le_refl _, Nat.le_refl _, ?_, fun _ _ h => ⟨rfl, h⟩⟩
    · rintro b (⟨a, vi, hv, rfl⟩ | h | h)
      · rcases hmem a vi hv with ⟨h1, h2⟩ | ⟨h1, h2, h3⟩
        · exact .inr (by omega)
        · exact .inl (.inl ⟨a, vi, h2, rfl⟩)
      · exact .inl (.inr (.inl h))
      · exact .inl (.inr (.inr h))
    · intro a ha h
      exact ⟨by simp [Tr.get_set_ne _ _ (show a ≠ s.na by omega)], by rw [Sg.addA_ne _ _ (by omega)]; exact h⟩

end Go.Ab
end

noncomputable section
namespace Go.Ab

theorem Sg.vi_get {σ : Sg} {a j : Nat} (h : j < (σ.ar a).length) : (σ.ar a)[j]? = some (σ.vi a j) := by
  simp [Sg.vi, List.getElem?_eq_getElem h]
theorem Sg.vi_mem {σ : Sg} {a j : Nat} (h : j < (σ.ar a).length) : σ.vi a j ∈ σ.ar a := List.mem_of_getElem? (Sg.vi_get h)

theorem Rel.at {P : Program} {σ : Sg} {s : AS} {w : World} (r : Rel P σ s w) {a j : Nat} (h : j < (σ.ar a).length) :
    ∃ A cs E fz, s.arrs.get a = some A ∧ RArr σ w A (σ.ar a) ∧ w.heap[(σ.vi a j).blk]? = some (.cells cs E fz) ∧ (σ.vi a j).en = (σ.vi a j).sh + cs.size ∧ fine fz cs.size ∧
      ∀ i v, A.rd j i = some v → (σ.vi a j).sh ≤ i ∧ cs[i - (σ.vi a j).sh]? = some (conc σ v) := by
  obtain ⟨A, h1, h2⟩ := r.arr a (List.ne_nil_of_mem (Sg.vi_mem h))
  obtain ⟨cs, E, fz, h3, h4, h5, h6⟩ := h2.blk j _ (Sg.vi_get h)
  exact ⟨A, cs, E, fz, h1, h2, h3, h4, h5, h6⟩

theorem Rel.rd {P : Program} {σ : Sg} {s : AS} {w : World} (r : Rel P σ s w) {a j i : Nat} {v : AV} (h : j < (σ.ar a).length) (hr : s.rd a j i = some v) :
    (σ.vi a j).sh ≤ i ∧ w.cell? (σ.adr a j i) = some (conc σ v) ∧ w.frozen? (σ.adr a j i) = false ∧ In σ v := by
  obtain ⟨A, cs, E, fz, h1, h2, h3, h4, h5, h6⟩ := r.at h
  simp only [AS.rd, h1] at hr
  obtain ⟨h7, h8⟩ := h6 i v hr
  refine ⟨h7, ?_, ?_, h2.inn j i v hr⟩
  · simp only [World.cell?, Sg.adr, h3]; simpa using h8
  · simp only [World.frozen?, Sg.adr, h3]
    have : i - (σ.vi a j).sh < cs.size := by
      rcases Nat.lt_or_ge (i - (σ.vi a j).sh) cs.size with h | h
      · exact h
      · rw [Array.getElem?_eq_none h] at h8; cases h8
    rcases h5 with rfl | h5
    · simp
    · have h9 : ¬ fz.1 ≤ i - (σ.vi a j).sh := by omega
      simp [h9]

theorem adr_add {σ : Sg} {a j o : Nat} (h : (σ.vi a j).sh ≤ o) (n : Nat) : (σ.adr a j o).add n = σ.adr a j (o + n) := by
  simp only [Addr.add, Sg.adr]
  split
  · rename_i h; subst h; rfl
  · congr 1; omega

theorem run_load_some {P : Program} {w : World} {a : Addr} {v : Value} (h : w.cell? a = some v) : (load a).run P w = .ok v w := by
  rw [run_load, h]

theorem rdN_spec {A : Arr} {j i n : Nat} {l : List AV} (h : rdN A j i n = some l) : l.length = n ∧ ∀ k, k < n → A.rd j (i + k) = l[k]? := by
  induction n generalizing i l with
  | zero => simp [rdN] at h; subst h; simp
  | succ n ih =>
    simp only [rdN] at h
    split at h
    · rename_i v hv
      split at h
      · rename_i m hm
        simp at h; subst h
        obtain ⟨h1, h2⟩ := ih hm
        refine ⟨by simp [h1], fun k hk => ?_⟩
        cases k with
        | zero => simpa using hv
        | succ k => rw [show i + (k + 1) = i + 1 + k from by omega, h2 k (by omega)]; simp
      · cases h
    · cases h

theorem AS.rdN_spec {s : AS} {a j i n : Nat} {l : List AV} (h : s.rdN a j i n = some l) : l.length = n ∧ ∀ k, k < n → s.rd a j (i + k) = l[k]? := by
  simp only [AS.rdN] at h
  split at h
  · rename_i A hA
    obtain ⟨h1, h2⟩ := Ab.rdN_spec h
    exact ⟨h1, fun k hk => by simp only [AS.rd, hA]; exact h2 k hk⟩
  · cases h

theorem loadCellsFrom_run {P : Program} {w : World} {a : Addr} (n : Nat) : ∀ (i : Nat) (acc : Array Value) (l : List Value), l.length = n → (∀ k, k < n → w.cell? (a.add (i + k)) = l[k]?) →
    (loadCellsFrom a i n acc).run P w = .ok (acc ++ l.toArray) w := by
  induction n with
  | zero => intro i acc l hl _; obtain rfl : l = [] := List.eq_nil_of_length_eq_zero hl; simp [loadCellsFrom]
  | succ n ih =>
    intro i acc l hl h
    cases l with
    | nil => simp at hl
    | cons v l =>
      have h0 := h 0 (by omega)
      simp only [Nat.add_zero, List.getElem?_cons_zero] at h0
      simp only [loadCellsFrom, Sem.run_bind, run_load_some h0, Result.andThen_ok]
      rw [ih (i + 1) (acc.push v) l (by simpa using hl) (fun k hk => by rw [show i + 1 + k = i + (k + 1) from by omega, h (k + 1) (by omega)]; simp)]
      simp

theorem Rel.rdN {P : Program} {σ : Sg} {s : AS} {w : World} (r : Rel P σ s w) {a j i n : Nat} {l : List AV} (h : j < (σ.ar a).length) (hi : (σ.vi a j).sh ≤ i) (hr : s.rdN a j i n = some l) :
    (loadCells (σ.adr a j i) n).run P w = .ok (concL σ l).toArray w ∧ InL σ l ∧ l.length = n := by
  obtain ⟨h1, h2⟩ := AS.rdN_spec hr
  refine ⟨?_, ?_, h1⟩
  · simp only [loadCells]
    rw [loadCellsFrom_run n 0 #[] (concL σ l) (by simp [concL_eq, h1])]
    · simp
    · intro k hk
      rw [adr_add hi, concL_eq, List.getElem?_map]
      have h3 := h2 k hk
      have h4 : k < l.length := by omega
      rw [List.getElem?_eq_getElem h4] at h3 ⊢
      rw [Nat.zero_add, (r.rd h h3).2.1]; rfl
  · rw [InL_iff]
    intro v hv
    obtain ⟨k, hk⟩ := List.getElem?_of_mem hv
    have h4 : k < l.length := by
      rcases Nat.lt_or_ge k l.length with h | h
      · exact h
      · rw [List.getElem?_eq_none h] at hk; cases hk
    have h3 := h2 k (by omega)
    rw [hk] at h3
    exact (r.rd h h3).2.2.2

theorem oneCell_conc {P : Program} {σ : Sg} {s : AS} {w : World} (r : Rel P σ s w) {v : AV} (h : leaf v = true) : (conc σ v).oneCell' = true := by
  cases v <;> first | rfl | (simp [leaf] at h; done) | (simp only [conc]; exact r.opq _)

theorem wr_rd {A A' : Arr} {j i : Nat} {v : AV} (h : A.wr j i v = some A') :
    j = A.ver ∧ leaf v = true ∧ i < A.n ∧ A.lo ≤ i ∧ A'.ver = A.ver ∧ A'.n = A.n ∧ A'.lo = A.lo ∧
    (∀ i', i' ≠ i → A'.get i' = A.get i') ∧ A'.get i = some (j, v) := by
  simp only [Arr.wr, beq_eq, ltb_eq, ble_eq] at h
  split at h
  · rename_i hc
    simp at hc h
    subst h
    refine ⟨hc.1, hc.2.1, hc.2.2.1, hc.2.2.2, rfl, rfl, rfl, fun i' hi' => ?_, ?_⟩
    · simp [Arr.get, Tr.get_set_ne _ _ hi']
    · simp [Arr.get, ltb_eq, ble_eq, hc.2.2]
  · cases h

theorem heap_setCell_ne (w : World) (a : Addr) (u : Value) {k : Nat} (h : k ≠ a.block) : (w.setCell a u).heap[k]? = w.heap[k]? := by
  simp only [World.setCell, Array.getElem?_modify]
  rw [if_neg (by omega)]
theorem heap_setCell_eq (w : World) (b o : Nat) (u : Value) {cs : Array Value} {E : TypeId} {fz : Nat × Nat} (h : w.heap[b]? = some (.cells cs E fz)) :
    (w.setCell ⟨b, o, none⟩ u).heap[b]? = some (.cells (cs.setIfInBounds o u) E fz) := by
  simp [World.setCell, Array.getElem?_modify, h]

/-- One cell written. -/
theorem Rel.wr {P : Program} {σ : Sg} {s : AS} {w : World} (r : Rel P σ s w) {a j i : Nat} {v : AV} {A A' : Arr} (h : j < (σ.ar a).length) (hA : s.arrs.get a = some A)
    (hv : In σ v) (hw : A.wr j i v = some A') :
    (store (σ.adr a j i) (conc σ v)).run P w = .ok () (w.setCell (σ.adr a j i) (conc σ v)) ∧ (σ.vi a j).sh ≤ i ∧
    Rel P σ { s with arrs := s.arrs.set a A' } (w.setCell (σ.adr a j i) (conc σ v)) ∧
    Ext σ s w σ { s with arrs := s.arrs.set a A' } (w.setCell (σ.adr a j i) (conc σ v)) := by
  obtain ⟨A₀, cs, E, fz, h1, h2, h3, h4, h5, h6⟩ := r.at h
  rw [hA] at h1; cases h1
  obtain ⟨hj, hl, hn, hlo, hver, hn', hlo', hget, hnew⟩ := wr_rd hw
  obtain ⟨m, v₀, hg, hm⟩ := h2.full i hlo hn
  have hrd : A.rd j i = some v₀ := by simp [Arr.rd, hg, ble_eq, hj, hm]
  have hrd' : s.rd a j i = some v₀ := by simp [AS.rd, hA, hrd]
  obtain ⟨hsh, hcell, hfz, _⟩ := r.rd h hrd'
  have hne : σ.ar a ≠ [] := List.ne_nil_of_mem (Sg.vi_mem h)
  have hin : i - (σ.vi a j).sh < cs.size := by
    have := (h6 i v₀ hrd).2
    rcases Nat.lt_or_ge (i - (σ.vi a j).sh) cs.size with h | h
    · exact h
    · rw [Array.getElem?_eq_none h] at this; cases this
  have hrdA : ∀ j' i' v', A'.rd j' i' = some v' → (i' ≠ i ∧ A.rd j' i' = some v') ∨ (i' = i ∧ j ≤ j' ∧ v' = v) := by
    intro j' i' v' hh
    by_cases hi : i' = i
    · subst hi
      simp only [Arr.rd, hnew, ble_eq] at hh
      split at hh
      · rename_i hb; simp at hb hh; exact .inr ⟨rfl, hb, hh.symm⟩
      · cases hh
    · simp only [Arr.rd, hget i' hi] at hh
      exact .inl ⟨hi, by simpa only [Arr.rd] using hh⟩
  have hblock : ∀ k, k ≠ (σ.vi a j).blk → (w.setCell (σ.adr a j i) (conc σ v)).heap[k]? = w.heap[k]? := fun k hk => heap_setCell_ne w _ _ hk
  refine ⟨?_, hsh, ?_, ?_⟩
  · rw [run_store P w _ _ _ (oneCell_conc r hl), hcell]; simp [hfz]
  · constructor
    · intro a'
      by_cases ha : a' = a
      · subst ha
        intro _
        refine ⟨A', by simp, ?_⟩
        refine ⟨by rw [h2.len, hver], ?_, h2.shs, ?_, ?_⟩
        · intro i' hi1 hi2
          by_cases hi : i' = i
          · subst hi; exact ⟨j, v, hnew, by omega⟩
          · rw [hget i' hi]; rw [hver]; exact h2.full i' (by omega) (by omega)
        · intro j' i' v' hh
          rcases hrdA j' i' v' hh with ⟨_, h'⟩ | ⟨_, _, rfl⟩
          · exact h2.inn j' i' v' h'
          · exact hv
        · intro j' vi' hj'
          obtain ⟨cs', E', fz', k1, k2, k3, k4⟩ := h2.blk j' vi' hj'
          by_cases hb : vi'.blk = (σ.vi a' j).blk
          · have hs' : vi'.sh = (σ.vi a' j).sh := h2.shs _ _ (List.mem_of_getElem? hj') (Sg.vi_mem h) hb
            rw [hb, h3] at k1
            simp only [Option.some.injEq, Obj.cells.injEq] at k1
            obtain ⟨rfl, rfl, rfl⟩ := k1
            refine ⟨cs.setIfInBounds (i - (σ.vi a' j).sh) (conc σ v), E, fz, ?_, by simpa using k2, by simpa using k3, ?_⟩
            · rw [hb]; exact heap_setCell_eq w _ _ _ h3
            · intro i' v' hh
              rcases hrdA j' i' v' hh with ⟨hi, h'⟩ | ⟨rfl, _, rfl⟩
              · obtain ⟨k5, k6⟩ := k4 i' v' h'
                refine ⟨k5, ?_⟩
                rw [Array.getElem?_setIfInBounds_ne (by omega)]; exact k6
              · refine ⟨by omega, ?_⟩
                rw [hs', Array.getElem?_setIfInBounds_self]; simp [hin]
          · refine ⟨cs', E', fz', by rw [hblock _ hb]; exact k1, k2, k3, ?_⟩
            intro i' v' hh
            rcases hrdA j' i' v' hh with ⟨_, h'⟩ | ⟨rfl, hle, rfl⟩
            · exact k4 i' v' h'
            · exfalso
              have hlen := h2.len
              have : j' < (σ.ar a').length := by
                rcases Nat.lt_or_ge j' (σ.ar a').length with h | h
                · exact h
                · rw [List.getElem?_eq_none h] at hj'; cases hj'
              have hjj : j' = j := by omega
              subst hjj
              rw [Sg.vi_get h] at hj'
              exact hb (by cases hj'; rfl)
      · refine (r.arr a').mono (.refl σ) rfl (by simp [Tr.get_set_ne _ _ ha]) fun vi hvi => hblock _ fun hb => ha (r.inj a' a vi _ hvi (Sg.vi_mem h) hb)
    · exact r.inj
    · intro m
      refine (r.map m).mono (.refl σ) rfl rfl fun b hb => hblock _ ?_
      rintro rfl
      obtain ⟨M, _, hM, _⟩ := r.map m _ hb
      rw [h3] at hM; cases hM
    · exact r.minj
    · intro l
      refine (r.lop l).mono (.refl σ) rfl rfl fun b hb => hblock _ ?_
      rintro rfl
      obtain ⟨L, _, hL⟩ := r.lop l _ hb
      obtain ⟨N, fn, tmps, asn, body, d, hL1, _⟩ := hL.ex
      rw [h3] at hL1; cases hL1
    · exact r.linj
    · exact r.na
    · exact r.nm
    · exact r.nl
    · exact r.opq
    · refine ⟨fun x hx => ?_, r.wf.map⟩
      have hne : x ≠ a := by
        rintro rfl
        have := r.wf.arr x hx
        rw [hA] at this; cases this
      simp only; rw [Tr.get_set_ne _ _ hne]; exact r.wf.arr x hx
  · refine ⟨.refl σ, fun _ h => .inl h, fun b _ hb => hblock b fun e => hb (.inl ⟨a, _, Sg.vi_mem h, e.symm⟩), by simp, rfl, rfl, rfl, Nat.le_refl _, Nat.le_refl _, Nat.le_refl _, ?_, fun _ _ h => ⟨rfl, h⟩⟩
    intro a' _ ha'
    refine ⟨Tr.get_set_ne _ _ fun e => hne (e ▸ ha'), ha'⟩


theorem Tr.set_sing {α : Type} (f k : Nat) (x y : α) (h : k ≤ f) : (Tr.sing f k x).set k y = Tr.sing f k y := by
  induction f generalizing k with
  | zero =>
    obtain rfl : k = 0 := by omega
    simp [Tr.sing_zero, Tr.sing_succ, Tr.set_nil, Tr.set_node, beq_eq]
  | succ f ih =>
    simp only [Tr.sing_zero, Tr.sing_succ, beq_eq]
    by_cases h0 : k = 0
    · subst h0; simp [Tr.set_nil, Tr.set_node, beq_eq]
    · simp only [h0, decide_false]
      by_cases h2 : k % 2 = 1
      · simp only [h2, decide_true, Tr.set_nil, Tr.set_node, beq_eq, h0, decide_false, ih (k / 2) (by omega)]
      · simp only [h2, decide_false, Tr.set_nil, Tr.set_node, beq_eq, h0, ih (k / 2 - 1) (by omega)]

theorem Tr.set_set {α : Type} (t : Tr α) (k : Nat) (x y : α) : (t.set k x).set k y = t.set k y := by
  induction t generalizing k with
  | e => exact Tr.set_sing k k x y (Nat.le_refl _)
  | n l v r ihl ihr =>
    simp only [Tr.set_nil, Tr.set_node, beq_eq]
    by_cases h0 : k = 0
    · subst h0; simp [Tr.set_nil, Tr.set_node, beq_eq]
    · simp only [h0, decide_false]
      by_cases h2 : k % 2 = 1
      · simp only [h2, decide_true, Tr.set_nil, Tr.set_node, beq_eq, h0, decide_false, ihl]
      · simp only [h2, decide_false, Tr.set_nil, Tr.set_node, beq_eq, h0, ihr]

theorem Tr.set_get {α : Type} {t : Tr α} {k : Nat} {x : α} (h : t.get k = some x) : t.set k x = t := by
  induction t generalizing k with
  | e => simp at h
  | n l v r ihl ihr =>
    simp only [Tr.get_nil, Tr.get_node, beq_eq] at h
    simp only [Tr.set_nil, Tr.set_node, beq_eq]
    by_cases h0 : k = 0
    · simp only [h0, decide_true] at h ⊢; rw [h]
    · simp only [h0, decide_false] at h ⊢
      by_cases h2 : k % 2 = 1
      · simp only [h2, decide_true] at h ⊢; rw [ihl h]
      · simp only [h2, decide_false] at h ⊢; rw [ihr h]

theorem wrN_hit {A A' : Arr} {j i : Nat} {l : List AV} (h : wrN A j i l = some A') : (l = [] ∧ A' = A) ∨ ∃ v l' A₁, l = v :: l' ∧ A.wr j i v = some A₁ ∧ wrN A₁ j (i + 1) l' = some A' := by
  cases l with
  | nil => simp [wrN] at h; exact .inl ⟨rfl, h.symm⟩
  | cons v l =>
    simp only [wrN] at h
    split at h
    · rename_i A₁ hA; exact .inr ⟨v, l, A₁, rfl, hA, h⟩
    · cases h

/-- A row of cells written, one behind the other. -/
theorem Rel.wrN {P : Program} {σ : Sg} {l : List AV} : ∀ {s s' : AS} {w : World} {a j i₀ k : Nat}, Rel P σ s w → j < (σ.ar a).length → (σ.vi a j).sh ≤ i₀ → InL σ l → s.wrN a j (i₀ + k) l = some s' →
    ∃ w', (storeCells (σ.adr a j i₀) (concL σ l) k).run P w = .ok () w' ∧ Rel P σ s' w' ∧ Ext σ s w σ s' w' := by
  induction l with
  | nil =>
    intro s s' w a j i₀ k r _ _ _ h
    simp only [AS.wrN, Ab.wrN] at h
    split at h
    · rename_i A hA
      simp at h; subst h
      refine ⟨w, by simp [concL, storeCells], ?_, ?_⟩
      · rw [Tr.set_get hA]; exact r
      · rw [Tr.set_get hA]; exact .refl _ _ _
    · cases h
  | cons v l ih =>
    intro s s' w a j i₀ k r hj hi hin h
    simp only [InL] at hin
    simp only [AS.wrN] at h
    split at h
    · rename_i A hA
      split at h
      · rename_i A' hA'
        simp at h; subst h
        rcases wrN_hit hA' with ⟨h0, _⟩ | ⟨v', l', A₁, h0, h1, h2⟩
        · cases h0
        · cases h0
          obtain ⟨k1, _, k2, k3⟩ := r.wr hj hA hin.1 h1
          have h3 : ({ s with arrs := s.arrs.set a A₁ } : AS).wrN a j (i₀ + (k + 1)) l = some { s with arrs := s.arrs.set a A' } := by
            simp only [AS.wrN, Tr.get_set_same]
            rw [show i₀ + (k + 1) = i₀ + k + 1 from by omega, h2]
            simp only [Tr.set_set]
          obtain ⟨w', k4, k5, k6⟩ := ih k2 hj hi hin.2 h3
          refine ⟨w', ?_, k5, k3.trans k6⟩
          simp only [concL, storeCells, Sem.run_bind, adr_add hi, k1, Result.andThen_ok]
          exact k4
      · cases h
    · cases h

end Go.Ab
end

noncomputable section
namespace Go.Ab

/-! ### Types -/
theorem run_und {P : Program} {w : World} {t : TypeId} {d : TypeDesc} (h : P.underlying t = some d) : (underlying t).run P w = .ok d w := by
  simp [underlying, h]
theorem run_tinfo {P : Program} {w : World} {t : TypeId} {i : TypeInfo} (h : P.info? t = some i) : (typeInfo t).run P w = .ok i w := by
  simp [typeInfo, h]
theorem tsize_some {P : Program} {t : TypeId} {n : Nat} (h : tsize P.toTables t = some n) : ∃ i, P.info? t = some i ∧ i.size = n := by
  simp only [tsize] at h
  cases hi : P.info? t with
  | none => simp [hi] at h
  | some i => simp [hi] at h; exact ⟨i, rfl, h⟩
theorem tbytes_some {P : Program} {t : TypeId} {n : Nat} (h : tbytes P.toTables t = some n) : ∃ i, P.info? t = some i ∧ i.bytes = n := by
  simp only [tbytes] at h
  cases hi : P.info? t with
  | none => simp [hi] at h
  | some i => simp [hi] at h; exact ⟨i, rfl, h⟩
theorem run_size {P : Program} {w : World} {t : TypeId} {n : Nat} (h : tsize P.toTables t = some n) : (sizeOf t).run P w = .ok n w := by
  obtain ⟨i, h1, h2⟩ := tsize_some h
  simp [sizeOf, run_tinfo h1, h2]
theorem run_agg {P : Program} {w : World} {t : TypeId} {b : Bool} (h : tagg P t = some b) : (isAgg t).run P w = .ok b w := by
  simp only [tagg] at h
  split at h <;> rename_i hu
  · cases h; simp [isAgg, run_und hu]
  · cases h; simp [isAgg, run_und hu]
  · cases h
    rename_i d h1 h2 
    simp only [isAgg, Sem.run_bind, run_und hu, Result.andThen_ok]
    rfl
  · cases h

/-! ### Constants and operands -/
theorem ofLeaf_conc {σ : Sg} {v : Value} {a : AV} (h : ofLeaf v = some a) : conc σ a = v ∧ In σ a := by
  unfold ofLeaf at h
  split at h <;> first | (cases h; done) | (cases h; exact ⟨rfl, trivial⟩)
theorem ofLeaves_conc {σ : Sg} : ∀ {l : List Value} {r : List AV}, ofLeaves l = some r → concL σ r = l ∧ InL σ r
  | [], r, h => by simp [ofLeaves] at h; subst h; exact ⟨rfl, trivial⟩
  | v :: l, r, h => by
    simp only [ofLeaves] at h
    split at h
    · rename_i a ha
      split at h
      · rename_i m hm
        cases h
        obtain ⟨h1, h2⟩ := ofLeaf_conc (σ := σ) ha
        obtain ⟨h3, h4⟩ := ofLeaves_conc (σ := σ) hm
        exact ⟨by simp [concL, h1, h3], h2, h4⟩
      · cases h
    · cases h
theorem ofV_conc {σ : Sg} {v : Value} {a : AV} (h : ofV v = some a) : conc σ a = v ∧ In σ a := by
  unfold ofV at h
  split at h
  · rename_i cs
    cases hl : ofLeaves cs.toList with
    | none => simp [hl] at h
    | some r =>
      simp [hl] at h; subst h
      obtain ⟨h1, h2⟩ := ofLeaves_conc (σ := σ) hl
      exact ⟨by simp [conc, h1], by simpa [In] using h2⟩
  · rename_i cs
    split at h
    · rename_i hc
      cases h
      have : cs = #[] := by simpa using hc
      subst this
      exact ⟨rfl, trivial⟩
    · cases h
  · exact ofLeaf_conc h

/-- Operands as the abstract temporaries give them. -/
def REv (σ : Sg) (T : Tr AV) (ρ : Operand → Value) : Prop := ∀ x x', cEO x = some x' → ρ x = conc σ (x'.ev T) ∧ In σ (x'.ev T)

theorem RTmp.ev {σ : Sg} {N : Nat} {T : Tr AV} {tmps : Array Value} (r : RTmp σ N T tmps) {ρ : Operand → Value}
    (h1 : ∀ t, ρ (.tmp t) = tmps.getD t Go.undef) (h2 : ∀ v, ρ (.const v) = v) (h3 : ∀ f, ρ (.func f) = .func (.func f) #[] #[]) : REv σ T ρ := by
  intro x x' h
  unfold cEO at h
  split at h
  · cases h; exact ⟨by rw [h1, (r.2 _).2], (r.2 _).1⟩
  · rename_i v
    cases hv : ofV v with
    | none => simp [hv] at h
    | some a =>
      simp [hv] at h; subst h
      obtain ⟨k1, k2⟩ := ofV_conc (σ := σ) hv
      exact ⟨by rw [h2]; exact k1.symm, k2⟩
  · cases h; rw [h3]; exact ⟨rfl, trivial, trivial⟩
  · cases h

theorem REv.le {σ τ : Sg} {T : Tr AV} {ρ : Operand → Value} (r : REv σ T ρ) (h : σ.le τ) : REv τ T ρ := fun x x' hx =>
  ⟨by rw [(r x x' hx).1, (conc_le h _ (r x x' hx).2).1], (conc_le h _ (r x x' hx).2).2⟩

theorem cEOs_conc {σ : Sg} {T : Tr AV} {ρ : Operand → Value} (r : REv σ T ρ) : ∀ {l : List Operand} {l' : List EO}, cEOs l = some l' → l.map ρ = concL σ (evs T l') ∧ InL σ (evs T l')
  | [], l', h => by simp [cEOs] at h; subst h; exact ⟨rfl, trivial⟩
  | x :: l, l', h => by
    simp only [cEOs] at h
    split at h
    · rename_i a ha
      split at h
      · rename_i m hm
        cases h
        obtain ⟨h1, h2⟩ := r _ _ ha
        obtain ⟨h3, h4⟩ := cEOs_conc r hm
        exact ⟨by simp [evs, concL, h1, h3], h2, h4⟩
      · cases h
    · cases h

/-- What the unknowns are known to be. -/
structure EOk (E : Env) (σ : Sg) : Prop where
  rng : ∀ (i : Nat) a b, E.rng[i]? = some (a, b) → a ≤ σ.sym i ∧ σ.sym i ≤ b
  rem : ∀ (p : Nat × Nat × Nat), p ∈ E.rem → (IntKind.u64.wrap (σ.sym p.1)).tmod (p.2.1 : Int) = (p.2.2 : Int)

theorem EOk.le {E : Env} {σ τ : Sg} (h : EOk E σ) (k : σ.le τ) : EOk E τ := ⟨by rw [k.sym]; exact h.rng, by rw [k.sym]; exact h.rem⟩

/-- What an operation comes to: a value (or none), in a world that fits. -/
def Res (P : Program) (σ : Sg) (s : AS) (w : World) (r : Result Next) (v : AV) (s' : AS) : Prop :=
  ∃ σ' w', (r = .ok (.value (conc σ' v)) w' ∨ (v = .undef ∧ r = .ok .skip w')) ∧ Rel P σ' s' w' ∧ In σ' v ∧ Ext σ s w σ' s' w'

theorem Res.pure {P : Program} {σ : Sg} {s : AS} {w : World} {v : AV} (r : Rel P σ s w) (h : In σ v) : Res P σ s w (.ok (.value (conc σ v)) w) v s :=
  ⟨σ, w, .inl rfl, r, h, .refl _ _ _⟩
theorem Res.of {P : Program} {σ : Sg} {s : AS} {w : World} {v : AV} {x : Result Next} (r : Rel P σ s w) (h : In σ v) (hx : x = .ok (.value (conc σ v)) w) : Res P σ s w x v s :=
  hx ▸ Res.pure r h

/-- 'do pure (.value (← s))'. -/
theorem run_v {P : Program} {w : World} (s : Sem Value) : (do pure (Next.value (← s)) : Sem Next).run P w = (s.run P w).andThen fun v w' => .ok (.value v) w' := by
  simp
theorem run_u {P : Program} {w : World} (s : Sem Unit) : (do s; pure Next.skip : Sem Next).run P w = (s.run P w).andThen fun _ w' => .ok .skip w' := by
  simp

theorem conc_cells {P : Program} {σ : Sg} {s : AS} {w : World} (r : Rel P σ s w) (v : AV) : (conc σ v).cells = (concL σ (cellsOf v)).toArray := by
  cases v with
  | opq i =>
    have h := r.opq i
    simp only [conc, cellsOf, concL]
    generalize σ.opq i = u at h
    cases u <;> first | rfl | (simp [Value.oneCell'] at h)
  | sl a j o l c => rfl
  | _ => rfl

theorem In_cells {σ : Sg} {v : AV} (h : In σ v) : InL σ (cellsOf v) := by
  cases v <;> first | exact ⟨h, trivial⟩ | exact h

theorem concL_length (σ : Sg) (l : List AV) : (concL σ l).length = l.length := by simp [concL_eq]

/-! ### Loads and stores -/
theorem sim_ld1 {P : Program} {σ : Sg} {s : AS} {w : World} (r : Rel P σ s w) {t : TypeId} {a j o : Nat} {v : AV} (hin : In σ (.ptr a j o)) (ht : tagg P t = some false) (h : s.rd a j o = some v) :
    (Instr.loadAt t (conc σ (.ptr a j o))).run P w = .ok (conc σ v) w ∧ In σ v := by
  simp only [In] at hin
  obtain ⟨h1, h2, h3, h4⟩ := r.rd hin.1 h
  refine ⟨?_, h4⟩
  simp only [Instr.loadAt, conc, Instr.sureAddr, loadVar, Sem.run_bind, Sem.run_pure, Result.andThen_ok, run_agg ht, Bool.false_eq_true, if_false]
  exact run_load_some h2

theorem sim_ldn {P : Program} {σ : Sg} {s : AS} {w : World} (r : Rel P σ s w) {t : TypeId} {a j o n : Nat} {l : List AV} (hin : In σ (.ptr a j o)) (ht : tagg P t = some true) (hn : tsize P.toTables t = some n)
    (h : s.rdN a j o n = some l) : (Instr.loadAt t (conc σ (.ptr a j o))).run P w = .ok (conc σ (.agg l)) w ∧ In σ (.agg l) := by
  simp only [In] at hin
  obtain ⟨h1, h2, h3⟩ := r.rdN hin.1 hin.2 h
  refine ⟨?_, by simpa [In] using h2⟩
  simp only [Instr.loadAt, conc, Instr.sureAddr, loadVar, Sem.run_bind, Sem.run_pure, Result.andThen_ok, run_agg ht, if_true, run_size hn, h1]

theorem sim_st {P : Program} {σ : Sg} {s s' : AS} {w : World} (r : Rel P σ s w) {t : TypeId} {a j o n : Nat} {v : AV} (hin : In σ (.ptr a j o)) (hv : In σ v) (hn : tsize P.toTables t = some n)
    (hl : (cellsOf v).length = n) (h : s.wrN a j o (cellsOf v) = some s') :
    ∃ w', (Instr.storeAt t (conc σ (.ptr a j o)) (conc σ v)).run P w = .ok () w' ∧ Rel P σ s' w' ∧ Ext σ s w σ s' w' := by
  simp only [In] at hin
  obtain ⟨w', h1, h2, h3⟩ := r.wrN (k := 0) hin.1 hin.2 (In_cells hv) h
  refine ⟨w', ?_, h2, h3⟩
  simp only [Instr.storeAt, conc, Instr.sureAddr, storeVar, Sem.run_bind, Sem.run_pure, Result.andThen_ok, run_size hn]
  rw [conc_cells r]
  simp only [List.size_toArray, concL_length, hl, ne_eq, not_true_eq_false, if_false]
  exact h1

end Go.Ab
end

noncomputable section
namespace Go.Ab

theorem wrap64_id {n : Int} (h1 : -9223372036854775808 ≤ n) (h2 : n ≤ 9223372036854775807) : IntKind.i64.wrap n = n := by
  have e : IntKind.i64.wrap n = (if n % 18446744073709551616 ≥ 9223372036854775808 then n % 18446744073709551616 - 18446744073709551616 else n % 18446744073709551616) := by
    simp [IntKind.wrap, IntKind.signed, IntKind.bits]
  rw [e]; split <;> omega

theorem i64ok_spec {E : Env} {σ : Sg} (h : EOk E σ) {i : Nat} {o : Int} (k : i64ok E i o = true) : IntKind.i64.wrap (σ.sym i + o) = σ.sym i + o := by
  unfold i64ok at k
  split at k
  · rename_i a b hr
    have := h.rng i a b hr
    simp at k
    exact wrap64_id (by omega) (by omega)
  · cases k

theorem intBin_run {P : Program} {w : World} {σ : Sg} {op : BinOp} {k : IntKind} {a b : Int} {v : AV} (h : intBin op k a b = some v) (t : TypeId) (hs : isShift op = false) :
    (binOp op t (.int k a) (.int k b)).run P w = .ok (conc σ v) w ∧ In σ v := by
  cases op <;> simp only [intBin, isShift] at h hs <;> first
    | (cases hs; done)
    | (cases h; exact ⟨by simp [binOp, Op.intArith, Op.intBits, Op.intCmp, conc], trivial⟩)
    | (split at h <;> first
        | (cases h; done)
        | (rename_i hb; cases h; simp at hb; exact ⟨by simp [binOp, Op.intDiv, conc, hb], trivial⟩))

theorem shiftBin_run {P : Program} {w : World} {σ : Sg} {op : BinOp} {k k' : IntKind} {a b : Int} {v : AV} (h : shiftBin op k a b = some v) (t : TypeId) :
    (binOp op t (.int k a) (.int k' b)).run P w = .ok (conc σ v) w ∧ In σ v := by
  unfold shiftBin at h
  split at h
  · cases h
  · rename_i hb
    simp at hb
    have hb' : ¬ b < 0 := by omega
    cases op <;> first
      | (cases h; done)
      | (cases h; exact ⟨by simp [binOp, Op.shift, conc, hb'], trivial⟩)

theorem strBin_run {P : Program} {w : World} {σ : Sg} {op : BinOp} {a b : ByteArray} {v : AV} (h : strBin op a b = some v) (t : TypeId) :
    (binOp op t (.string a) (.string b)).run P w = .ok (conc σ v) w ∧ In σ v := by
  cases op <;> simp only [strBin] at h <;> first
    | (cases h; done)
    | (cases h; exact ⟨by simp [binOp, Op.stringOp, conc], trivial⟩)
    | (split at h
       · rename_i hb
         cases h
         simp [ble_eq] at hb
         refine ⟨?_, trivial⟩
         have hm : ¬ ((a.size + b.size : Nat) : Int) > IntKind.i64.max := by
           have e : IntKind.i64.max = 9223372036854775807 := by decide
           rw [e]; omega
         simp only [binOp, Op.stringOp, if_neg hm]
         rfl
       · cases h)

theorem same_kind {a b : IntKind} (h : IntKind.same a b = true) : a = b := by simpa [IntKind.same] using h
theorem isI64_eq {k : IntKind} (h : isI64 k = true) : k = .i64 := by cases k <;> first | rfl | cases h
theorem isU64_eq {k : IntKind} (h : isU64 k = true) : k = .u64 := by cases k <;> first | rfl | cases h

/-- The number that a value stands for. -/
def numOf (σ : Sg) : AV → Int
  | .int _ n => n
  | .sym i o => σ.sym i + o
  | _ => 0

theorem rngOf_spec {E : Env} {σ : Sg} (h : EOk E σ) {x : AV} {p : Int × Int} (k : rngOf E x = some p) : p.1 ≤ numOf σ x ∧ numOf σ x ≤ p.2 := by
  unfold rngOf at k
  split at k
  · cases k; simp [numOf]
  · split at k
    · rename_i hr
      have := h.rng _ _ _ hr
      cases k; simp only [numOf]; omega
    · cases k
  · cases k

theorem lssR_spec {p q : Int × Int} {b : Bool} {x y : Int} (h : lssR p q = some b) (hp : p.1 ≤ x ∧ x ≤ p.2) (hq : q.1 ≤ y ∧ y ≤ q.2) : decide (x < y) = b := by
  unfold lssR at h
  split at h
  · rename_i h1; cases h; simp at h1; simp; omega
  · split at h
    · rename_i h1; cases h; simp at h1; simp; omega
    · cases h

theorem eqlR_spec {p q : Int × Int} {b : Bool} {x y : Int} (h : eqlR p q = some b) (hp : p.1 ≤ x ∧ x ≤ p.2) (hq : q.1 ≤ y ∧ y ≤ q.2) : (x == y) = b := by
  unfold eqlR at h
  split at h
  · rename_i h1; cases h; simp at h1; simp; omega
  · split at h
    · rename_i h1; cases h; simp at h1; simp; omega
    · cases h

theorem notO_spec {o : Option Bool} {b : Bool} (h : notO o = some b) : o = some (!b) := by
  cases o with
  | none => cases h
  | some c => simp [notO] at h; subst h; simp

theorem cmpR_run {P : Program} {w : World} {op : BinOp} {p q : Int × Int} {b : Bool} {x y : Int} (h : cmpR op p q = some b) (hp : p.1 ≤ x ∧ x ≤ p.2) (hq : q.1 ≤ y ∧ y ≤ q.2) (t : TypeId) :
    (binOp op t (.int .i64 x) (.int .i64 y)).run P w = .ok (.bool b) w := by
  cases op <;> simp only [cmpR] at h <;> first | (cases h; done) | skip
  · have := eqlR_spec h hp hq; simp [binOp, Op.intCmp, this]
  · have := eqlR_spec (notO_spec h) hp hq; simp [binOp, Op.intCmp, bne, this]
  · have := lssR_spec h hp hq; simp [binOp, Op.intCmp, this]
  · have := lssR_spec (notO_spec h) hq hp
    have h2 : decide (x ≤ y) = b := by
      cases b <;> simp at this ⊢ <;> omega
    simp [binOp, Op.intCmp, h2]
  · have := lssR_spec h hq hp
    simp [binOp, Op.intCmp, this]
  · have := lssR_spec (notO_spec h) hp hq
    have h2 : decide (x ≥ y) = b := by
      cases b <;> simp at this ⊢ <;> omega
    simp [binOp, Op.intCmp, h2]

theorem symCmp_run {P : Program} {w : World} {E : Env} {σ : Sg} (he : EOk E σ) {op : BinOp} {x y v : AV} (h : symCmp E op x y = some v) (t : TypeId) :
    (binOp op t (.int .i64 (numOf σ x)) (.int .i64 (numOf σ y))).run P w = .ok (conc σ v) w ∧ In σ v := by
  unfold symCmp at h
  split at h
  · rename_i p hp
    split at h
    · rename_i q hq
      split at h
      · rename_i b hb
        cases h
        exact ⟨cmpR_run hb (rngOf_spec he hp) (rngOf_spec he hq) t, trivial⟩
      · cases h
    · cases h
  · cases h

theorem guard_run {P : Program} {w : World} {op : BinOp} {t : TypeId} {x y : Operand} {a b : Value} (h1 : op ≠ .eql) (h2 : op ≠ .neq) : (eqGuard op t x y a b).run P w = .ok () w := by
  cases op <;> first | exact absurd rfl h1 | exact absurd rfl h2 | rfl

theorem sim_bin {P : Program} {w : World} {E : Env} {σ : Sg} (he : EOk E σ) {op : BinOp} {x y v : AV} (h : binAV E op x y = some v) (t : TypeId) :
    (binOp op t (conc σ x) (conc σ y)).run P w = .ok (conc σ v) w ∧ In σ v := by
  unfold binAV at h
  split at h
  · split at h
    · exact shiftBin_run h t
    · rename_i hs
      split at h
      · rename_i hk; rw [same_kind hk] at h ⊢; exact intBin_run h t hs
      · cases h
  · exact strBin_run h t
  · split at h
    · cases h
    · rename_i hk
      rw [isI64_eq hk]
      split at h
      · split at h
        · rename_i hi
          cases h
          have := i64ok_spec he hi
          refine ⟨?_, trivial⟩
          simp only [binOp, conc]
          simp [Op.intArith]
          rw [Int.add_assoc]; exact this
        · cases h
      · split at h
        · rename_i hi
          cases h
          have := i64ok_spec he hi
          refine ⟨?_, trivial⟩
          simp only [binOp, conc]
          simp [Op.intArith]
          rw [Int.add_sub_assoc]; exact this
        · cases h
      · exact symCmp_run he h t
  · split at h
    · cases h
    · rename_i hk
      rw [isI64_eq hk]
      split at h
      · exact symCmp_run he h t
      · cases h
  · split at h
    · exact symCmp_run he h t
    · cases h
  · split at h
    · cases h
    · rename_i hk
      rw [isU64_eq hk]
      split at h
      · split at h
        · rename_i p hp
          have h1 := List.mem_of_find?_eq_some hp
          have h2 := List.find?_some hp
          simp [beq_eq, ble_eq] at h2
          cases h
          have h3 := he.rem _ h1
          simp only at h3 h2
          refine ⟨?_, trivial⟩
          obtain ⟨h4, h6, h5⟩ := h2
          subst h4
          rw [← h5]
          simp only [binOp, conc, Op.intDiv]
          simp [h3]; intro hz; omega
        · cases h
      · cases h
  · cases h

end Go.Ab
end

noncomputable section
namespace Go.Ab

theorem equal_eq (t : TypeId) (x y : Value) : Op.equal t x y = Op.equalIn (9999 + 1) t x y := rfl

/-- Of what type a leaf is. -/
def isLK (P : Program) (t : TypeId) : LK → Prop
  | .b => P.underlying t = some .bool
  | .i => ∃ k, P.underlying t = some (.int k)
  | .s => P.underlying t = some .string

theorem symB_some {o : Option AV} {b : Bool} (h : symB o = some b) : o = some (.bool b) := by
  unfold symB at h
  split at h
  · cases h; rfl
  · cases h

/-- Two leaves: as the interpreter holds them against one another, whatever the depth. -/
theorem eqLeaf_in {P : Program} {w : World} {E : Env} {σ : Sg} (he : EOk E σ) {t : TypeId} {k : LK} {x y : AV} {b : Bool} (h : eqLeaf E k x y = some b) (ht : isLK P t k) (d : Nat) :
    (Op.equalIn (d + 1) t (conc σ x) (conc σ y)).run P w = .ok b w := by
  cases k with
  | b =>
    simp only [isLK] at ht
    simp only [eqLeaf] at h
    split at h
    · cases h; exact run_equalIn_bool' w d t _ _ ht
    · cases h
  | s =>
    simp only [isLK] at ht
    simp only [eqLeaf] at h
    split at h
    · cases h; exact run_equalIn_string w d t _ _ ht
    · cases h
  | i =>
    obtain ⟨k', ht⟩ := ht
    simp only [eqLeaf] at h
    split at h
    · split at h
      · rename_i hk
        cases h
        rw [same_kind hk]
        exact run_equalIn_int w d t _ _ _ _ ht
      · cases h
    · split at h
      · rename_i hk
        rw [isI64_eq hk]
        obtain ⟨h1, _⟩ := symCmp_run (P := P) (w := w) he (symB_some h) t
        simp only [conc]
        rw [run_equalIn_int w d t _ _ _ _ ht]
        simp [binOp, Op.intCmp, numOf, conc] at h1
        simp [h1]
      · cases h
    · split at h
      · rename_i hk
        rw [isI64_eq hk]
        obtain ⟨h1, _⟩ := symCmp_run (P := P) (w := w) he (symB_some h) t
        simp only [conc]
        rw [run_equalIn_int w d t _ _ _ _ ht]
        simp [binOp, Op.intCmp, numOf, conc] at h1
        simp [h1]
      · cases h
    · cases h

end Go.Ab
end
