/- SHA-256's change by a block, made for the kernel; as an answer at once. -/
import Derived.Test.YtfdnfeillopflaaGreatMh
import Derived.Maps.RangeRun
noncomputable section
namespace Go.Ab

/-- A number, reckoned first. -/
def force {α : Type} (x : Nat) (k : Nat → α) : α := Nat.rec (motive := fun _ => α) (k 0) (fun n _ => k (Nat.succ n)) x
theorem force_eq {α : Type} (x : Nat) (k : Nat → α) : force x k = k x := by cases x <;> rfl

def rotF (x m d : Nat) : Nat := Nat.mod (Nat.lor (Nat.mod (Nat.mod (Nat.mul x m) 4294967296) 4294967296) (Nat.mod (Nat.div x d) 4294967296)) 4294967296
def xorF (a b : Nat) : Nat := Nat.mod (Nat.xor (Nat.mod a 4294967296) (Nat.mod b 4294967296)) 4294967296
def andF (a b : Nat) : Nat := Nat.mod (Nat.land (Nat.mod a 4294967296) (Nat.mod b 4294967296)) 4294967296
def addF (a b : Nat) : Nat := Nat.mod (Nat.add a b) 4294967296
def comF (a : Nat) : Nat := Nat.mod (Nat.xor 4294967295 (Nat.mod a 4294967296)) 4294967296
theorem addF_eq (a b : Nat) : addF a b = add32 a b := rfl
theorem xorF_eq (a b : Nat) : xorF a b = xor32 a b := rfl
theorem andF_eq (a b : Nat) : andF a b = and32 a b := rfl
theorem comF_eq (a : Nat) : comF a = com32 a := rfl
theorem shrF_eq (x n d : Nat) (hd : 2 ^ min n 32 = d) : Nat.div x d = shr32 x n := by rw [← hd]; rfl
theorem rotF_eq (x n m d : Nat) (hm : 2 ^ min (32 - n) 32 = m) (hd : 2 ^ min n 32 = d) : rotF x m d = rot32 x n := by
  simp only [rot32, or32, shl32, shr32, hm, hd]; rfl
def wordF (a b c d : Nat) : Nat :=
  or32 (or32 (or32 (shl32 (a % 4294967296) 24) (shl32 (b % 4294967296) 16)) (shl32 (c % 4294967296) 8)) (d % 4294967296)
def wordsF : List Nat → List Nat
  | a :: b :: c :: d :: l => wordF a b c d :: wordsF l
  | _ => []
def nextF (w16 w15 w7 w2 : Nat) : Nat :=
  addF (addF (addF w16 (xorF (xorF (rotF w15 33554432 128) (rotF w15 16384 262144)) (Nat.div w15 8))) w7) (xorF (xorF (rotF w2 32768 131072) (rotF w2 8192 524288)) (Nat.div w2 1024))
theorem nextF_eq (a b c d : Nat) : nextF a b c d = shaNext a b c d := by
  simp only [nextF, shaNext, rotF_eq b 7 33554432 128 (by decide) (by decide), rotF_eq b 18 16384 262144 (by decide) (by decide), rotF_eq d 17 32768 131072 (by decide) (by decide), rotF_eq d 19 8192 524288 (by decide) (by decide), shrF_eq b 3 8 (by decide), shrF_eq d 10 1024 (by decide), addF_eq, xorF_eq]
def nthF (l : List Nat) (k : Nat) : Nat := l.getD k 0
def extF : Nat → List Nat → List Nat
  | 0, r => r
  | n + 1, r => force (nextF (nthF r 15) (nthF r 14) (nthF r 6) (nthF r 1)) fun x => extF n (x :: r)
def roundF (s : W8) (k w : Nat) : W8 :=
  match s with
  | ⟨a, b, c, d, e, f, g, h⟩ =>
    force (addF (addF (addF (addF h (xorF (xorF (rotF e 67108864 64) (rotF e 2097152 2048)) (rotF e 128 33554432))) (xorF (andF e f) (andF (comF e) g))) k) w) fun one =>
    force (addF one (addF (xorF (xorF (rotF a 1073741824 4) (rotF a 524288 8192)) (rotF a 1024 4194304)) (xorF (xorF (andF a b) (andF a c)) (andF b c)))) fun x =>
    force (addF d one) fun y => ⟨x, a, b, c, y, e, f, g⟩
theorem roundF_eq (s : W8) (k w : Nat) : roundF s k w = shaRound s k w := by
  obtain ⟨a, b, c, d, e, f, g, h⟩ := s
  simp only [roundF, force_eq, shaRound, rotF_eq e 6 67108864 64 (by decide) (by decide), rotF_eq e 11 2097152 2048 (by decide) (by decide), rotF_eq e 25 128 33554432 (by decide) (by decide),
    rotF_eq a 2 1073741824 4 (by decide) (by decide), rotF_eq a 13 524288 8192 (by decide) (by decide), rotF_eq a 22 1024 4194304 (by decide) (by decide), addF_eq, xorF_eq, andF_eq, comF_eq]
attribute [irreducible] roundF
def roundsF (ks : List Nat) : List Nat → W8 → W8 :=
  List.rec (motive := fun _ => List Nat → W8 → W8) (fun _ s => s) (fun k _ ih ws s => List.rec (motive := fun _ => W8) s (fun w ws' _ => ih ws' (roundF s k w)) ws) ks
theorem roundsF_cons (k w : Nat) (ks ws : List Nat) (s : W8) : roundsF (k :: ks) (w :: ws) s = roundsF ks ws (roundF s k w) := by delta roundsF; rfl
theorem roundsF_nil (s : W8) : roundsF [] [] s = s := by delta roundsF; rfl
/-- The eight words behind a block. -/
def shaF (K bytes : List Nat) (s : W8) : W8 :=
  let t := roundsF K (extF 48 (wordsF bytes).reverse).reverse s
  ⟨addF s.a t.a, addF s.b t.b, addF s.c t.c, addF s.d t.d, addF s.e t.e, addF s.f t.f, addF s.g t.g, addF s.h t.h⟩

theorem wordsF_at (b : Nat → Nat) : ∀ (n i : Nat), wordsF ((List.range' (4 * i) (4 * n)).map b) = (List.range' i n).map (shaWord b) := by
  intro n
  induction n with
  | zero => intro i; rfl
  | succ n ih =>
    intro i
    rw [show 4 * (n + 1) = 4 * n + 1 + 1 + 1 + 1 from by omega]
    simp only [List.range'_succ, List.map_cons, wordsF]
    rw [show 4 * i + 1 + 1 + 1 + 1 = 4 * (i + 1) from by omega, ih (i + 1)]
    rfl

theorem ext_at (b : Nat → Nat) : ∀ (n t : Nat), 16 ≤ t → extF n ((List.range t).map (shaSch b)).reverse = ((List.range (t + n)).map (shaSch b)).reverse := by
  intro n
  induction n with
  | zero => intro t _; rfl
  | succ n ih =>
    intro t ht
    have at_ : ∀ k, k < t → nthF ((List.range t).map (shaSch b)).reverse k = shaSch b (t - 1 - k) := by
      intro k hk
      simp only [nthF, List.getD_eq_getElem?_getD]
      rw [List.getElem?_reverse (by simpa using hk)]
      simp only [List.length_map, List.length_range]
      rw [List.getElem?_map, List.getElem?_range (by omega)]
      rfl
    have hx : nextF (nthF ((List.range t).map (shaSch b)).reverse 15) (nthF ((List.range t).map (shaSch b)).reverse 14) (nthF ((List.range t).map (shaSch b)).reverse 6) (nthF ((List.range t).map (shaSch b)).reverse 1) = shaSch b t := by
      rw [at_ 15 (by omega), at_ 14 (by omega), at_ 6 (by omega), at_ 1 (by omega), nextF_eq, shaSch_next ht]
      rw [show t - 1 - 15 = t - 16 from by omega, show t - 1 - 14 = t - 15 from by omega, show t - 1 - 6 = t - 7 from by omega, show t - 1 - 1 = t - 2 from by omega]
    show force _ _ = _
    rw [force_eq, hx]
    have := ih (t + 1) (by omega)
    rw [List.range_succ, List.map_append, List.reverse_append] at this
    rw [show t + (n + 1) = t + 1 + n from by omega]
    exact this

theorem shaRounds_succ (b K : Nat → Nat) (s : W8) (t : Nat) : shaRounds b K s (t + 1) = shaRound (shaRounds b K s t) (K t) (shaSch b t) := by rw [shaRounds]
theorem rounds_at (b K : Nat → Nat) (s : W8) : ∀ (n i : Nat), roundsF ((List.range' i n).map K) ((List.range' i n).map (shaSch b)) (shaRounds b K s i) = shaRounds b K s (i + n) := by
  intro n
  induction n with
  | zero => intro i; rw [Nat.add_zero, List.range'_zero, List.map_nil, List.map_nil, roundsF_nil]
  | succ n ih =>
    intro i
    rw [List.range'_succ, List.map_cons, List.map_cons, roundsF_cons, roundF_eq, ← shaRounds_succ, ih (i + 1), show i + 1 + n = i + (n + 1) from by omega]

theorem shaF_eq (b K : Nat → Nat) (s : W8) : shaF ((List.range 64).map K) ((List.range 64).map b) s = shaTake b K s := by
  have h1 : wordsF ((List.range 64).map b) = (List.range 16).map (shaSch b) := by
    have := wordsF_at b 16 0
    rw [List.range_eq_range', List.range_eq_range']
    refine this.trans ?_
    apply List.map_congr_left
    intro i hi
    have : i < 16 := by simpa using hi
    rw [shaSch, if_pos this]
  have h2 : (extF 48 ((List.range 16).map (shaSch b)).reverse).reverse = (List.range 64).map (shaSch b) := by
    rw [ext_at b 48 16 (by omega), List.reverse_reverse]
  have h3 : roundsF ((List.range 64).map K) ((List.range 64).map (shaSch b)) s = shaRounds b K s 64 := by
    have := rounds_at b K s 64 0
    rw [← List.range_eq_range', Nat.zero_add] at this
    rw [← this, shaRounds]
  simp only [shaF, h1, h2, h3, shaTake, W8.add, addF_eq]

theorem W8.add_list (s t : W8) : (s.add t).list = (List.range 8).map fun i => add32 (s.list.getD i 0) (t.list.getD i 0) := rfl

/-! ### The answer at once -/
def natsOf (k : IntKind) : List AV → Option (List Nat)
  | [] => some []
  | .int k' (.ofNat n) :: l => match IntKind.same k' k with
    | true => match natsOf k l with
      | some r => some (n :: r)
      | none => none
    | false => none
  | _ :: _ => none
theorem natsOf_some {k : IntKind} : ∀ {l : List AV} {r : List Nat}, natsOf k l = some r → l = r.map fun n => .int k ((n : Nat) : Int) := by
  intro l
  induction l with
  | nil => intro r h; cases h; rfl
  | cons v l ih =>
    intro r h
    unfold natsOf at h
    split at h
    · rename_i heq; cases heq
    · rename_i heq; cases heq
      split at h
      · rename_i hk
        split at h
        · rename_i hr
          cases h
          rw [ih hr, same_kind hk]; rfl
        · cases h
      · cases h
    · cases h
def w8Of : List Nat → Option W8
  | [a, b, c, d, e, f, g, h] => some ⟨a, b, c, d, e, f, g, h⟩
  | _ => none
theorem w8Of_some {l : List Nat} {s : W8} (h : w8Of l = some s) : l = s.list := by
  unfold w8Of at h
  split at h
  · cases h; rfl
  · cases h
def shaNat (K : List Nat) : Nat1 := fun _ args s => match args with
  | [.ptr ha hj ho, .sl ba bj bo 64 _] => match s.rdN ha hj ho 8 with
    | some hl => match natsOf .u32 hl with
      | some hn => match w8Of hn with
        | some h => match s.rdN ba bj bo 64 with
          | some bl => match natsOf .u8 bl with
            | some bn => match s.wrN ha hj ho ((shaF K bn h).list.map fun n => .int .u32 (.ofNat n)) with
              | some s' => some (.tup [], s')
              | none => none
            | none => none
          | none => none
        | none => none
      | none => none
    | none => none
  | _ => none

theorem wrN_conds {A A' : Arr} {j : Nat} : ∀ {l : List AV} {o : Nat}, Ab.wrN A j o l = some A' → l = [] ∨ (j = A.ver ∧ (∀ v ∈ l, leaf v = true) ∧ A.lo ≤ o ∧ o + l.length ≤ A.n) := by
  intro l
  induction l generalizing A with
  | nil => intro o _; exact .inl rfl
  | cons v l ih =>
    intro o h
    simp only [Ab.wrN] at h
    split at h
    · rename_i A₁ h1
      obtain ⟨k1, k2, k3, k4, k5, k6, k7, _⟩ := wr_rd h1
      right
      rcases ih h with h2 | ⟨h2, h3, h4, h5⟩
      · subst h2
        exact ⟨k1, fun u hu => by simp at hu; rw [hu]; exact k2, k4, by simp; omega⟩
      · refine ⟨k1, fun u hu => ?_, k4, by rw [List.length_cons]; omega⟩
        cases hu with
        | head => exact k2
        | tail _ hu => exact h3 u hu
    · cases h

theorem wrN_new {A A' : Arr} {j : Nat} : ∀ {l : List AV} {o : Nat}, Ab.wrN A j o l = some A' → ∀ j' i u, A'.rd j' i = some u → u ∈ l ∨ A.rd j' i = some u := by
  intro l
  induction l generalizing A with
  | nil => intro o h j' i u hu; cases h; exact .inr hu
  | cons v l ih =>
    intro o h j' i u hu
    simp only [Ab.wrN] at h
    split at h
    · rename_i A₁ h1
      rcases ih h j' i u hu with h2 | h2
      · exact .inl (List.mem_cons_of_mem _ h2)
      · obtain ⟨_, _, _, _, _, _, _, k1, k2⟩ := wr_rd h1
        by_cases hi : i = o
        · subst hi
          simp only [Arr.rd, k2] at h2
          split at h2
          · cases h2; exact .inl (List.mem_cons_self ..)
          · cases h2
        · right
          simpa only [Arr.rd, k1 i hi] using h2
    · cases h

end Go.Ab
end

noncomputable section
namespace Go.Ab

/-- All below lo lies as it lay; there may be more. -/
structure FrL (lo : Nat) (s s' : AS) : Prop where
  na : s.na ≤ s'.na
  nm : s'.nm = s.nm
  nl : s'.nl = s.nl
  maps : s'.maps = s.maps
  loops : s'.loops = s.loops
  arr : ∀ b, b < lo → s'.arrs.get b = s.arrs.get b
theorem FrL.refl (lo : Nat) (s : AS) : FrL lo s s := ⟨Nat.le_refl _, rfl, rfl, rfl, rfl, fun _ _ => rfl⟩
theorem FrL.trans {lo : Nat} {s t u : AS} (h : FrL lo s t) (k : FrL lo t u) : FrL lo s u :=
  ⟨Nat.le_trans h.na k.na, k.nm.trans h.nm, k.nl.trans h.nl, k.maps.trans h.maps, k.loops.trans h.loops, fun b hb => (k.arr b hb).trans (h.arr b hb)⟩
theorem FrL.mono {lo lo' : Nat} {s s' : AS} (h : FrL lo s s') (k : lo' ≤ lo) : FrL lo' s s' := ⟨h.na, h.nm, h.nl, h.maps, h.loops, fun b hb => h.arr b (by omega)⟩
theorem FrL.new {lo : Nat} (s : AS) (l : List AV) (h : lo ≤ s.na) : FrL lo s (s.new l).2 := ⟨Nat.le_succ _, rfl, rfl, rfl, rfl, fun b hb => Tr.get_set_ne _ _ (by omega)⟩
theorem FrL.newZ {lo : Nat} (s : AS) (n : Nat) (l : List AV) (h : lo ≤ s.na) : FrL lo s (s.newZ n l).2 := ⟨Nat.le_succ _, rfl, rfl, rfl, rfl, fun b hb => Tr.get_set_ne _ _ (by omega)⟩
theorem FrL.rd {lo b : Nat} {s s' : AS} (h : FrL lo s s') (hb : b < lo) (j i : Nat) : s'.rd b j i = s.rd b j i := by simp only [AS.rd, h.arr b hb]

theorem rd_new (s : AS) (l : List AV) (i : Nat) : (s.new l).2.rd s.na 0 i = l[i]? := by
  have : (s.new l).2.arrs.get s.na = some (rowOf l) := Tr.get_set_same _ _ _
  simp only [AS.rd, this, rowOf_rd]
theorem FrL.rdN {lo b : Nat} {s s' : AS} (h : FrL lo s s') (hb : b < lo) (j i n : Nat) : s'.rdN b j i n = s.rdN b j i n := by simp only [AS.rdN, h.arr b hb]

def u8s (l : List Nat) : List AV := l.map fun n => .int .u8 ((n : Nat) : Int)
theorem u8s_length (l : List Nat) : (u8s l).length = l.length := by simp [u8s]
theorem u8s_append (l m : List Nat) : u8s (l ++ m) = u8s l ++ u8s m := by simp [u8s]
theorem u8s_leaf (l : List Nat) : allLeaf (u8s l) = true := by
  induction l with
  | nil => rfl
  | cons x l ih => simp only [u8s, List.map_cons, allLeaf, leaf]; exact ih

/-- A row of bytes in arrays from lo on. -/
def Byt (s : AS) (lo : Nat) (v : AV) (l : List Nat) : Prop :=
  (v = .nils ∧ l = []) ∨ ∃ a j o cap A, v = .sl a j o l.length cap ∧ lo ≤ a ∧ a < s.na ∧ s.arrs.get a = some A ∧ j ≤ A.ver ∧ A.lo ≤ o ∧ o + l.length ≤ A.n ∧ (cap = .known l.length ∨ cap = .rest 1) ∧
    ∀ i, i < l.length → A.rd j (o + i) = (u8s l)[i]?

theorem Byt.keep {s s' : AS} {lo lo' : Nat} {v : AV} {l : List Nat} (h : Byt s lo v l) (k : FrL lo' s s') (ha : ∀ a j o n c, v = .sl a j o n c → a < lo') : Byt s' lo v l := by
  rcases h with h | ⟨a, j, o, cap, A, h1, h2, h3, h4, h5⟩
  · exact .inl h
  · exact .inr ⟨a, j, o, cap, A, h1, h2, Nat.lt_of_lt_of_le h3 k.na, (k.arr a (ha _ _ _ _ _ h1)).trans h4, h5⟩
theorem Byt.lt {s : AS} {lo : Nat} {v : AV} {l : List Nat} (h : Byt s lo v l) : ∀ a j o n c, v = .sl a j o n c → a < s.na := by
  intro a j o n c e
  rcases h with ⟨h, _⟩ | ⟨a', j', o', cap, A, h1, h2, h3, _⟩
  · rw [h] at e; cases e
  · rw [h1] at e; cases e; exact h3
theorem Byt.len {s : AS} {lo : Nat} {v : AV} {l : List Nat} (h : Byt s lo v l) : lenAV s v = some l.length ∧ lenIs 1 v = true := by
  rcases h with ⟨rfl, rfl⟩ | ⟨a, j, o, cap, A, rfl, _⟩
  · exact ⟨rfl, rfl⟩
  · exact ⟨rfl, rfl⟩
theorem rdN_map {A : Arr} {j o : Nat} {l : List AV} (h : ∀ i, i < l.length → A.rd j (o + i) = l[i]?) : Ab.rdN A j o l.length = some l := by
  have h' : ∀ i, i < l.length → A.rd j (o + i) = some (l.getD i .undef) := fun i hi => by
    rw [h i hi, List.getD_eq_getElem?_getD, List.getElem?_eq_getElem hi]; rfl
  rw [rdN_of h']
  congr 1
  apply List.ext_getElem?
  intro i
  rw [List.getElem?_map]
  by_cases hi : i < l.length
  · rw [List.getElem?_range hi, Option.map_some, List.getD_eq_getElem?_getD, List.getElem?_eq_getElem hi]; rfl
  · rw [List.getElem?_eq_none (by rw [List.length_range]; omega), List.getElem?_eq_none (by omega)]; rfl
/-- Cells of an array newly made. -/
theorem rdN_new (s : AS) (a b c : List AV) : (s.new (a ++ b ++ c)).2.rdN s.na 0 a.length b.length = some b := by
  have h : (s.new (a ++ b ++ c)).2.arrs.get s.na = some (rowOf (a ++ b ++ c)) := Tr.get_set_same _ _ _
  simp only [AS.rdN, h]
  apply rdN_map
  intro i hi
  rw [rowOf_rd, List.getElem?_append_left (by rw [List.length_append]; omega), List.getElem?_append_right (by omega), Nat.add_sub_cancel_left]
theorem Byt.src {s : AS} {lo : Nat} {v : AV} {l : List Nat} (h : Byt s lo v l) : srcCells s 1 l.length v = some (u8s l) := by
  rcases h with ⟨rfl, rfl⟩ | ⟨a, j, o, cap, A, rfl, _, _, h4, _, _, _, _, h5⟩
  · rfl
  · simp only [srcCells, beq_eq]
    by_cases h0 : l.length = 0
    · simp only [h0, decide_true]
      rw [List.eq_nil_of_length_eq_zero h0]; rfl
    · simp only [h0, decide_false, AS.rdN, h4, Nat.mul_one]
      have := rdN_map (A := A) (j := j) (o := o) (l := u8s l) (by rw [u8s_length]; exact h5)
      rwa [u8s_length] at this

theorem Byt.fresh {s : AS} {lo : Nat} (hlo : lo ≤ s.na) (l : List Nat) (cap : Cap) (hc : cap = .known l.length ∨ cap = .rest 1) : Byt (s.new (u8s l)).2 lo (.sl s.na 0 0 l.length cap) l := by
  refine .inr ⟨s.na, 0, 0, cap, rowOf (u8s l), rfl, hlo, Nat.lt_succ_self _, Tr.get_set_same _ _ _, Nat.le_refl _, Nat.le_refl _, by show 0 + l.length ≤ (u8s l).length; rw [u8s_length]; omega, hc, fun i hi => ?_⟩
  rw [rowOf_rd, Nat.zero_add]

theorem rd_get {A : Arr} {j i : Nat} {v : AV} (h : A.rd j i = some v) : ∃ m, A.get i = some (m, v) ∧ m ≤ j := by
  unfold Arr.rd at h
  split at h
  · rename_i m u hm
    rw [ble_eq] at h
    split at h
    · rename_i hd
      cases h
      exact ⟨m, hm, by simpa using hd⟩
    · cases h
  · cases h
theorem get_rd {A : Arr} {j i m : Nat} {v : AV} (h : A.get i = some (m, v)) (k : m ≤ j) : A.rd j i = some v := by
  simp only [Arr.rd, h, ble_eq, k, decide_true]

/-- append of bytes. -/
theorem Byt.append {s : AS} {lo : Nat} {v : AV} {l m : List Nat} (h : Byt s lo v l) (hlo : lo ≤ s.na) (hm : m ≠ []) (hs : (l.length + m.length) * 2 ≤ 1099511627776) :
    ∃ v' s', appAV s 1 1 m.length (u8s m) v = some (v', s') ∧ Byt s' lo v' (l ++ m) ∧ FrL lo s s' := by
  have hk : m.length ≠ 0 := fun h0 => hm (List.eq_nil_of_length_eq_zero h0)
  have hsane : ∀ n, n ≤ l.length + m.length → sane n 1 = true := fun n hn => by simp only [sane, ble_eq, decide_eq_true_eq]; omega
  have h0 : ∀ x, appAV s 1 1 m.length (u8s m) x = appTo s 1 1 m.length (u8s m) x := fun x => by
    simp only [appAV, u8s_length, beq_eq, Nat.mul_one, decide_true, u8s_leaf, Bool.and_self]
  rw [h0]
  rcases h with ⟨rfl, rfl⟩ | ⟨a, j, o, cap, A, rfl, h2, h3, h4, h5, h6, h7, h8, h9⟩
  · simp only [appTo, beq_eq, hk, decide_false, hsane m.length (by simp), ble_eq, Nat.le_refl, decide_true, Bool.and_self, freshSl]
    exact ⟨_, _, rfl, by rw [List.nil_append]; exact Byt.fresh hlo m _ (.inr rfl), FrL.new s _ hlo⟩
  · have hrd : s.rdN a j o (l.length * 1) = some (u8s l) := by
      have := rdN_map (A := A) (j := j) (o := o) (l := u8s l) (by rw [u8s_length]; exact h9)
      simp only [AS.rdN, h4, Nat.mul_one]
      rwa [u8s_length] at this
    rcases h8 with rfl | rfl
    · simp only [appTo, hsane _ (Nat.le_refl _), ble_eq, Nat.le_refl, decide_true, Bool.and_self, show ¬ l.length + m.length ≤ l.length from by omega, decide_false, hrd, freshSl]
      refine ⟨_, _, rfl, ?_, ?_⟩
      · have := Byt.fresh (s := s) hlo (l ++ m) (.rest 1) (.inr rfl)
        rw [u8s_append, List.length_append] at this
        exact this
      · exact FrL.new s _ hlo
    · have hold : oldOk A j o (l.length * 1) = true := by
        have main : ∀ n i, (∀ q, q < n → ∃ u, A.rd j (i + q) = some u) → oldOk A j i n = true := by
          intro n
          induction n with
          | zero => intro i _; rfl
          | succ n ih =>
            intro i hq
            obtain ⟨u, hu⟩ := hq 0 (by omega)
            simp only [Nat.add_zero] at hu
            simp only [oldOk, hu]
            exact ih (i + 1) fun q hq' => by
              obtain ⟨u', hu'⟩ := hq (q + 1) (by omega)
              exact ⟨u', by rw [← hu']; congr 1; omega⟩
        apply main
        intro q hq
        have hq' : q < l.length := by omega
        have := h9 q hq'
        rw [List.getElem?_eq_getElem (by rw [u8s_length]; exact hq')] at this
        exact ⟨_, this⟩
      rw [Nat.mul_one] at hold
      simp only [appTo, beq_eq, hk, decide_false, decide_true, hsane _ (Nat.le_refl _), ble_eq, Nat.le_refl, Bool.and_self, h4, hold, Bool.and_true, Bool.or_true, h6, Nat.mul_one, h7]
      refine ⟨_, _, rfl, .inr ⟨a, A.ver + 1, o, .rest 1, ⟨A.ver + 1, o + l.length + (u8s m).length, o, A.dv, setAll A.cells (A.ver + 1) (o + l.length) (u8s m)⟩, by rw [List.length_append], h2, h3, Tr.get_set_same _ _ _, Nat.le_refl _, Nat.le_refl _, ?_, .inr rfl, ?_⟩, ?_⟩
      · show o + (l ++ m).length ≤ o + l.length + (u8s m).length
        rw [List.length_append, u8s_length]; omega
      · intro i hi
        rw [List.length_append] at hi
        rw [u8s_append]
        have hn : o + i < o + l.length + (u8s m).length := by rw [u8s_length]; omega
        by_cases hil : i < l.length
        · rw [List.getElem?_append_left (by rw [u8s_length]; exact hil)]
          have hget : (⟨A.ver + 1, o + l.length + (u8s m).length, o, A.dv, setAll A.cells (A.ver + 1) (o + l.length) (u8s m)⟩ : Arr).get (o + i) = A.get (o + i) := by
            have hc : (setAll A.cells (A.ver + 1) (o + l.length) (u8s m)).get (o + i) = A.cells.get (o + i) := by rw [setAll_get, if_neg (by omega)]
            simp only [Arr.get, ltb_eq, ble_eq, hn, show o + i < A.n from by omega, decide_true, show A.lo ≤ o + i from by omega, show o ≤ o + i from by omega, Bool.and_self, hc]
          have h10 := h9 i hil
          rw [List.getElem?_eq_getElem (by rw [u8s_length]; exact hil)] at h10 ⊢
          obtain ⟨mm, q1, q2⟩ := rd_get h10
          exact get_rd (hget.trans q1) (by omega)
        · rw [List.getElem?_append_right (by rw [u8s_length]; omega), show (u8s l).length = l.length from u8s_length l]
          have hlt : i - l.length < (u8s m).length := by rw [u8s_length]; omega
          rw [List.getElem?_eq_getElem hlt]
          refine get_rd (m := A.ver + 1) ?_ (Nat.le_refl _)
          have hc : (setAll A.cells (A.ver + 1) (o + l.length) (u8s m)).get (o + i) = some (A.ver + 1, (u8s m)[i - l.length]) := by
            rw [setAll_get, if_pos (by omega), show o + i - (o + l.length) = i - l.length from by omega, List.getElem?_eq_getElem hlt]; rfl
          simp only [Arr.get, ltb_eq, ble_eq, hn, decide_true, show o ≤ o + i from by omega, Bool.and_self, hc]
      · exact ⟨Nat.le_refl _, rfl, rfl, rfl, rfl, fun b hb => Tr.get_set_ne _ _ (by omega)⟩

end Go.Ab
end

noncomputable section
namespace Go.Ab
open Go.ChangeMaps (setBlock)

theorem opV {P : Program} {ops : Array Oper} {i : Nat} {o : Oper} {tmps : Array Value} {w w' : World} {V : Value} (ho : ops[i]? = some o) (hg : o.guard = none) (hd : ∀ c, o.op ≠ .defer c)
    (h : ∀ ρ : Operand → Value, (∀ t, ρ (.tmp t) = tmps.getD t Go.undef) → (execOp ρ o).run P w = .ok (.value V) w') : OpSim P ops i tmps w (putV tmps o.dst V) w' := by
  intro b k cs rest hb ht
  subst ht
  rw [← finish_region b ops i rest k _ ho]
  refine .one (step_lone_go ?_)
  rw [stepG_oper hb ho (by simp [Region.wanted, hg]) hd]
  exact apply_value (h _ fun t => rfl)

theorem opW {P : Program} {ops : Array Oper} {i : Nat} {o : Oper} {d : Nat} {op : Op} {tmps : Array Value} {w w' : World} (V : Value) (hh : o.dst = some d ∧ o.op = op ∧ o.guard = none) (ho : ops[i]? = some o) (hd : ∀ c, op ≠ .defer c)
    (h : ∀ ρ : Operand → Value, (∀ t, ρ (.tmp t) = tmps.getD t Go.undef) → (execOp ρ ⟨some d, op, o.type, o.pos, o.after, none⟩).run P w = .ok (.value V) w') : OpSim P ops i tmps w (tmps.setIfInBounds d V) w' := by
  obtain ⟨dst, op', ty, pos, af, g⟩ := o
  obtain ⟨h1, h2, h3⟩ := hh
  simp only at h1 h2 h3
  subst h1 h2 h3
  exact opV ho rfl hd h

theorem opC {P : Program} {ops : Array Oper} {i : Nat} {o : Oper} {c : Call} {f : Operand} {tmps : Array Value} {w w' : World} {F V : Value} {args : Array Value} (ho : ops[i]? = some o) (hg : o.guard = none) (hop : o.op = .call c) (hc : c.callee = .value f)
    (hf : ∀ ρ : Operand → Value, (∀ t, ρ (.tmp t) = tmps.getD t Go.undef) → ρ f = F ∧ c.args.map ρ = args) (h : CallSim P F args w V w') : OpSim P ops i tmps w (putV tmps o.dst V) w' := by
  intro b k cs rest hb ht
  subst ht
  obtain ⟨fr₁, cs₁, w₁, m1, m2⟩ := h { b with todo := .inRegion ops (i :: rest) :: k } cs hb (by intro d r s k h; cases h)
  rw [finish_region b ops i rest k _ ho] at m2
  refine .head (step_lone_go ?_) m2
  rw [stepG_oper hb ho (by simp [Region.wanted, hg]) (by intro d hd; rw [hop] at hd; cases hd), ← m1]
  obtain ⟨e1, e2⟩ := hf ({ b with todo := .inRegion ops (i :: rest) :: k } : Frame).eval (fun t => rfl)
  simp only [execOp, hop, resolve, hc, e1, e2]

theorem regSteps {P : Program} {id : Nat} {ops : Array Oper} {b : Frame} {k : List Item} {cs : List Frame} {w w' : World} {tmps' : Array Value} (hb : b.mode = .run) (h : RegSim P ops (List.range ops.size) b.tmps w tmps' w') :
    Steps P (lone { b with todo := .code (.region id ops false) :: k } cs w) (lone { b with tmps := tmps', todo := k } cs w') :=
  .head (mk_region hb) ((h b k cs hb rfl).trans (.one (mk_region_end (b := { b with tmps := tmps' }) hb)))

theorem mk_seq_eq {P : Program} {b : Frame} {k : List Item} {cs : List Frame} {w : World} (hb : b.mode = .run) {c x y : Code} (h : c = .seq x y) : step P (lone { b with todo := .code c :: k } cs w) = .next (lone { b with todo := .code x :: .code y :: k } cs w) := by
  subst h; exact mk_seq hb

/-- The function that hands out a map's keys. -/
structure KeysFn (P : Program) (k : FuncId) where
  f : Func
  t : TypeId
  kt : TypeId
  vt : TypeId
  (i0 i1 i2 i3 b0 b1 : Nat)
  (o00 o01 o10 o11 o20 o21 o22 o30 o31 o32 o33 : Oper)
  c : Call
  nt : TypeId
  hf : P.funcs[k]? = some f
  name : f.name ≠ "runtime.NumGoroutine"
  hn : f.ntmps = 14
  hres : f.results = #[]
  LB : Code
  hLB : LB = .seq (.region i1 #[o10, o11] false) (.seq (.cond (.tmp 7) .skip (.exit b0)) (.block b1 (.seq (.region i2 #[o20, o21, o22] false) (.seq (.region i3 #[o30, o31, o32, o33] false) (.cond (.tmp 13) .ret .skip)))))
  body : f.body = some (.seq (.region i0 #[o00, o01] false) (.block b0 (.loop LB)))
  ht : P.underlying t = some (.map kt vt)
  hagg : tagg P t = some false
  h00 : o00.dst = some 4 ∧ o00.op = .load t (.tmp 1) ∧ o00.guard = none
  h01 : o01.dst = some 5 ∧ o01.op = .range t (.tmp 4) ∧ o01.guard = none
  h10 : o10.dst = some 6 ∧ o10.op = .next (.tmp 5) false ∧ o10.guard = none
  h11 : o11.dst = some 7 ∧ o11.op = .extract (.tmp 6) 0 ∧ o11.guard = none
  h20 : o20.dst = some 8 ∧ o20.op = .entry (.tmp 5) ∧ o20.guard = none
  h21 : o21.dst = some 9 ∧ o21.op = .extract (.tmp 8) 0 ∧ o21.guard = none
  h22 : o22.dst = some 3 ∧ o22.op = .assign (.tmp 9) ∧ o22.guard = none
  h30 : o30.dst = some 10 ∧ o30.op = .move (.tmp 0) ∧ o30.guard = none
  h31 : o31.dst = some 11 ∧ o31.op = .move (.tmp 3) ∧ o31.guard = none
  h32 : o32.dst = some 12 ∧ o32.op = .call c ∧ o32.guard = none
  h33 : o33.dst = some 13 ∧ o33.op = .unOp .not nt (.tmp 12) ∧ o33.guard = none
  hc : c.callee = .value (.tmp 10) ∧ c.args = #[.tmp 11]

namespace KeysFn
variable {P : Program} {k : FuncId} (K : KeysFn P k)

def fr (tmps : Array Value) (todo : List Item) : Frame := { fn := k, tmps := tmps, todo := todo, defers := [], mode := .run, kind := .normal }
/-- At the loop's head. -/
def head (tmps : Array Value) : Frame := fr (k := k) tmps [.code K.LB, .inLoop K.LB, .inBlock K.b0]
def Hd (tmps : Array Value) (Y IT : Value) : Prop := tmps.size = 14 ∧ tmps.getD 0 Go.undef = Y ∧ tmps.getD 5 Go.undef = IT

theorem getD_set (tmps : Array Value) (d : Nat) (v : Value) (n : Nat) (h : d < tmps.size) : (tmps.setIfInBounds d v).getD n Go.undef = if n = d then v else tmps.getD n Go.undef := by
  simp only [Array.getD_eq_getD_getElem?]
  by_cases hn : n = d
  · subst hn; simp [h]
  · rw [if_neg hn, Array.getElem?_setIfInBounds_ne (fun e => hn e.symm)]

theorem at_end {tmps : Array Value} {Y IT : Value} {w w' : World} (h : Hd tmps Y IT) (hnext : (Instr.next IT false K.o10.type).run P w = .ok (.tuple #[.bool false]) w') (cs : List Frame) :
    ∃ tmps', Steps P (lone (K.head tmps) cs w) (lone (fr (k := k) tmps' []) cs w') := by
  obtain ⟨h1, h2, h3⟩ := h
  obtain ⟨ta, hta⟩ : ∃ x, tmps.setIfInBounds 6 (.tuple #[.bool false]) = x := ⟨_, rfl⟩
  have s0 : OpSim P #[K.o10, K.o11] 0 tmps w ta w' := hta ▸ opW _ K.h10 rfl (by intro c h; cases h) (fun ρ hρ => by
    show (do pure (Next.value (← Instr.next (ρ (.tmp 5)) false K.o10.type)) : Sem Next).run P w = _
    rw [run_v, hρ, h3, hnext]; rfl)
  have za : ta.size = 14 := by rw [← hta]; simpa using h1
  have ga : ∀ n, ta.getD n Go.undef = if n = 6 then .tuple #[.bool false] else tmps.getD n Go.undef := fun n => by rw [← hta]; exact getD_set _ _ _ _ (by omega)
  obtain ⟨tb, htb⟩ : ∃ x, ta.setIfInBounds 7 (.bool false) = x := ⟨_, rfl⟩
  have s1 : OpSim P #[K.o10, K.o11] 1 ta w' tb w' := htb ▸ opW _ K.h11 rfl (by intro c h; cases h) (fun ρ hρ => by
    show (do pure (Next.value (← Instr.extract (ρ (.tmp 6)) 0)) : Sem Next).run P w' = _
    rw [hρ, ga, if_pos rfl]; rfl)
  have gb : ∀ n, tb.getD n Go.undef = if n = 7 then .bool false else ta.getD n Go.undef := fun n => by rw [← htb]; exact getD_set _ _ _ _ (by omega)
  refine ⟨tb, ?_⟩
  unfold head fr
  refine .head (mk_seq_eq (b := fr (k := k) tmps []) rfl K.hLB) ?_
  refine Steps.trans (regSteps (b := fr (k := k) tmps []) rfl (RegSim.cons s0 (RegSim.cons s1 (RegSim.nil _ _ _ _)))) ?_
  refine .head (mk_seq (b := fr (k := k) tb []) rfl) ?_
  refine .head (mk_cond (b := fr (k := k) tb []) rfl (t := false) (by show tb.getD 7 Go.undef = _; rw [gb, if_pos rfl])) ?_
  exact .one (mk_exit (b := fr (k := k) tb []) rfl (by simp [exitTo]))

theorem round {tmps : Array Value} {Y IT key val : Value} {w w₁ w₂ : World} {b : Bool} (h : Hd tmps Y IT) (hnext : (Instr.next IT false K.o10.type).run P w = .ok (.tuple #[.bool true, key, val]) w₁)
    (hent : (Instr.entry IT).run P w₁ = .ok (.tuple #[key, val]) w₁) (hcall : CallSim P Y #[key] w₁ (.bool b) w₂) :
    ∃ tmps', Hd tmps' Y IT ∧ ∀ cs, ∃ todo, (if b then todo = [.code K.LB, .inLoop K.LB, .inBlock K.b0] else ∃ r, todo = .code .ret :: r) ∧ Steps P (lone (K.head tmps) cs w) (lone (fr (k := k) tmps' todo) cs w₂) := by
  obtain ⟨h1, h2, h3⟩ := h
  obtain ⟨ta, hta⟩ : ∃ x, tmps.setIfInBounds 6 (.tuple #[.bool true, key, val]) = x := ⟨_, rfl⟩
  have s0 : OpSim P #[K.o10, K.o11] 0 tmps w ta w₁ := hta ▸ opW _ K.h10 rfl (by intro c h; cases h) (fun ρ hρ => by
    show (do pure (Next.value (← Instr.next (ρ (.tmp 5)) false K.o10.type)) : Sem Next).run P w = _
    rw [run_v, hρ, h3, hnext]; rfl)
  have za : ta.size = 14 := by rw [← hta]; simpa using h1
  have ga : ∀ n, ta.getD n Go.undef = if n = 6 then .tuple #[.bool true, key, val] else tmps.getD n Go.undef := fun n => by rw [← hta]; exact getD_set _ _ _ _ (by omega)
  obtain ⟨tb, htb⟩ : ∃ x, ta.setIfInBounds 7 (.bool true) = x := ⟨_, rfl⟩
  have s1 : OpSim P #[K.o10, K.o11] 1 ta w₁ tb w₁ := htb ▸ opW _ K.h11 rfl (by intro c h; cases h) (fun ρ hρ => by
    show (do pure (Next.value (← Instr.extract (ρ (.tmp 6)) 0)) : Sem Next).run P w₁ = _
    rw [hρ, ga, if_pos rfl]; rfl)
  have zb : tb.size = 14 := by rw [← htb]; simpa using za
  have gb : ∀ n, tb.getD n Go.undef = if n = 7 then .bool true else ta.getD n Go.undef := fun n => by rw [← htb]; exact getD_set _ _ _ _ (by omega)
  obtain ⟨tc, htc⟩ : ∃ x, tb.setIfInBounds 8 (.tuple #[key, val]) = x := ⟨_, rfl⟩
  have s2 : OpSim P #[K.o20, K.o21, K.o22] 0 tb w₁ tc w₁ := htc ▸ opW _ K.h20 rfl (by intro c h; cases h) (fun ρ hρ => by
    show (do pure (Next.value (← Instr.entry (ρ (.tmp 5)))) : Sem Next).run P w₁ = _
    rw [run_v, hρ, gb, if_neg (by omega), ga, if_neg (by omega), h3, hent]; rfl)
  have zc : tc.size = 14 := by rw [← htc]; simpa using zb
  have gc : ∀ n, tc.getD n Go.undef = if n = 8 then .tuple #[key, val] else tb.getD n Go.undef := fun n => by rw [← htc]; exact getD_set _ _ _ _ (by omega)
  obtain ⟨td, htd⟩ : ∃ x, tc.setIfInBounds 9 key = x := ⟨_, rfl⟩
  have s3 : OpSim P #[K.o20, K.o21, K.o22] 1 tc w₁ td w₁ := htd ▸ opW _ K.h21 rfl (by intro c h; cases h) (fun ρ hρ => by
    show (do pure (Next.value (← Instr.extract (ρ (.tmp 8)) 0)) : Sem Next).run P w₁ = _
    rw [hρ, gc, if_pos rfl]; rfl)
  have zd : td.size = 14 := by rw [← htd]; simpa using zc
  have gd : ∀ n, td.getD n Go.undef = if n = 9 then key else tc.getD n Go.undef := fun n => by rw [← htd]; exact getD_set _ _ _ _ (by omega)
  obtain ⟨te, hte⟩ : ∃ x, td.setIfInBounds 3 key = x := ⟨_, rfl⟩
  have s4 : OpSim P #[K.o20, K.o21, K.o22] 2 td w₁ te w₁ := hte ▸ opW _ K.h22 rfl (by intro c h; cases h) (fun ρ hρ => by
    show (pure (Next.value (ρ (.tmp 9))) : Sem Next).run P w₁ = _
    rw [hρ, gd, if_pos rfl]; rfl)
  have ze : te.size = 14 := by rw [← hte]; simpa using zd
  have ge : ∀ n, te.getD n Go.undef = if n = 3 then key else td.getD n Go.undef := fun n => by rw [← hte]; exact getD_set _ _ _ _ (by omega)
  obtain ⟨tf, htf⟩ : ∃ x, te.setIfInBounds 10 Y = x := ⟨_, rfl⟩
  have y0 : te.getD 0 Go.undef = Y := by
    rw [ge, if_neg (by omega), gd, if_neg (by omega), gc, if_neg (by omega), gb, if_neg (by omega), ga, if_neg (by omega), h2]
  have s5 : OpSim P #[K.o30, K.o31, K.o32, K.o33] 0 te w₁ tf w₁ := htf ▸ opW _ K.h30 rfl (by intro c h; cases h) (fun ρ hρ => by
    show (pure (Next.value (ρ (.tmp 0))) : Sem Next).run P w₁ = _
    rw [hρ, y0]; rfl)
  have zf : tf.size = 14 := by rw [← htf]; simpa using ze
  have gf : ∀ n, tf.getD n Go.undef = if n = 10 then Y else te.getD n Go.undef := fun n => by rw [← htf]; exact getD_set _ _ _ _ (by omega)
  obtain ⟨tg, htg⟩ : ∃ x, tf.setIfInBounds 11 key = x := ⟨_, rfl⟩
  have s6 : OpSim P #[K.o30, K.o31, K.o32, K.o33] 1 tf w₁ tg w₁ := htg ▸ opW _ K.h31 rfl (by intro c h; cases h) (fun ρ hρ => by
    show (pure (Next.value (ρ (.tmp 3))) : Sem Next).run P w₁ = _
    rw [hρ, gf, if_neg (by omega), ge, if_pos rfl]; rfl)
  have zg : tg.size = 14 := by rw [← htg]; simpa using zf
  have gg : ∀ n, tg.getD n Go.undef = if n = 11 then key else tf.getD n Go.undef := fun n => by rw [← htg]; exact getD_set _ _ _ _ (by omega)
  obtain ⟨th, hth⟩ : ∃ x, tg.setIfInBounds 12 (.bool b) = x := ⟨_, rfl⟩
  have s7 : OpSim P #[K.o30, K.o31, K.o32, K.o33] 2 tg w₁ th w₂ := by
    have := opC (P := P) (ops := #[K.o30, K.o31, K.o32, K.o33]) (i := 2) (o := K.o32) (tmps := tg) rfl K.h32.2.2 K.h32.2.1 K.hc.1 (fun ρ hρ => ⟨by rw [hρ, gg, if_neg (by omega), gf, if_pos rfl], by
      rw [K.hc.2]; simp only [List.map_toArray, List.map_cons, List.map_nil, hρ, gg, if_true]⟩) hcall
    rw [K.h32.1] at this
    rw [← hth]; exact this
  have zh : th.size = 14 := by rw [← hth]; simpa using zg
  have gh : ∀ n, th.getD n Go.undef = if n = 12 then .bool b else tg.getD n Go.undef := fun n => by rw [← hth]; exact getD_set _ _ _ _ (by omega)
  obtain ⟨ti, hti⟩ : ∃ x, th.setIfInBounds 13 (.bool !b) = x := ⟨_, rfl⟩
  have s8 : OpSim P #[K.o30, K.o31, K.o32, K.o33] 3 th w₂ ti w₂ := hti ▸ opW _ K.h33 rfl (by intro c h; cases h) (fun ρ hρ => by
    show (do pure (Next.value (← Op.unary .not (ρ (.tmp 12)))) : Sem Next).run P w₂ = _
    rw [hρ, gh, if_pos rfl]; rfl)
  have gi : ∀ n, ti.getD n Go.undef = if n = 13 then .bool !b else th.getD n Go.undef := fun n => by rw [← hti]; exact getD_set _ _ _ _ (by omega)
  have look : ∀ n, n ≠ 3 → n < 6 → ti.getD n Go.undef = tmps.getD n Go.undef := fun n h3 h6 => by
    rw [gi, if_neg (by omega), gh, if_neg (by omega), gg, if_neg (by omega), gf, if_neg (by omega), ge, if_neg (by omega), gd, if_neg (by omega), gc, if_neg (by omega), gb, if_neg (by omega), ga, if_neg (by omega)]
  refine ⟨ti, ⟨by rw [← hti]; simpa using zh, (look 0 (by omega) (by omega)).trans h2, (look 5 (by omega) (by omega)).trans h3⟩, fun cs => ?_⟩
  refine ⟨if b then [.code K.LB, .inLoop K.LB, .inBlock K.b0] else [.code .ret, .inBlock K.b1, .inLoop K.LB, .inBlock K.b0], by cases b <;> simp, ?_⟩
  unfold head fr
  have e0 : Steps P (lone { fn := k, tmps := tmps, todo := [.code K.LB, .inLoop K.LB, .inBlock K.b0], defers := [], mode := .run, kind := .normal } cs w)
      (lone { fn := k, tmps := ti, todo := [.code (.cond (.tmp 13) .ret .skip), .inBlock K.b1, .inLoop K.LB, .inBlock K.b0], defers := [], mode := .run, kind := .normal } cs w₂) := by
    refine .head (mk_seq_eq (b := fr (k := k) tmps []) rfl K.hLB) ?_
    refine Steps.trans (regSteps (b := fr (k := k) tmps []) rfl (RegSim.cons s0 (RegSim.cons s1 (RegSim.nil _ _ _ _)))) ?_
    refine .head (mk_seq (b := fr (k := k) tb []) rfl) ?_
    refine .head (mk_cond (b := fr (k := k) tb []) rfl (t := true) (by show tb.getD 7 Go.undef = _; rw [gb, if_pos rfl])) ?_
    refine .head (mk_skip (b := fr (k := k) tb []) rfl) ?_
    refine .head (mk_block (b := fr (k := k) tb []) rfl) ?_
    refine .head (mk_seq (b := fr (k := k) tb []) rfl) ?_
    refine Steps.trans (regSteps (b := fr (k := k) tb []) rfl (RegSim.cons s2 (RegSim.cons s3 (RegSim.cons s4 (RegSim.nil _ _ _ _))))) ?_
    refine .head (mk_seq (b := fr (k := k) te []) rfl) ?_
    exact regSteps (b := fr (k := k) te []) rfl (RegSim.cons s5 (RegSim.cons s6 (RegSim.cons s7 (RegSim.cons s8 (RegSim.nil _ _ _ _)))))
  refine e0.trans ?_
  refine .head (mk_cond (b := fr (k := k) ti []) rfl (t := !b) (by show ti.getD 13 Go.undef = _; rw [gi, if_pos rfl])) ?_
  cases b with
  | false => exact .refl _ _
  | true =>
    refine .head (mk_skip (b := fr (k := k) ti []) rfl) ?_
    refine .head (mk_inBlock (b := fr (k := k) ti []) rfl) ?_
    exact .one (mk_inLoop (b := fr (k := k) ti []) rfl)

theorem results_none {w : World} (tmps : Array Value) : (Go.results K.f tmps).run P w = .ok (.tuple #[]) w := by
  simp [Go.results, K.hres]

include K in
/-- The way out. -/
theorem out {tmps : Array Value} {todo : List Item} {x : Ex} {w : World} (ha : Arr1 [] x todo) (hx : ∀ id, x ≠ .exit id) :
    (∀ (c : Frame) (cs : List Frame), Steps P (lone (fr (k := k) tmps todo) (c :: cs) w) (lone (c.finish (.tuple #[])) cs w)) ∧
    (∀ cs, ∃ f', Steps P (lone (fr (k := k) tmps todo) cs w) (lone f' cs w) ∧ f'.fn = k ∧ f'.leaving P w (.returned (.tuple #[]))) := by
  have e : ∀ cs, step P (lone (fr (k := k) tmps todo) cs w) = .next (lone { fr (k := k) tmps todo with mode := .returning } cs w) := fun cs =>
    to_returning (fr := fr (k := k) tmps todo) rfl rfl rfl ha hx
  refine ⟨fun c cs => .head (e _) (.one (step_back (f := K.f) rfl rfl rfl K.hf (K.results_none _))), fun cs => ⟨_, .one (e cs), rfl, rfl, rfl, rfl, K.f, K.hf, K.results_none _⟩⟩

/-- Up to the loop's head. -/
theorem begin_ {Y B X IT : Value} {w w₁ : World} (hload : (Instr.loadAt K.t B).run P w = .ok X w) (hrange : (Instr.range K.t X).run P w = .ok IT w₁) :
    ∃ tmps, Hd tmps Y IT ∧ ∀ cs, Steps P (lone (Frame.enter P k #[Y, B] .normal) cs w) (lone (K.head tmps) cs w₁) := by
  have hent : Frame.enter P k #[Y, B] .normal = fr (k := k) (#[Y, B] ++ Array.replicate 12 Go.undef) [.code (.seq (.region K.i0 #[K.o00, K.o01] false) (.block K.b0 (.loop K.LB)))] := by
    simp [Frame.enter, K.hf, K.body, K.hn, fr]
  obtain ⟨t0, ht0⟩ : ∃ x, #[Y, B] ++ Array.replicate 12 Go.undef = x := ⟨_, rfl⟩
  rw [ht0] at hent
  have z0 : t0.size = 14 := by rw [← ht0]; simp
  have y0 : t0.getD 0 Go.undef = Y := by rw [← ht0]; rfl
  have b0 : t0.getD 1 Go.undef = B := by rw [← ht0]; rfl
  obtain ⟨ta, hta⟩ : ∃ x, t0.setIfInBounds 4 X = x := ⟨_, rfl⟩
  have s0 : OpSim P #[K.o00, K.o01] 0 t0 w ta w := hta ▸ opW _ K.h00 rfl (by intro c h; cases h) (fun ρ hρ => by
    show (do pure (Next.value (← Instr.loadAt K.t (ρ (.tmp 1)))) : Sem Next).run P w = _
    rw [run_v, hρ, b0, hload]; rfl)
  have za : ta.size = 14 := by rw [← hta]; simpa using z0
  have ga : ∀ n, ta.getD n Go.undef = if n = 4 then X else t0.getD n Go.undef := fun n => by rw [← hta]; exact getD_set _ _ _ _ (by omega)
  obtain ⟨tb, htb⟩ : ∃ x, ta.setIfInBounds 5 IT = x := ⟨_, rfl⟩
  have s1 : OpSim P #[K.o00, K.o01] 1 ta w tb w₁ := htb ▸ opW _ K.h01 rfl (by intro c h; cases h) (fun ρ hρ => by
    show (do pure (Next.value (← Instr.range K.t (ρ (.tmp 4)))) : Sem Next).run P w = _
    rw [run_v, hρ, ga, if_pos rfl, hrange]; rfl)
  have gb : ∀ n, tb.getD n Go.undef = if n = 5 then IT else ta.getD n Go.undef := fun n => by rw [← htb]; exact getD_set _ _ _ _ (by omega)
  refine ⟨tb, ⟨by rw [← htb]; simpa using za, by rw [gb, if_neg (by omega), ga, if_neg (by omega), y0], by rw [gb, if_pos rfl]⟩, fun cs => ?_⟩
  rw [hent]
  unfold head fr
  refine .head (mk_seq (b := fr (k := k) t0 []) rfl) ?_
  refine Steps.trans (regSteps (b := fr (k := k) t0 []) rfl (RegSim.cons s0 (RegSim.cons s1 (RegSim.nil _ _ _ _)))) ?_
  refine .head (mk_block (b := fr (k := k) tb []) rfl) ?_
  exact .one (mk_loop (b := fr (k := k) tb []) rfl)

end KeysFn

def sameEs : List (AV × AV × Nat) → List (AV × AV × Nat) → Bool
  | [], [] => true
  | (a, b, c) :: l, (a', b', c') :: m => same a a' && (same b b' && (Nat.beq c c' && sameEs l m))
  | _, _ => false
theorem sameEs_eq : ∀ {l m : List (AV × AV × Nat)}, sameEs l m = true → l = m
  | [], [], _ => rfl
  | [], _ :: _, h => by simp [sameEs] at h
  | _ :: _, [], h => by simp [sameEs] at h
  | (a, b, c) :: l, (a', b', c') :: m, h => by
    simp only [sameEs, Bool.and_eq_true] at h
    rw [same_eq h.1, same_eq h.2.1, Nat.eq_of_beq_eq_true h.2.2.1, sameEs_eq h.2.2.2]

def keysNat : Nat1 := fun cl args s => match args with
  | [y, .ptr a j o] => match s.rd a j o with
    | some .nilm => some (.tup [], s)
    | some (.mp m) => match s.maps.get m with
      | some M => match M.es with
        | [] => some (.tup [], s)
        | [e] => match Nat.ble (e.2.2 + 1) M.clock with
          | true => match cl y [e.1] s with
            | some (.bool _, s') => match s'.maps.get m with
              | some M' => match Nat.beq M'.clock M.clock && sameEs M'.es [e] with
                | true => some (.tup [], s')
                | false => none
              | none => none
            | _ => none
          | false => none
        | _ => none
      | none => none
    | _ => none
  | _ => none

theorem keys_nsound {P : Program} {k : FuncId} (K : KeysFn P k) : NSound P k keysNat := by
  refine ⟨⟨K.f, _, K.hf, K.body, K.name⟩, ?_⟩
  intro E cl hcl args s v s' σ w hg r he hin
  unfold keysNat at hg
  split at hg
  · rename_i y a j o
    simp only [InL, and_true] at hin
    obtain ⟨hiny, hinp⟩ := hin
    -- nothing to hand out
    have none_left : ∀ {X IT : Value} {w₁ : World}, (Instr.loadAt K.t (conc σ (.ptr a j o))).run P w = .ok X w → (Instr.range K.t X).run P w = .ok IT w₁ → (Instr.next IT false K.o10.type).run P w₁ = .ok (.tuple #[.bool false]) w₁ →
        Rel P σ s w₁ → Ext σ s w σ s w₁ → FnOk P k [y, .ptr a j o] σ s w (.tup []) s := by
      intro X IT w₁ h1 h2 h3 h4 h5
      obtain ⟨tmps, hd, st⟩ := K.begin_ (Y := conc σ y) h1 h2
      have fin : ∀ cs, ∃ tmps', Steps P (lone (Frame.enter P k (concL σ [y, .ptr a j o]).toArray .normal) cs w) (lone (KeysFn.fr (k := k) tmps' []) cs w₁) := fun cs => by
        obtain ⟨tmps', e⟩ := K.at_end hd h3 cs
        exact ⟨tmps', (st cs).trans e⟩
      refine ⟨σ, w₁, h4, trivial, h5, fun c cs => ?_, fun cs => ?_⟩
      · obtain ⟨tmps', e⟩ := fin (c :: cs)
        exact e.trans ((K.out (x := .normal) (by simp [Arr1]) (by intro id h; cases h)).1 c cs)
      · obtain ⟨tmps', e⟩ := fin cs
        obtain ⟨f', e1, e2, e3⟩ := (K.out (tmps := tmps') (w := w₁) (x := .normal) (todo := []) (by simp [Arr1]) (by intro id h; cases h)).2 cs
        exact ⟨f', e.trans e1, e2, e3⟩
    split at hg
    · -- no map
      rename_i hrd
      cases hg
      obtain ⟨q1, _⟩ := sim_ld1 r hinp K.hagg hrd
      exact none_left q1 (run_range_nilMap w K.t K.kt K.vt K.ht) (run_next_nilMap w _ 0 0 #[]) (r.garbage _) (Ext.garbage σ s w _)
    · rename_i m hrd
      obtain ⟨q1, q2⟩ := sim_ld1 r hinp K.hagg hrd
      simp only [In] at q2
      obtain ⟨bm, hbm⟩ := isSome_get q2
      have q1' : (Instr.loadAt K.t (conc σ (.ptr a j o))).run P w = .ok (.map (some bm)) w := by rw [q1]; simp [conc, hbm]
      split at hg
      · rename_i M hM
        obtain ⟨M₀, n1, n2, n3⟩ := r.map m bm hbm
        rw [hM] at n1; cases n1
        have hblt : bm < w.heap.size := r.blk_lt (.inr (.inl ⟨m, hbm⟩))
        obtain ⟨w₁, hw₁⟩ : ∃ x, w.alloc (.mapIter (some bm) M.clock #[] M.clock) = x := ⟨_, rfl⟩
        have q3 := run_range_map (P := P) w K.t K.kt K.vt bm _ _ K.ht n2
        rw [hw₁] at q3
        have r₁ : Rel P σ s w₁ := hw₁ ▸ r.garbage _
        have x₁ : Ext σ s w σ s w₁ := hw₁ ▸ Ext.garbage σ s w _
        have g1 : w₁.heap[w.heap.size]? = some (.mapIter (some bm) M.clock #[] M.clock) := by rw [← hw₁]; exact Go.heap_alloc_new w _
        have g2 : w₁.heap[bm]? = some (.map (M.es.map (centry σ)).toArray M.clock) := by rw [← hw₁, Go.heap_alloc_old w _ hblt]; exact n2
        split at hg
        · -- none there
          rename_i hes
          cases hg
          refine none_left q1' q3 ?_ r₁ x₁
          rcases run_next_at (P := P) w₁ K.o10.type w.heap.size bm M.clock M.clock #[] _ M.clock g1 g2 (by rw [hes]; intro x hx; cases hx) (Nat.le_refl _) with ⟨_, h⟩ | ⟨e, h, _⟩
          · exact h
          · exfalso; rw [hes] at h; simp [leftOf] at h
        · -- one
          rename_i e hes
          split at hg
          · rename_i hborn
            rw [ble_eq] at hborn
            simp only [decide_eq_true_eq] at hborn
            split at hg
            · rename_i bb s₂ hcall
              split at hg
              · rename_i M' hM'
                split at hg
                · rename_i hsame
                  simp only [Bool.and_eq_true] at hsame
                  have hMc := Nat.eq_of_beq_eq_true hsame.1
                  have hMe := sameEs_eq hsame.2
                  cases hg
                  have hea : (M.es.map (centry σ)).toArray = #[centry σ e] := by rw [hes]; rfl
                  rw [hea] at g2
                  have hie : In σ e.1 := (n3 e (by rw [hes]; exact List.mem_cons_self ..)).1
                  rcases run_next_at (P := P) w₁ K.o10.type w.heap.size bm M.clock M.clock #[] _ M.clock g1 g2 (by intro x hx; simp at hx; rw [hx]; exact hborn) (Nat.le_refl _) with ⟨h, _⟩ | ⟨e', he', wd, hwd, hnx⟩
                  · exfalso; simp [leftOf] at h
                  · have hee : e' = centry σ e := by simpa [leftOf] using he'
                    subst hee
                    have hdh : ∀ q : Nat, wd.heap[q]? = w₁.heap[q]? := fun q => by rcases hwd with rfl | rfl <;> rfl
                    have hds : wd.heap.size = w₁.heap.size := by rcases hwd with rfl | rfl <;> rfl
                    obtain ⟨w₂, hw₂⟩ : ∃ x, setBlock wd w.heap.size (.mapIter (some bm) M.clock (#[].push (centry σ e).born) M.clock) = x := ⟨_, rfl⟩
                    rw [hw₂] at hnx
                    have hgd : wd.heap[w.heap.size]? = some (.mapIter (some bm) M.clock #[] M.clock) := by rw [hdh]; exact g1
                    have hset := Go.MapKept.heap_set (o' := .mapIter (some bm) M.clock (#[].push (centry σ e).born) M.clock) hgd
                    have k1 : w₂.heap[w.heap.size]? = some (.mapIter (some bm) M.clock (#[].push (centry σ e).born) M.clock) := by rw [← hw₂]; exact hset.1
                    have k2 : ∀ q : Nat, q ≠ w.heap.size → w₂.heap[q]? = w₁.heap[q]? := fun q hq => by rw [← hw₂, ← hdh]; exact hset.2 q hq
                    have r₂ : Rel P σ s w₂ := r₁.world fun q hq => k2 q (by have := r.blk_lt hq; omega)
                    have x₂ : Ext σ s w σ s w₂ := by
                      refine ⟨x₁.le, x₁.img, fun q hq hn => by rw [k2 q (by omega)]; exact x₁.fr q hq hn, ?_, ?_, ?_, ?_, x₁.na, x₁.nm, x₁.nl, x₁.fa, x₁.fm⟩
                      · rw [← hw₂]; show w.heap.size ≤ (wd.heap.setIfInBounds _ _).size; rw [Array.size_setIfInBounds, hds]; exact x₁.size
                      · rw [← hw₂]; show wd.os = _; rcases hwd with rfl | rfl <;> exact x₁.os
                      · rw [← hw₂]; show wd.tape = _; rcases hwd with rfl | rfl <;> exact x₁.tape
                      · rw [← hw₂]; show wd.output = _; rcases hwd with rfl | rfl <;> exact x₁.output
                    have k3 : w₂.heap[bm]? = some (.map #[centry σ e] M.clock) := by rw [k2 bm (by omega)]; exact g2
                    have hent := run_entry_at (P := P) w₂ w.heap.size bm M.clock #[] #[centry σ e] M.clock (centry σ e) k1 k3 (by simp) (by simp)
                    obtain ⟨σ₃, w₃, c1, c2, c3, c4⟩ := hcl y [e.1] s (.bool bb) s' σ w₂ hcall r₂ he hiny ⟨hie, trivial⟩
                    have c4' : CallSim P (conc σ y) #[(centry σ e).key] w₂ (.bool bb) w₃ := c4
                    obtain ⟨tmps, hd, st⟩ := K.begin_ (Y := conc σ y) q1' q3
                    obtain ⟨tmps₁, hd₁, st₁⟩ := K.round hd hnx hent c4'
                    have x₃ := x₂.trans c3
                    cases bb with
                    | false =>
                      refine ⟨σ₃, w₃, c1, trivial, x₃, fun c cs => ?_, fun cs => ?_⟩
                      · obtain ⟨todo, h1, h2⟩ := st₁ (c :: cs)
                        simp only [Bool.false_eq_true, if_false] at h1
                        exact ((st _).trans h2).trans ((K.out (x := .ret) (by simpa [Arr1] using h1) (by intro id h; cases h)).1 c cs)
                      · obtain ⟨todo, h1, h2⟩ := st₁ cs
                        simp only [Bool.false_eq_true, if_false] at h1
                        obtain ⟨f', e1, e2, e3⟩ := (K.out (tmps := tmps₁) (w := w₃) (x := .ret) (todo := todo) (by simpa [Arr1] using h1) (by intro id h; cases h)).2 cs
                        exact ⟨f', ((st _).trans h2).trans e1, e2, e3⟩
                    | true =>
                      have hni : ¬ img σ w.heap.size := fun h => by have := r.blk_lt h; omega
                      have hlt2 : w.heap.size < w₂.heap.size := by
                        have := (Array.getElem?_eq_some_iff.1 k1).1; exact this
                      have g3 : w₃.heap[w.heap.size]? = some (.mapIter (some bm) M.clock (#[].push (centry σ e).born) M.clock) := by rw [c3.fr _ hlt2 hni]; exact k1
                      obtain ⟨M₃, p1, p2, p3⟩ := c1.map m bm (c3.le.mp m bm hbm)
                      rw [hM'] at p1; cases p1
                      rw [hMc, hMe] at p2
                      have hend : (Instr.next (.pointer (some ⟨w.heap.size, 0, none⟩)) false K.o10.type).run P w₃ = .ok (.tuple #[.bool false]) w₃ := by
                        rcases run_next_at (P := P) w₃ K.o10.type w.heap.size bm M.clock M.clock (#[].push (centry σ e).born) _ M.clock g3 p2 (by intro x hx; simp at hx; rw [hx]; exact hborn) (Nat.le_refl _) with ⟨_, h⟩ | ⟨e'', h, _⟩
                        · exact h
                        · exfalso; simp [leftOf, centry] at h
                      have fin : ∀ cs, ∃ tmps', Steps P (lone (Frame.enter P k (concL σ [y, .ptr a j o]).toArray .normal) cs w) (lone (KeysFn.fr (k := k) tmps' []) cs w₃) := fun cs => by
                        obtain ⟨todo, h1, h2⟩ := st₁ cs
                        simp only [if_true] at h1
                        subst h1
                        obtain ⟨tmps', e3⟩ := K.at_end hd₁ hend cs
                        exact ⟨tmps', ((st cs).trans h2).trans e3⟩
                      refine ⟨σ₃, w₃, c1, trivial, x₃, fun c cs => ?_, fun cs => ?_⟩
                      · obtain ⟨tmps', e⟩ := fin (c :: cs)
                        exact e.trans ((K.out (x := .normal) (by simp [Arr1]) (by intro id h; cases h)).1 c cs)
                      · obtain ⟨tmps', e⟩ := fin cs
                        obtain ⟨f', e1, e2, e3⟩ := (K.out (tmps := tmps') (w := w₃) (x := .normal) (todo := []) (by simp [Arr1]) (by intro id h; cases h)).2 cs
                        exact ⟨f', e.trans e1, e2, e3⟩
                · cases hg
              · cases hg
            · cases hg
          · cases hg
        · cases hg
      · cases hg
    · cases hg
  · cases hg

end Go.Ab
end

noncomputable section
namespace Go.Ab
open Go.RowKit

def evCallN2 (E : Env) (tab : Tab) (nt : NTab) (lf : Nat) (n : Nat) : Oracle :=
  Nat.rec (motive := fun _ => Oracle) (fun _ _ _ => none) (fun _ ih f args s => match f with
    | .fn k first cap => match nt.get k with
      | some g => g ih (first ++ args ++ cap) s
      | none => match tab.get k with
        | some F => evFunc2 E ih lf F (first ++ args ++ cap) s
        | none => none
    | .yld l => evRound2 E ih lf l args s
    | _ => none) n
theorem evCallN2_eq : evCallN2 = evCallN := by
  funext E tab nt lf n
  induction n with
  | zero => rfl
  | succ n ih =>
    funext f args s
    show (match f with
    | .fn k first cap => match nt.get k with
      | some g => g (evCallN2 E tab nt lf n) (first ++ args ++ cap) s
      | none => match tab.get k with
        | some F => evFunc2 E (evCallN2 E tab nt lf n) lf F (first ++ args ++ cap) s
        | none => none
    | .yld l => evRound2 E (evCallN2 E tab nt lf n) lf l args s
    | _ => none) = _
    rw [ih, evFunc2_eq, evRound2_eq]; rfl

theorem NtOk.e {P : Program} : NtOk P .e := fun _ _ h => by cases h
theorem NtMono.e : NtMono .e := fun _ _ h => by cases h
theorem NtOk.set {P : Program} {nt : NTab} (h : NtOk P nt) {k : Nat} {g : Nat1} (hg : NSound P k g) : NtOk P (nt.set k g) := fun k' g' h' => by
  by_cases e : k' = k
  · subst e; rw [Tr.get_set_same] at h'; cases h'; exact hg
  · rw [Tr.get_set_ne _ _ e] at h'; exact h _ _ h'
theorem NtMono.set {nt : NTab} (h : NtMono nt) {k : Nat} {g : Nat1} (hg : ∀ c c', OLe c c' → ∀ args s r, g c args s = some r → g c' args s = some r) : NtMono (nt.set k g) := fun k' g' h' => by
  by_cases e : k' = k
  · subst e; rw [Tr.get_set_same] at h'; cases h'; exact hg
  · rw [Tr.get_set_ne _ _ e] at h'; exact h _ _ h'

/-- A call whose arguments refer to nothing, and that answers so: its answer is a matter of its arguments alone. -/
def closedNat (f : List AV → Option AV) : Nat1 := fun _ args s => match f args with
  | some v => some (v, s)
  | none => none
theorem closedNat_mono (f : List AV → Option AV) : ∀ c c', OLe c c' → ∀ args s r, closedNat f c args s = some r → closedNat f c' args s = some r := fun _ _ _ _ _ _ h => h

theorem closed_nsound {P : Program} {tab : Tab} {nt : NTab} (htab : TabOk P tab) (hnt : NtOk P nt) (hmix : P.follows .mixedOrders = true) {k : FuncId} {f : List AV → Option AV}
    (hk : Entered P k)
    (h : ∀ args v, f args = some v → plainV v = true ∧ (∀ a ∈ args, plainV a = true) ∧ ∃ lf n s₁, evCallN E0 tab nt lf (n + 1) (.fn k [] []) args AS.empty = some (v, s₁)) : NSound P k (closedNat f) := by
  refine ⟨hk, fun E cl _ args s v s' σ w hg r he hin => ?_⟩
  unfold closedNat at hg
  split at hg
  · rename_i v' hf
    cases hg
    obtain ⟨h1, h2, lf, n, s₁, h3⟩ := h _ _ hf
    have hI : ∀ (l : List AV), (∀ a ∈ l, plainV a = true) → ∀ τ : Sg, InL τ l ∧ concL τ l = concL σ l := by
      intro l
      induction l with
      | nil => intro _ τ; exact ⟨trivial, rfl⟩
      | cons a l ih =>
        intro hl τ
        have h4 := hl a List.mem_cons_self
        have h5 := ih (fun b hb => hl b (List.mem_cons_of_mem _ hb)) τ
        exact ⟨⟨plainV_in h4, h5.1⟩, by rw [concL, concL, plainV_conc h4, h5.2]⟩
    obtain ⟨i1, i2⟩ := hI args h2 (Sg.start σ.opq)
    obtain ⟨_, σ', w', k1, k2, k3, k4, k5⟩ := evCallN_fn htab hnt hmix (evCallN_ok htab hnt hmix lf n) h3 (rel_start r.opq w) (eok0 _) (by simpa using i1)
    have hb := ext_below k3
    have hfr : ∀ b, b < w.heap.size → w'.heap[b]? = w.heap[b]? := fun b hb' => k3.fr b hb' fun hi => by
      rcases hi with ⟨a, vi, hv, _⟩ | ⟨m, hm⟩ | ⟨l, hl⟩
      · cases hv
      · cases hm
      · cases hl
    have hc : conc σ v = conc σ' v := plainV_conc h1
    refine ⟨σ, w', r.world fun b hb' => hfr b (r.blk_lt hb'), plainV_in h1, ⟨.refl σ, fun _ h => .inl h, fun b hb' _ => hfr b hb', k3.size, k3.os, k3.tape, k3.output, Nat.le_refl _, Nat.le_refl _, Nat.le_refl _, fun _ _ h => ⟨rfl, h⟩, fun _ _ h => ⟨rfl, h⟩⟩, ?_, ?_⟩
    · intro c cs; rw [hc]; have := k4 c cs; simp only [List.nil_append, List.append_nil] at this; rw [← i2]; exact this
    · intro cs; rw [hc]; have := k5 cs; simp only [List.nil_append, List.append_nil] at this; rw [← i2]; exact this
  · cases hg

/-- THE EVALUATOR SAYS TRUE: the machine returns true, and all that lay there lies as it lay. -/
theorem true_of_evN {P : Program} {tab : Tab} {nt : NTab} (htab : TabOk P tab) (hnt : NtOk P nt) (hmix : P.follows .mixedOrders = true) {lf n : Nat} {k : FuncId} {args : List AV} {s' : AS} (h : evCallN E0 tab nt lf (n + 1) (.fn k [] []) args AS.empty = some (.bool true, s'))
    {o : Nat → Value} (ho : ∀ i, (o i).oneCell' = true) (hin : InL (Sg.start o) args) (w : World) :
    Calls P k (concL (Sg.start o) args).toArray w (fun e w' => e = .returned (.bool true) ∧ Below w.heap.size w w') := by
  obtain ⟨σ', w', _, _, k3, k4⟩ := calls_of_evN htab hnt hmix lf n h (rel_start ho w) (eok0 _) hin
  exact k4.mono fun e w'' ⟨h1, h2⟩ => ⟨h1, by rw [h2]; exact ext_below k3⟩

end Go.Ab
end

noncomputable section
namespace Go.Ab
theorem keysNat_mono : ∀ c c', OLe c c' → ∀ args s r, keysNat c args s = some r → keysNat c' args s = some r := by
  intro c c' h args s r hr
  unfold keysNat at hr ⊢
  repeat' split at hr
  all_goals first
    | (cases hr; done)
    | exact hr
    | (rename_i hc x1 M1 h1 x0 h0; rw [h _ _ _ _ hc]; simp only [h1, h0]; exact hr)
theorem shaNat_mono (K : List Nat) : ∀ c c', OLe c c' → ∀ args s r, shaNat K c args s = some r → shaNat K c' args s = some r := fun _ _ _ _ _ _ h => h
end Go.Ab
end
