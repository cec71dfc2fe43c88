/- Soundness of the abstract evaluator: strings, conversions, the greatest and the least, flat comparison. -/
import Derived.Test.YthekpkcmlndcmaaGreatAbO2
noncomputable section
namespace Go.Ab

section
variable {P : Program} {E : Env} {cl : Oracle} {σ : Sg} {s s' : AS} {w : World} {T : Tr AV} {ρ : Operand → Value}

theorem sim_slStr {t : TypeId} (ht : P.underlying t = some .string) {b : ByteArray} {lo hi : Option AV} {l h : Nat} (hh : optN b.size hi = some h) (hl : optN 0 lo = some l) (h1 : l ≤ h) (h2 : h ≤ b.size) :
    (Instr.sliceAt t (.string b) (lo.map (conc σ)) (hi.map (conc σ)) none).run P w = .ok (.string (b.extract l h)) w := by
  simp only [Instr.sliceAt, Sem.run_bind, run_und ht, Result.andThen_ok, Instr.slice]
  have := bounds_run (σ := σ) (P := P) (w := w) (b := false) (cap := b.size) (mx := none) (m := b.size) hl hh rfl h1 h2 (Nat.le_refl _) (by simp)
  simp only [Option.map_none] at this
  simp [this]

theorem sim_mx (he : EOk E σ) {x y v : AV} (h : mxAV E x y = some v) (hx : In σ x) (hy : In σ y) : (Builtin.max2 (conc σ x) (conc σ y)).run P w = .ok (conc σ v) w ∧ In σ v := by
  unfold mxAV at h
  split at h
  · cases h; exact ⟨rfl, trivial⟩
  · cases h
    refine ⟨?_, trivial⟩
    simp only [Builtin.max2, conc, Sem.run_bind, Op.stringOp, Sem.run_pure, Result.andThen_ok, asBool]
  · split at h
    · cases h
    · rename_i hk
      rw [isI64_eq hk] at *
      split at h
      · rename_i hc; cases h
        obtain ⟨k1, _⟩ := symCmp_run (P := P) (w := w) he hc 0
        simp [binOp, Op.intCmp, numOf, conc] at k1
        simp [Builtin.max2, conc, k1, In]
      · rename_i hc; cases h
        obtain ⟨k1, _⟩ := symCmp_run (P := P) (w := w) he hc 0
        simp [binOp, Op.intCmp, numOf, conc] at k1
        simp [Builtin.max2, conc, In]
        omega
      · cases h
  · split at h
    · cases h
    · rename_i hk
      rw [isI64_eq hk] at *
      split at h
      · rename_i hc; cases h
        obtain ⟨k1, _⟩ := symCmp_run (P := P) (w := w) he hc 0
        simp [binOp, Op.intCmp, numOf, conc] at k1
        simp [Builtin.max2, conc, k1, In]
      · rename_i hc; cases h
        obtain ⟨k1, _⟩ := symCmp_run (P := P) (w := w) he hc 0
        simp [binOp, Op.intCmp, numOf, conc] at k1
        simp [Builtin.max2, conc, In]
        omega
      · cases h
  · cases h

theorem sim_mn (he : EOk E σ) {x y v : AV} (h : mnAV E x y = some v) (hx : In σ x) (hy : In σ y) : (Builtin.min2 (conc σ x) (conc σ y)).run P w = .ok (conc σ v) w ∧ In σ v := by
  unfold mnAV at h
  split at h
  · cases h; exact ⟨rfl, trivial⟩
  · cases h
    refine ⟨?_, trivial⟩
    simp only [Builtin.min2, conc, Sem.run_bind, Op.stringOp, Sem.run_pure, Result.andThen_ok, asBool]
  · split at h
    · cases h
    · rename_i hk
      rw [isI64_eq hk] at *
      split at h
      · rename_i hc; cases h
        obtain ⟨k1, _⟩ := symCmp_run (P := P) (w := w) he hc 0
        simp [binOp, Op.intCmp, numOf, conc] at k1
        have k1 := of_decide_eq_true k1
        simp [Builtin.min2, conc, In]
        omega
      · rename_i hc; cases h
        obtain ⟨k1, _⟩ := symCmp_run (P := P) (w := w) he hc 0
        simp [binOp, Op.intCmp, numOf, conc] at k1
        have k1 := of_decide_eq_false k1
        simp [Builtin.min2, conc, In]
        omega
      · cases h
  · split at h
    · cases h
    · rename_i hk
      rw [isI64_eq hk] at *
      split at h
      · rename_i hc; cases h
        obtain ⟨k1, _⟩ := symCmp_run (P := P) (w := w) he hc 0
        simp [binOp, Op.intCmp, numOf, conc] at k1
        have k1 := of_decide_eq_true k1
        simp [Builtin.min2, conc, In]
        omega
      · rename_i hc; cases h
        obtain ⟨k1, _⟩ := symCmp_run (P := P) (w := w) he hc 0
        simp [binOp, Op.intCmp, numOf, conc] at k1
        have k1 := of_decide_eq_false k1
        simp [Builtin.min2, conc, In]
        omega
      · cases h
  · cases h

theorem sim_fold {f : AV → AV → Option AV} {g : Value → Value → Sem Value} (hf : ∀ {x y v}, f x y = some v → In σ x → In σ y → (g (conc σ x) (conc σ y)).run P w = .ok (conc σ v) w ∧ In σ v) :
    ∀ {l : List AV} {x v : AV}, foldAV f x l = some v → In σ x → InL σ l → ((concL σ l).foldlM g (conc σ x)).run P w = .ok (conc σ v) w ∧ In σ v
  | [], x, v, h, hx, _ => by simp only [foldAV] at h; cases h; exact ⟨rfl, hx⟩
  | y :: l, x, v, h, hx, hl => by
    simp only [foldAV] at h
    split at h
    · rename_i z hz
      obtain ⟨k1, k2⟩ := hf hz hx hl.1
      obtain ⟨m1, m2⟩ := sim_fold hf h k2 hl.2
      refine ⟨?_, m2⟩
      simp only [concL, List.foldlM_cons, Sem.run_bind]
      rw [k1]; exact m1
    · cases h

theorem sim_un {k : IntKind} {n : Int} : (Op.unary .neg (.int k n)).run P w = .ok (.int k (k.wrap (0 - n))) w := by
  simp [Op.unary, Op.intArith]

/-! conversions -/
theorem sim_cvInt {a d : TypeId} {u : TypeDesc} {k : IntKind} (ha : P.underlying a = some u) (hd : P.underlying d = some (.int k)) {k' : IntKind} {n : Int} :
    (convert a d (.int k' n)).run P w = .ok (.int k (k.wrap n)) w := by
  simp only [convert, Sem.run_bind, run_und ha, run_und hd, Result.andThen_ok]
  cases u <;> rfl

theorem sim_cvStr {a d : TypeId} (ha : P.underlying a = some .string) (hd : P.underlying d = some .string) {b : ByteArray} : (convert a d (.string b)).run P w = .ok (.string b) w := by
  simp [convert, run_und ha, run_und hd]

theorem bytesOfL_conc : ∀ {l : List AV} {b : List UInt8}, bytesOfL l = some b → ∃ ns : List Nat, concL σ l = List.map (fun (n : Nat) => Value.int .u8 (n : Int)) ns ∧ b = ns.map UInt8.ofNat
  | [], b, h => by simp only [bytesOfL] at h; cases h; exact ⟨[], rfl, rfl⟩
  | x :: l, b, h => by
    have key : ∀ n : Nat, x = .int .u8 (.ofNat n) → ∃ ns : List Nat, concL σ (x :: l) = List.map (fun (n : Nat) => Value.int .u8 (n : Int)) ns ∧ b = ns.map UInt8.ofNat := by
      intro n hx
      subst hx
      simp only [bytesOfL] at h
      split at h
      · rename_i r hr
        cases h
        obtain ⟨ns, h2, h3⟩ := bytesOfL_conc hr
        exact ⟨n :: ns, by simp [concL, conc, h2], by simp [h3]⟩
      · cases h
    cases x with
    | int k n =>
      cases n with
      | ofNat n => cases k <;> first | exact key n rfl | (simp [bytesOfL] at h)
      | negSucc n => cases k <;> simp [bytesOfL] at h
    | _ => simp [bytesOfL] at h

theorem fromBytes_run (ns : List Nat) : ∀ (acc : ByteArray),
    (forIn (List.map (fun (n : Nat) => Value.int .u8 (n : Int)) ns) acc (fun c s => (match c with
      | .int .u8 n => pure (ForInStep.yield (s.push (UInt8.ofNat n.toNat)))
      | _ => do
        (stuck "bytesToString: byte expected" : Sem PUnit)
        pure (ForInStep.yield s) : Sem (ForInStep ByteArray))) : Sem ByteArray).run P w = .ok ⟨acc.data ++ (ns.map UInt8.ofNat).toArray⟩ w := by
  induction ns with
  | nil => intro acc; simp
  | cons n ns ih =>
    intro acc
    simp only [List.map_cons, List.forIn_cons, Sem.run_bind, Sem.run_pure, Result.andThen_ok, Int.toNat_natCast]
    rw [ih]
    congr 2
    simp [ByteArray.push]

theorem sim_cvBS {a d e : TypeId} (ha : P.underlying a = some (.slice e)) (hd : P.underlying d = some .string) (hu : P.underlying e = some (.int .u8)) {x : Value} {ns : List Nat}
    (hx : (x = .slice none 0 0 ∧ ns = []) ∨ ∃ p n c, x = .slice (some p) n c ∧ (loadCells p n).run P w = .ok (List.map (fun (n : Nat) => Value.int .u8 (n : Int)) ns).toArray w) :
    (convert a d x).run P w = .ok (.string ⟨(ns.map UInt8.ofNat).toArray⟩) w := by
  rcases hx with ⟨rfl, rfl⟩ | ⟨p, n, c, rfl, hl⟩
  · simp [convert, run_und ha, run_und hd, run_und hu, Conv.bytesToString]; rfl
  · simp only [convert, Sem.run_bind, run_und ha, run_und hd, run_und hu, Result.andThen_ok, Conv.bytesToString, hl]
    have := fromBytes_run (P := P) (w := w) ns .empty
    rw [← List.forIn_toArray] at this
    refine (congrArg (fun r => Result.andThen r (fun a w' => Sem.run P (pure (Value.string a)) w')) this).trans ?_
    simp

end
end Go.Ab
