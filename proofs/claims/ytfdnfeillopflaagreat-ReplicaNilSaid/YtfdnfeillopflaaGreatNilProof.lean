/- ReplicaNil, proved: a replica that is nil answers like an empty one, what is signed of an attestation is the same both ways, and a replica awake stays awake, whatever the message and the attestation. -/
import Derived.Test.YtfdnfeillopflaaGreatBLaw
import Derived.Test.YtfdnfeillopflaaGreatNilJ
import Derived.ProofKit
namespace Go.Proofs.YtfdnfeillopflaaGreat
open Go.ChangeShapes Go.WideShapes Go.ChangeAt Go.RowKit Go.Ab

theorem ownNil : ownKnob Tryz.prog.godebug = none := by kernel_rfl
theorem laidNil : laidOutB Tryz.prog = true := by kernel_rfl
theorem mixNil : Tryz.prog.follows .mixedOrders = true := by kernel_rfl

theorem u8s_in (σ : Sg) (d : List Nat) : InL σ (u8s d) ∧ concL σ (u8s d) = d.map fun (n : Nat) => Value.int .u8 (n : Int) := by
  induction d with
  | nil => exact ⟨trivial, rfl⟩
  | cons n d ih => exact ⟨⟨trivial, ih.1⟩, by show Value.int .u8 (n : Int) :: concL σ (u8s d) = _; rw [ih.2]; rfl⟩

theorem sameL_opqs (n i : Nat) : sameL (opqs n i) (opqs n i) = true := by
  induction n generalizing i with
  | zero => rfl
  | succ n ih =>
    show (match same1 (.opq i) (.opq i) with | true => sameL (opqs n (i + 1)) (opqs n (i + 1)) | false => false) = true
    rw [show same1 (.opq i) (.opq i) = true from by simp [same1], ih]

theorem walkNil (a b : Array Value) (sq V : Int) (d : List Nat) (rest : List Value) (ha : a.size = 73) (la : ∀ v ∈ a.toList, v.oneCell' = true) (hd : d.length = 32) (hr : rest.length = 33) (lr : ∀ v ∈ rest, v.oneCell' = true)
    (hb : b.toList = [.int .i64 sq] ++ (d.map fun (n : Nat) => Value.int .u8 (n : Int)) ++ (.int .i64 V :: rest)) (w : World) :
    Calls Tryz.prog 9 #[.agg a, .agg b] w (fun e w' => e = .returned (.bool true) ∧ Below w.heap.size w w') := by
  have ho : ∀ i, (ofL (a.toList ++ rest) i).oneCell' = true := ofL_leaf (by
    intro v hv
    simp only [List.mem_append] at hv
    rcases hv with hv | hv
    · exact la v hv
    · exact lr v hv)
  obtain ⟨lf, n, v, s', h1, rfl⟩ := B.w_law9 (m := opqs 73 0) (sq := sq) (V := V) (d := d) (rest := opqs 33 73) rfl hd rfl (sameL_opqs _ _) AS.empty
  cases n with
  | zero => cases h1
  | succ n =>
    have key := true_of_evN B.tab_ok B.nt1_ok mixNil h1 ho (by
      simp only [InL, In, and_true]
      exact ⟨opqs_in _ _ _, InL_append (InL_append ⟨trivial, trivial⟩ (u8s_in _ d).1) ⟨trivial, opqs_in _ _ _⟩⟩) w
    have e1 : concL (Sg.start (ofL (a.toList ++ rest))) (opqs 73 0) = a.toList := by
      rw [opqs_conc]
      have := ofL_seg [] a.toList rest
      simp only [List.length_nil, List.nil_append, Array.length_toList, ha] at this
      exact this
    have e2 : concL (Sg.start (ofL (a.toList ++ rest))) (opqs 33 73) = rest := by
      rw [opqs_conc]
      have := ofL_seg a.toList rest []
      simp only [Array.length_toList, ha, hr, List.append_nil] at this
      exact this
    have e3 : concL (Sg.start (ofL (a.toList ++ rest))) ([.int .i64 sq] ++ u8s d ++ (.int .i64 V :: opqs 33 73)) = b.toList := by
      rw [concL_append, concL_append, (u8s_in _ d).2, hb]
      show _ ++ _ ++ (Value.int .i64 V :: concL _ (opqs 33 73)) = _
      rw [e2]; rfl
    simp only [concL, conc, e1, e3] at key
    exact key

/-- A cell of an integer type. -/
theorem cell_int {P : Program} {w : World} {r : Reach} {base : Nat} {t : TypeId} {k : IntKind} {v : Value} (ht : P.underlying t = some (.int k)) (h : Cell.okWide P w r base t v) : ∃ n, v = .int k n ∧ k.has n := by
  have h' : Cell.ok P w r base t v := by
    unfold Cell.okWide at h; rw [ht] at h; revert h; cases v <;> exact id
  unfold Cell.ok at h'
  rw [ht] at h'
  cases v with
  | int k' n => exact ⟨n, congrArg (Value.int · n) h'.1, h'.2⟩
  | _ => exact False.elim h'

def kindAt (P : Program) (t : TypeId) : Option IntKind := match P.underlying t with | some (.int k) => some k | _ => none
theorem kindAt_some {P : Program} {t : TypeId} {k : IntKind} (h : kindAt P t = some k) : P.underlying t = some (.int k) := by
  unfold kindAt at h
  split at h
  · cases h; assumption
  · cases h

theorem kinds73 : ((Tryz.prog.cellTypes Tryz.prog.depth 73).map fun ts => (ts.length, (ts.take 34).map (kindAt Tryz.prog))) = some (67, [some .i64] ++ List.replicate 32 (some .u8) ++ [some .i64]) := by kernel_rfl

set_option maxRecDepth 100000 in
theorem attest_of {w : World} {r : Reach} {base : Nat} {v : Value} (h : Value.okWide Tryz.prog w r base 73 v) : ∃ (b : Array Value) (sq V : Int) (d : List Nat) (rest : List Value), v = .agg b ∧ d.length = 32 ∧ rest.length = 33 ∧ (∀ v ∈ rest, v.oneCell' = true) ∧
    b.toList = [.int .i64 sq] ++ (d.map fun (n : Nat) => Value.int .u8 (n : Int)) ++ (.int .i64 V :: rest) := by
  obtain ⟨cs, rfl, sz, leafs⟩ := agg_leaf Tryz.underlying73 h
  have sz' : cs.size = 67 := sz.trans (by kernel_rfl)
  unfold Value.okWide at h
  rw [Tryz.underlying73] at h
  obtain ⟨cs', h1, _, ts, h2, _, h3⟩ := h
  cases h1
  have hk := kinds73
  rw [h2] at hk
  simp only [Option.map_some, Option.some.injEq, Prod.mk.injEq] at hk
  obtain ⟨hl, hk⟩ := hk
  have at' : ∀ i k, i < 34 → ([some IntKind.i64] ++ List.replicate 32 (some .u8) ++ [some .i64] : List (Option IntKind))[i]? = some (some k) → ∃ n, cs.toList[i]? = some (.int k n) ∧ k.has n := by
    intro i k hi hik
    have hc : cs[i]? = some cs[i] := Array.getElem?_eq_getElem (by omega)
    obtain ⟨u, u1, u2⟩ := h3 i _ hc
    rw [hl, Nat.mod_eq_of_lt (by omega)] at u1
    rw [← hk, List.getElem?_map, List.getElem?_take_of_lt hi, u1] at hik
    simp only [Option.map_some, Option.some.injEq] at hik
    obtain ⟨n, n1, n2⟩ := cell_int (kindAt_some hik) u2
    exact ⟨n, by rw [Array.getElem?_toList, hc, n1], n2⟩
  obtain ⟨sq, q1, _⟩ := at' 0 .i64 (by omega) rfl
  obtain ⟨V, v1, _⟩ := at' 33 .i64 (by omega) rfl
  have hu : ∀ i, i < 32 → ∃ n : Nat, cs.toList[i + 1]? = some (.int .u8 (n : Int)) := by
    intro i hi
    obtain ⟨n, n1, n2⟩ := at' (i + 1) .u8 (by omega) (by
      rw [List.append_assoc, List.getElem?_append_right (by simp), List.getElem?_append_left (by simp; omega), List.getElem?_replicate, if_pos (by simp only [List.length_singleton]; omega)])
    have h0 : 0 ≤ n := n2.1
    exact ⟨n.toNat, by rw [n1, Int.toNat_of_nonneg h0]⟩
  have hlen : cs.toList.length = 67 := by simpa using sz'
  refine ⟨cs, sq, V, ((List.range 32).map fun i => match cs.toList[i + 1]? with | some (Value.int _ n) => n.toNat | _ => 0), cs.toList.drop 34, rfl, by simp, by simp [hlen], fun v hv => leafs v (List.mem_of_mem_drop hv), ?_⟩
  apply List.ext_getElem?
  intro i
  rcases Nat.lt_or_ge i 1 with h0 | h0
  · obtain rfl : i = 0 := by omega
    rw [q1]; rfl
  · rcases Nat.lt_or_ge i 33 with h4 | h4
    · obtain ⟨n, hn⟩ := hu (i - 1) (by omega)
      rw [show i - 1 + 1 = i from by omega] at hn
      rw [List.append_assoc, List.getElem?_append_right (by simp; omega), List.getElem?_append_left (by simp; omega)]
      simp only [List.length_singleton, List.map_map, List.getElem?_map]
      rw [List.getElem?_range (by omega)]
      simp only [Option.map_some, Function.comp_apply, show i - 1 + 1 = i from by omega, hn, Int.toNat_natCast]
    · rw [List.getElem?_append_right (by simp; omega)]
      simp only [List.length_append, List.length_singleton, List.length_map, List.length_range]
      rcases Nat.lt_or_ge 33 i with h5 | h5
      · obtain ⟨j, rfl⟩ : ∃ j, i = 34 + j := ⟨i - 34, by omega⟩
        rw [show 34 + j - (1 + 32) = j + 1 from by omega, List.getElem?_cons_succ, List.getElem?_drop]
      · obtain rfl : i = 33 := by omega
        rw [v1]; rfl

set_option maxRecDepth 100000 in
theorem liftedNil (os : Os) (started : os.Started) (H : Type) (enc : TypeId × Value → H) :
    ReturnsInHanded {} Tryz.checked os 9 .any (Rows.replicaNilSpec.pre6 enc Tryz.prog Tryz.f9 Rows.replicaNilRow.domain false) (Rows.replicaNilSpec.post enc Tryz.prog Tryz.f9 false true false false) := by
  refine returnsInHanded_of_change (C := Tryz.checked) ownNil started (by kernel_rfl) Tryz.func9
    (ChangeSpec.witness6 (enc := enc) (C := Tryz.checked) false ⟨#[], #[(((Tryz.prog.info? 35).bind (·.zero)).getD .nilIface), (((Tryz.prog.info? 73).bind (·.zero)).getD .nilIface)], []⟩ 8 (by kernel_rfl) (by kernel_rfl) (by kernel_rfl) (by kernel_rfl)) ?_
  intro W base args ds gs before hval0 hW hcnd _
  have hval : ∀ (j : Nat) t v, Tryz.f9.params[j]? = some t → args[j]? = some v → Value.okWide Tryz.prog W .any base t v := hval0
  have hW' := hW
  obtain ⟨p, q, hA0, hV, rfl, hfz, hnd⟩ := hW
  have hA : DataW.TrodAll enc Tryz.prog W 0 (fun _ => true) true Tryz.f9.params.toList args.toList ds p := hA0
  rw [Tryz.params9] at hA hval
  obtain ⟨v0, vs0, d0, ds0, p0, q0, hargs, rfl, rfl, h0, r0⟩ := trodAll_cons hA
  obtain ⟨v1, vs1, d1, ds1, p1, q1, rfl, rfl, rfl, h1, r1⟩ := trodAll_cons r0
  obtain ⟨rfl, rfl, rfl⟩ := trodAll_nil r1
  obtain rfl : args = #[v0, v1] := by cases args; simp_all
  obtain ⟨rfl, rfl⟩ := trodVars_none hV
  obtain ⟨a, rfl, sa, la⟩ := agg_leaf Tryz.underlying35 (hval 0 35 v0 rfl rfl)
  obtain ⟨b, sq, V, d, rest, rfl, hd, hr, lr, hb⟩ := attest_of (hval 1 73 v1 rfl rfl)
  have lt0 : ∀ x ∈ p0, x.block < W.heap.size := by obtain ⟨m, hm⟩ := h0; exact DataW.trod_lt m _ _ _ hm
  have lt1 : ∀ x ∈ p1, x.block < W.heap.size := by obtain ⟨m, hm⟩ := h1; exact DataW.trod_lt m _ _ _ hm
  have sa' : a.size = 73 := sa.trans (by kernel_rfl)
  clear hA0 hval0
  refine (walkNil a b sq V d rest sa' la hd hr lr hb W).mono fun e W' ⟨he, bel⟩ => ?_
  subst he
  exact ⟨_, rfl, _, _, _, [], _, [], hW', trodAll_mk1 (shut_bool Tryz.underlying4 _), trodAll_mk2 (Below.trod laidNil (by kernel_rfl) (of_decide_eq_true (by kernel_rfl)) h0 bel lt0) (Below.trod laidNil (by kernel_rfl) (of_decide_eq_true (by kernel_rfl)) h1 bel lt1), rfl, bel.frame _, fun h => by cases h⟩

theorem replicaNil_holds : Rows.ReplicaNilSaid :=
  OpenClaim.holds_of_wide 9 Tryz.f9 rfl rfl rfl rfl rfl rfl rfl ⟨rfl, rfl, rfl, rfl, rfl⟩ rfl rfl rfl rfl rfl (by kernel_rfl) Tryz.func9 rnil_joined
    (of_decide_eq_true (by kernel_rfl)) (by unfold Func.isWrapper; first | (rw [if_pos (by decide +kernel)]; kernel_rfl) | (rw [if_neg (by decide +kernel)]; exact ⟨rfl, rfl⟩))
    (fun os started H enc _ => liftedNil os started H enc)

end Go.Proofs.YtfdnfeillopflaaGreat
