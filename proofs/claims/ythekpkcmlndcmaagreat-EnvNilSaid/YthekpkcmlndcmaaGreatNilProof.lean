/- EnvNil, proved: the evaluator's run, told of the machine, and the row about it. -/
import Derived.Test.YthekpkcmlndcmaaGreatNilRun
import Derived.Test.YthekpkcmlndcmaaGreatNilJ
import Derived.ProofKit
namespace Go.Proofs.YthekpkcmlndcmaaGreat
open Go.ChangeShapes Go.WideShapes Go.ChangeAt Go.RowKit Go.Ab

theorem ownNil : ownKnob Tryz.prog.godebug = none := by kernel_rfl
theorem laidNil : laidOutB Tryz.prog = true := by kernel_rfl
theorem mixNil : Tryz.prog.follows .mixedOrders = true := by kernel_rfl

theorem walkNil (a b : Array Value) (x : Value) (ha : a.size = 21) (hb : b.size = 8) (la : ∀ v ∈ a.toList, v.oneCell' = true) (lb : ∀ v ∈ b.toList, v.oneCell' = true) (lx : x.oneCell' = true) (w : World) :
    Calls Tryz.prog 11 #[.agg a, x, .agg b] w (fun e w' => e = .returned (.bool true) ∧ Below w.heap.size w w') := by
  have ho : ∀ i, (ofL (a.toList ++ [x] ++ b.toList) i).oneCell' = true := ofL_leaf (by
    intro v hv
    simp only [List.mem_append, List.mem_singleton] at hv
    rcases hv with (hv | rfl) | hv
    · exact la v hv
    · exact lx
    · exact lb v hv)
  have key := true_of_ev (lf := 100000) (n := 99999) (k := 11) T.tab_ok mixNil T.run ho (by simp only [InL, In, and_true]; exact ⟨opqs_in _ _ _, trivial, opqs_in _ _ _⟩) w
  have e1 : concL (Sg.start (ofL (a.toList ++ [x] ++ b.toList))) (opqs 21 0) = a.toList := by
    rw [opqs_conc]
    have := ofL_seg [] a.toList ([x] ++ b.toList)
    simp only [List.length_nil, List.nil_append, Array.length_toList, ha] at this
    rw [List.append_assoc]; exact this
  have e2 : concL (Sg.start (ofL (a.toList ++ [x] ++ b.toList))) (opqs 8 22) = b.toList := by
    rw [opqs_conc]
    have := ofL_seg (a.toList ++ [x]) b.toList []
    simp only [List.length_append, List.length_singleton, Array.length_toList, ha, hb, List.append_nil] at this
    exact this
  have e3 : ofL (a.toList ++ [x] ++ b.toList) 21 = x := by
    simp [ofL, List.getD_eq_getElem?_getD, ha, List.getElem?_append]
  have e4 : conc (Sg.start (ofL (a.toList ++ [x] ++ b.toList))) (.opq 21) = x := by
    show ofL _ 21 = x
    exact e3
  simp only [concL, conc, e1, e2] at key
  have e5 : (Sg.start (ofL (a.toList ++ [x] ++ b.toList))).opq 21 = x := e3
  rw [e5] at key
  exact key

set_option maxRecDepth 100000 in
theorem liftedNil (os : Os) (started : os.Started) (H : Type) (enc : TypeId × Value → H) :
    ReturnsInHanded {} Tryz.checked os 11 .any (Rows.envNilSpec.pre6 enc Tryz.prog Tryz.f11 Rows.envNilRow.domain false) (Rows.envNilSpec.post enc Tryz.prog Tryz.f11 false true false false) := by
  refine returnsInHanded_of_change (C := Tryz.checked) ownNil started (by kernel_rfl) Tryz.func11
    (ChangeSpec.witness6 (enc := enc) (C := Tryz.checked) false ⟨#[], #[(((Tryz.prog.info? 58).bind (·.zero)).getD .nilIface), .slice none 0 0, (((Tryz.prog.info? 28).bind (·.zero)).getD .nilIface)], []⟩ 8 (by kernel_rfl) (by kernel_rfl) (by kernel_rfl) (by kernel_rfl)) ?_
  intro W base args ds gs before hval0 hW hcnd _
  have hval : ∀ (j : Nat) t v, Tryz.f11.params[j]? = some t → args[j]? = some v → Value.okWide Tryz.prog W .any base t v := hval0
  have hW' := hW
  obtain ⟨p, q, hA0, hV, rfl, hfz, hnd⟩ := hW
  have hA : DataW.TrodAll enc Tryz.prog W 0 (fun _ => true) true Tryz.f11.params.toList args.toList ds p := hA0
  rw [Tryz.params11] at hA hval
  obtain ⟨v0, vs0, d0, ds0, p0, q0, hargs, rfl, rfl, h0, r0⟩ := trodAll_cons hA
  obtain ⟨v1, vs1, d1, ds1, p1, q1, rfl, rfl, rfl, h1, r1⟩ := trodAll_cons r0
  obtain ⟨v2, vs2, d2, ds2, p2, q2, rfl, rfl, rfl, h2, r2⟩ := trodAll_cons r1
  obtain ⟨rfl, rfl, rfl⟩ := trodAll_nil r2
  obtain rfl : args = #[v0, v1, v2] := by cases args; simp_all
  obtain ⟨rfl, rfl⟩ := trodVars_none hV
  obtain ⟨a, rfl, sa, la⟩ := agg_leaf Tryz.underlying58 (hval 0 58 v0 rfl rfl)
  have lx := plain_leaf Tryz.underlying89 (by intro fs h; cases h) (by intro n e h; cases h) (hval 1 89 v1 rfl rfl)
  obtain ⟨b, rfl, sb, lb⟩ := agg_leaf Tryz.underlying28 (hval 2 28 v2 rfl rfl)
  have lt0 : ∀ x ∈ p0, x.block < W.heap.size := by obtain ⟨m, hm⟩ := h0; exact DataW.trod_lt m _ _ _ hm
  have lt1 : ∀ x ∈ p1, x.block < W.heap.size := by obtain ⟨m, hm⟩ := h1; exact DataW.trod_lt m _ _ _ hm
  have lt2 : ∀ x ∈ p2, x.block < W.heap.size := by obtain ⟨m, hm⟩ := h2; exact DataW.trod_lt m _ _ _ hm
  have sa' : a.size = 21 := sa.trans (by kernel_rfl)
  have sb' : b.size = 8 := sb.trans (by kernel_rfl)
  clear hA0 hval0
  refine (walkNil a b v1 sa' sb' la lb lx W).mono fun e W' ⟨he, bel⟩ => ?_
  subst he
  exact ⟨_, rfl, _, _, _, [], _, [], hW', trodAll_mk1 (shut_bool Tryz.underlying4 _), trodAll_mk3 (Below.trod laidNil (by kernel_rfl) (of_decide_eq_true (by kernel_rfl)) h0 bel lt0) (Below.trod laidNil (by kernel_rfl) (of_decide_eq_true (by kernel_rfl)) h1 bel lt1) (Below.trod laidNil (by kernel_rfl) (of_decide_eq_true (by kernel_rfl)) h2 bel lt2), rfl, bel.frame _, fun h => by cases h⟩

theorem envNil_holds : Rows.EnvNilSaid :=
  OpenClaim.holds_of_wide 11 Tryz.f11 rfl rfl rfl rfl rfl rfl rfl ⟨rfl, rfl, rfl, rfl, rfl⟩ rfl rfl rfl rfl rfl (by kernel_rfl) Tryz.func11 nil_joined
    (of_decide_eq_true (by kernel_rfl)) (by unfold Func.isWrapper; first | (rw [if_pos (by decide +kernel)]; kernel_rfl) | (rw [if_neg (by decide +kernel)]; exact ⟨rfl, rfl⟩))
    (fun os started H enc _ => liftedNil os started H enc)

end Go.Proofs.YthekpkcmlndcmaaGreat
