/- ReplicaNil's law, step by step. -/
import Derived.Test.YtfdnfeillopflaaGreatBOk
import Derived.Test.YtfdnfeillopflaaGreatMi
import Derived.Test.YtfdnfeillopflaaGreatBSha
import Derived.KernelRfl
import Derived.Test.YtfdnfeillopflaaGreatBPut
noncomputable section
namespace Go.Ab.B
open Go Go.Ab Go.Proofs
set_option maxRecDepth 100000
noncomputable def k261 : KeysFn Tryz.prog 261 where
  f := Tryz.f261
  t := _
  kt := _
  vt := _
  i0 := _
  i1 := _
  i2 := _
  i3 := _
  b0 := _
  b1 := _
  o00 := _
  o01 := _
  o10 := _
  o11 := _
  o20 := _
  o21 := _
  o22 := _
  o30 := _
  o31 := _
  o32 := _
  o33 := _
  c := _
  nt := _
  hf := Tryz.func261
  name := by decide
  hn := rfl
  hres := rfl
  LB := _
  hLB := rfl
  body := rfl
  ht := rfl
  hagg := rfl
  h00 := ⟨rfl, rfl, rfl⟩
  h01 := ⟨rfl, rfl, rfl⟩
  h10 := ⟨rfl, rfl, rfl⟩
  h11 := ⟨rfl, rfl, rfl⟩
  h20 := ⟨rfl, rfl, rfl⟩
  h21 := ⟨rfl, rfl, rfl⟩
  h22 := ⟨rfl, rfl, rfl⟩
  h30 := ⟨rfl, rfl, rfl⟩
  h31 := ⟨rfl, rfl, rfl⟩
  h32 := ⟨rfl, rfl, rfl⟩
  h33 := ⟨rfl, rfl, rfl⟩
  hc := ⟨rfl, rfl⟩
noncomputable def k378 : KeysFn Tryz.prog 378 where
  f := Tryz.f378
  t := _
  kt := _
  vt := _
  i0 := _
  i1 := _
  i2 := _
  i3 := _
  b0 := _
  b1 := _
  o00 := _
  o01 := _
  o10 := _
  o11 := _
  o20 := _
  o21 := _
  o22 := _
  o30 := _
  o31 := _
  o32 := _
  o33 := _
  c := _
  nt := _
  hf := Tryz.func378
  name := by decide
  hn := rfl
  hres := rfl
  LB := _
  hLB := rfl
  body := rfl
  ht := rfl
  hagg := rfl
  h00 := ⟨rfl, rfl, rfl⟩
  h01 := ⟨rfl, rfl, rfl⟩
  h10 := ⟨rfl, rfl, rfl⟩
  h11 := ⟨rfl, rfl, rfl⟩
  h20 := ⟨rfl, rfl, rfl⟩
  h21 := ⟨rfl, rfl, rfl⟩
  h22 := ⟨rfl, rfl, rfl⟩
  h30 := ⟨rfl, rfl, rfl⟩
  h31 := ⟨rfl, rfl, rfl⟩
  h32 := ⟨rfl, rfl, rfl⟩
  h33 := ⟨rfl, rfl, rfl⟩
  hc := ⟨rfl, rfl⟩
end Go.Ab.B
end

noncomputable section
namespace Go.Ab.B
open Go Go.Ab Go.Proofs
set_option maxRecDepth 100000
def nt0 : NTab := ((Tr.e.set 298 (shaNat shaK)).set 261 keysNat).set 378 keysNat
theorem mix : Tryz.prog.follows .mixedOrders = true := by rfl
theorem nt0_ok : NtOk Tryz.prog nt0 :=
  ((NtOk.e.set (sha_nsound tab_ok mix ⟨_, _, Tryz.func298, rfl, by decide⟩ rfl rfl rfl rfl)).set (keys_nsound k261)).set (keys_nsound k378)
theorem nt0_mono : NtMono nt0 := ((NtMono.e.set (shaNat_mono _)).set keysNat_mono).set keysNat_mono
end Go.Ab.B
end

noncomputable section
namespace Go.Ab.B
open Go Go.Ab Go.Proofs
set_option maxRecDepth 100000
theorem run14 : isT (evCallN2 E0 tab nt0 1000 61 (.fn 14 [] []) [] AS.empty) = true := by kernel_rfl
end Go.Ab.B
end

noncomputable section
namespace Go.Ab
theorem bytesOfL_u8s (l : List Nat) : bytesOfL (u8s l) = some (l.map UInt8.ofNat) := by
  induction l with
  | nil => rfl
  | cons n l ih =>
    show (match bytesOfL (u8s l) with | some r => some (UInt8.ofNat n :: r) | none => none) = _
    rw [ih]; rfl
def bstr (l : List Nat) : ByteArray := ⟨(l.map UInt8.ofNat).toArray⟩
theorem OpR.cvBS {E : Env} {τ : Nat → AV} {s : AS} {lo : Nat} {x : EO} {v : AV} {l : List Nat} (h : x.evF τ = v) (hb : Byt s lo v l) : OpR E (.cvBS x) τ s (.str (bstr l)) s := fun T hT cl => by
  subst hT
  have hsrc := hb.src
  rcases hb with ⟨rfl, rfl⟩ | ⟨a, j, o, cap, A, rfl, _, _, h4, _, _, _, _, h5⟩
  · simp only [evOp, ev_tv, h]; rfl
  · simp only [srcCells, beq_eq, Nat.mul_one] at hsrc
    simp only [evOp, ev_tv, h, beq_eq]
    by_cases h0 : l.length = 0
    · simp only [h0, decide_true]
      rw [List.eq_nil_of_length_eq_zero h0]; rfl
    · simp only [h0, decide_false] at hsrc ⊢
      rw [hsrc]; simp only [bytesOfL_u8s]; rfl
theorem eq_str {E : Env} (b : ByteArray) : eqAV E (.leaf .s) (.str b) (.str b) = some true := by simp [eqAV, eqLeaf]
theorem same_str (b : ByteArray) : same (.str b) (.str b) = true := by simp [same, same1]
theorem sameL_append {l m : List AV} (h : sameL l l = true) (k : sameL m m = true) : sameL (l ++ m) (l ++ m) = true := by
  induction l with
  | nil => exact k
  | cons x l ih =>
    change (match same1 x x with | true => sameL l l | false => false) = true at h
    show (match same1 x x with | true => sameL (l ++ m) (l ++ m) | false => false) = true
    cases hx : same1 x x with
    | true => rw [hx] at h; exact ih h
    | false => rw [hx] at h; cases h
theorem sameL_u8s (l : List Nat) : sameL (u8s l) (u8s l) = true := by
  induction l with
  | nil => rfl
  | cons n l ih =>
    show (match same1 (.int .u8 (n : Int)) (.int .u8 (n : Int)) with | true => sameL (u8s l) (u8s l) | false => false) = true
    rw [show same1 (.int .u8 (n : Int)) (.int .u8 (n : Int)) = true from by simp [same1, IntKind.same]]; exact ih
theorem same_agg {l : List AV} (h : sameL l l = true) : same (.agg l) (.agg l) = true := h
theorem WF.of {E : Env} {tab : Tab} {nt : NTab} {f : AV} {args : List AV} {s s' : AS} {v : AV} {lf n : Nat} {Q : AV → AS → Prop} (h : evCallN2 E tab nt lf n f args s = some (v, s')) (hq : Q v s') : WF E tab nt f args s Q :=
  ⟨lf, n, v, s', by rw [← evCallN2_eq]; exact h, hq⟩
namespace B
open Go.Proofs
set_option maxRecDepth 100000
def awake : List AV → Option AV | [] => some (.bool true) | _ => none
theorem awake_nsound : NSound Tryz.prog 14 (closedNat awake) := closed_nsound tab_ok nt0_ok mix ⟨_, _, Tryz.func14, rfl, by decide⟩ fun args v h => by
  cases args with
  | nil =>
    cases h
    obtain ⟨s, hs⟩ := isT_some run14
    rw [evCallN2_eq] at hs
    exact ⟨rfl, fun a h => (by cases h), _, _, s, hs⟩
  | cons _ _ => cases h
def nt1 : NTab := nt0.set 14 (closedNat awake)
theorem nt1_ok : NtOk Tryz.prog nt1 := nt0_ok.set awake_nsound
theorem nt1_mono : NtMono nt1 := nt0_mono.set (closedNat_mono _)
theorem nt1_14 : nt1.get 14 = some (closedNat awake) := by rw [nt1, Tr.get_set_same]
theorem n19 (s : AS) : evCallN2 E0 tab nt1 1 9 (.fn 19 [] []) [.nilp] s = some (.tup [.int .i64 0, .bool false], s) := by kernel_rfl
theorem n11 (m : List AV) (s : AS) : evCallN2 E0 tab nt1 1 9 (.fn 11 [] []) [.nilp, .agg m] s = some (.nils, (s.new m).2) := by kernel_rfl
theorem n17 (s : AS) : evCallN2 E0 tab nt1 1 9 (.fn 17 [] []) [.nilp] s = some (.nils, s) := by kernel_rfl
theorem n25 (s : AS) : evCallN2 E0 tab nt1 1 9 (.fn 25 [] []) [.nilp] s = some (.int .i64 0, s) := by kernel_rfl
theorem n22 (s : AS) : evCallN2 E0 tab nt1 1 9 (.fn 22 [] []) [.nilp] s = some (.int .i64 0, s) := by kernel_rfl
theorem n23 (s : AS) : evCallN2 E0 tab nt1 1 9 (.fn 23 [] []) [.nilp] s = some (.nils, s) := by kernel_rfl
theorem n26 (s : AS) : evCallN2 E0 tab nt1 1 9 (.fn 26 [] []) [.nilp] s = some (.nils, s) := by kernel_rfl
theorem n27 (s : AS) : evCallN2 E0 tab nt1 1 9 (.fn 27 [] []) [.nilp] s = some (.nilp, s) := by kernel_rfl
theorem n16 (s : AS) : evCallN2 E0 tab nt1 1 9 (.fn 16 [] []) [.nilp] s = some (.nils, s) := by kernel_rfl
theorem w_law9 {m : List AV} {sq V : Int} {d : List Nat} {rest : List AV} (hml : m.length = 73) (hd : d.length = 32) (hr : rest.length = 33) (hrs : sameL rest rest = true) (s : AS) :
    WF E0 tab nt1 (.fn 9 [] []) [.agg m, .agg ([.int .i64 sq] ++ u8s d ++ (.int .i64 V :: rest))] s (fun v _ => v = .bool true) := by
  have hm := nt1_mono
  have hA : same (.agg ([.int .i64 sq] ++ u8s d ++ (.int .i64 V :: rest))) (.agg ([.int .i64 sq] ++ u8s d ++ (.int .i64 V :: rest))) = true := by
    refine same_agg (sameL_append (sameL_append ?_ (sameL_u8s d)) ?_)
    · simp [sameL, same1, IntKind.same]
    · simp [sameL, same1, IntKind.same, hrs]
  have hAl : ([.int .i64 sq] ++ u8s d ++ (.int .i64 V :: rest) : List AV).length = 67 := by simp [u8s_length, hd, hr]
  refine WF.fn (F := c9) rfl rfl (show 2 ≤ _ from by decide) ?_
  refine WC.rseq hm (WS.step (OpR.box (l := m) rfl) rfl (WS.step (OpR.box (l := [.int .i64 sq] ++ u8s d ++ (.int .i64 V :: rest)) rfl) rfl (WS.step (v := .bool false) OpR.mv rfl (WS.nil ?_))))
  obtain ⟨s1, hs1⟩ : ∃ x, (s.new m).2 = x := ⟨_, rfl⟩
  have n1 : s1.na = s.na + 1 := by rw [← hs1]; rfl
  rw [hs1]
  obtain ⟨A, hAe⟩ : ∃ x, [.int .i64 sq] ++ u8s d ++ (.int .i64 V :: rest) = x := ⟨_, rfl⟩
  have r2 := rdN_new s1 [] ([.int .i64 sq] ++ u8s d ++ (.int .i64 V :: rest)) []
  rw [List.nil_append, List.append_nil, hAl, hAe] at r2
  have r1 := rdN_new s [] m []
  rw [List.nil_append, List.append_nil, hml, hs1] at r1
  have f2 := FrL.new (lo := s1.na) s1 A (Nat.le_refl _)
  rw [hAe] at hA ⊢
  obtain ⟨s2, hs2⟩ : ∃ x, (s1.new A).2 = x := ⟨_, rfl⟩
  have n2 : s2.na = s1.na + 1 := by rw [← hs2]; rfl
  rw [hs2] at r2 f2 ⊢
  replace r1 : s2.rdN s.na 0 0 73 = some m := by rw [f2.rdN (by omega)]; exact r1
  refine WC.rseq hm (WS.step (v := .nilp) OpR.mv rfl (WS.nil ?_))
  refine WC.rseq hm ?_
  refine WS.step (v := .nilp) OpR.mv rfl ?_
  refine WS.call hm rfl (WF.of (n19 s2) ⟨trivial, ?_⟩)
  refine WS.step (v := .tup [.int .i64 0, .bool false]) OpR.mv rfl ?_
  refine WS.step (v := .int .i64 0) (OpR.ext (l := [.int .i64 0, .bool false]) rfl rfl) rfl ?_
  refine WS.step (v := .bool false) (OpR.ext (l := [.int .i64 0, .bool false]) rfl rfl) rfl ?_
  refine WS.step (v := .int .i64 0) OpR.mv rfl ?_
  refine WS.step (v := .bool false) OpR.mv rfl ?_
  refine WS.nil ?_
  refine WC.rseq hm ?_
  refine WS.step (v := .nilp) OpR.mv rfl ?_
  refine WS.step (v := .agg m) (OpR.ldn rfl r1) rfl ?_
  refine WS.call hm rfl (WF.of (n11 m s2) ⟨trivial, ?_⟩)
  have f3 := FrL.new (lo := s2.na) s2 m (Nat.le_refl _)
  obtain ⟨s3, hs3⟩ : ∃ x, (s2.new m).2 = x := ⟨_, rfl⟩
  rw [hs3] at f3 ⊢
  have r3 : s3.rdN s1.na 0 0 67 = some A := by rw [f3.rdN (by omega)]; exact r2
  refine WS.step (v := .int .i64 0) (OpR.len (n := 0) rfl rfl) rfl ?_
  refine WS.step (v := .bool true) (OpR.eq (b := true) rfl) rfl ?_
  refine WS.step (v := .bool true) OpR.mv rfl ?_
  refine WS.step (v := .nilp) OpR.mv rfl ?_
  refine WS.call hm rfl (WF.of (n17 s3) ⟨trivial, ?_⟩)
  refine WS.step (v := .int .i64 0) (OpR.len (n := 0) rfl rfl) rfl ?_
  refine WS.step (v := .bool true) (OpR.eq (b := true) rfl) rfl ?_
  refine WS.step (v := .bool true) (OpR.pick (t := true) rfl) rfl ?_
  refine WS.step (v := .bool true) OpR.mv rfl ?_
  refine WS.step (v := .int .i64 0) OpR.mv rfl ?_
  refine WS.step (v := .bool true) (OpR.eq (b := true) rfl) rfl ?_
  refine WS.step (v := .bool true) (OpR.pick (t := true) rfl) rfl ?_
  refine WS.step (v := .bool true) OpR.mv rfl ?_
  refine WS.step (v := .bool false) OpR.mv rfl ?_
  refine WS.step (v := .bool true) (OpR.not (b := false) rfl) rfl ?_
  refine WS.step (v := .bool true) (OpR.pick (t := true) rfl) rfl ?_
  refine WS.step (v := .bool true) OpR.mv rfl ?_
  refine WS.step (v := .nilp) OpR.mv rfl ?_
  refine WS.call hm rfl (WF.of (n25 s3) ⟨trivial, ?_⟩)
  refine WS.step (v := .bool true) (OpR.eq (b := true) rfl) rfl ?_
  refine WS.step (v := .bool true) (OpR.pick (t := true) rfl) rfl ?_
  refine WS.step (v := .bool true) OpR.mv rfl ?_
  refine WS.step (v := .nilp) OpR.mv rfl ?_
  refine WS.call hm rfl (WF.of (n22 s3) ⟨trivial, ?_⟩)
  refine WS.step (v := .bool true) (OpR.eq (b := true) rfl) rfl ?_
  refine WS.step (v := .bool true) (OpR.pick (t := true) rfl) rfl ?_
  refine WS.step (v := .bool true) OpR.mv rfl ?_
  refine WS.step (v := .nilp) OpR.mv rfl ?_
  refine WS.call hm rfl (WF.of (n23 s3) ⟨trivial, ?_⟩)
  refine WS.step (v := .int .i64 0) (OpR.len (n := 0) rfl rfl) rfl ?_
  refine WS.step (v := .bool true) (OpR.eq (b := true) rfl) rfl ?_
  refine WS.step (v := .bool true) (OpR.pick (t := true) rfl) rfl ?_
  refine WS.step (v := .bool true) OpR.mv rfl ?_
  refine WS.step (v := .nilp) OpR.mv rfl ?_
  refine WS.call hm rfl (WF.of (n26 s3) ⟨trivial, ?_⟩)
  refine WS.step (v := .int .i64 0) (OpR.len (n := 0) rfl rfl) rfl ?_
  refine WS.step (v := .bool true) (OpR.eq (b := true) rfl) rfl ?_
  refine WS.step (v := .bool true) (OpR.pick (t := true) rfl) rfl ?_
  refine WS.step (v := .bool true) OpR.mv rfl ?_
  refine WS.step (v := .nilp) OpR.mv rfl ?_
  refine WS.call hm rfl (WF.of (n27 s3) ⟨trivial, ?_⟩)
  refine WS.step (v := .bool true) (OpR.eq (b := true) rfl) rfl ?_
  refine WS.step (v := .bool true) (OpR.pick (t := true) rfl) rfl ?_
  refine WS.step (v := .bool true) OpR.mv rfl ?_
  refine WS.step (v := .nilp) OpR.mv rfl ?_
  refine WS.call hm rfl (WF.of (n16 s3) ⟨trivial, ?_⟩)
  refine WS.step (v := .int .i64 0) (OpR.len (n := 0) rfl rfl) rfl ?_
  refine WS.step (v := .bool true) (OpR.eq (b := true) rfl) rfl ?_
  refine WS.step (v := .bool true) (OpR.pick (t := true) rfl) rfl ?_
  refine WS.step (v := .bool true) OpR.mv rfl ?_
  refine WS.step (v := .agg A) (OpR.ldn rfl r3) rfl ?_
  refine WS.step (v := .agg A) (OpR.ldn rfl r3) rfl ?_
  refine WS.call hm rfl ((hAe ▸ w_att30 hm rfl rfl rfl rfl hd).mono ?_)
  rintro v4 s4 ⟨b4, f4⟩
  have r4 : s4.rdN s1.na 0 0 67 = some A := by rw [f4.rdN (by have := f3.na; omega)]; exact r3
  refine ⟨⟨⟨_, _, _, OpR.ldn rfl r4, rfl, rfl, rfl, hA, by intro h; cases h⟩, trivial⟩, ?_⟩
  refine WS.step (OpR.cvBS (x := .t 67) rfl b4) rfl ?_
  refine WS.call hm rfl ((hAe ▸ w_att31 hm rfl rfl rfl rfl hd).mono ?_)
  rintro v5 s5 ⟨b5, f5⟩
  have b4' := b4.keep f5 b4.lt
  refine ⟨⟨⟨_, _, _, OpR.cvBS (x := .t 67) rfl b4', rfl, rfl, rfl, same_str _, by intro h; cases h⟩, trivial⟩, ?_⟩
  refine WS.step (OpR.cvBS (x := .t 70) rfl b5) rfl ?_
  refine WS.step (v := .bool true) (OpR.eq (b := true) (eq_str _)) rfl ?_
  refine WS.step (v := .bool true) (OpR.pick (t := true) rfl) rfl ?_
  refine WS.step (v := .bool true) OpR.mv rfl ?_
  refine WS.call hm rfl (WF.nat (g := closedNat awake) nt1_14 fun cl => ⟨.bool true, s5, rfl, trivial, ?_⟩)
  refine WS.step (v := .bool true) (OpR.pick (t := true) rfl) rfl ?_
  refine WS.step (v := .bool true) OpR.mv rfl ?_
  refine WS.nil (WC.ret ⟨fun id h => (by cases h), _, rfl, rfl⟩)
end B
end Go.Ab
end
