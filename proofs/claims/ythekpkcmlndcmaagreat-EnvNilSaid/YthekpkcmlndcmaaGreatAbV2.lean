/- The evaluator again, made for the kernel: steps, code, functions. -/
import Derived.Test.YthekpkcmlndcmaaGreatAbV1
noncomputable section
namespace Go.Ab

def evOper2 (E : Env) (cl : Oracle) (o : EOper) (T : Tr AV) (s : AS) : Option (AV × AS) :=
  match wantedE T o.guard with
  | some true => evOp2 E cl o.op T s
  | some false => some (.undef, s)
  | none => none

theorem evOper2_eq : evOper2 = evOper := by
  funext E cl o T s
  simp only [evOper2, evOper, evOp2_eq]
  rfl

def putStep (E : Env) (cl : Oracle) (d : Option Nat) (rc : List EOper) (T : Tr AV) (r : Option (AV × AS)) : Option (Tr AV × AS) :=
  match r with
  | some (v, s) => match rc with
    | [] => some (putD T d v, s)
    | _ => match recheck E cl (putD T d v) s rc with
      | true => some (putD T d v, s)
      | false => none
  | none => none

def evStep2 (E : Env) (cl : Oracle) (st : EStep) (T : Tr AV) (s : AS) : Option (Tr AV × AS) :=
  match st with
  | .one o rc => putStep E cl o.dst rc T (evOper2 E cl o T s)
  | .two x y rc => evStep E cl (.two x y rc) T s

theorem evStep2_eq : evStep2 = evStep := by
  funext E cl st T s
  cases st with
  | one o rc =>
    simp only [evStep2, evStep, putStep, evOper2_eq]
    cases evOper E cl o T s with
    | none => rfl
    | some x => cases rc <;> rfl
  | two x y rc => rfl

def evSteps2 (E : Env) (cl : Oracle) (l : List EStep) : Tr AV → AS → Option (Tr AV × AS) :=
  List.rec (motive := fun _ => Tr AV → AS → Option (Tr AV × AS)) (fun T s => some (T, s)) (fun x _ ih T s => match evStep2 E cl x T s with | some (T, s) => ih T s | none => none) l

theorem evSteps2_eq : evSteps2 = evSteps := by
  funext E cl l
  induction l with
  | nil => rfl
  | cons x l ih =>
    funext T s
    show (match evStep2 E cl x T s with | some (T, s) => evSteps2 E cl l T s | none => none) = _
    rw [ih, evStep2_eq]; rfl

def rounds2 (f : Tr AV → AS → Option (Ex × Tr AV × AS)) (n : Nat) : Tr AV → AS → Option (Ex × Tr AV × AS) :=
  Nat.rec (motive := fun _ => Tr AV → AS → Option (Ex × Tr AV × AS)) (fun _ _ => none) (fun _ ih T s => match f T s with | some (.normal, T, s) => ih T s | r => r) n

theorem rounds2_eq : rounds2 = rounds := by
  funext f n
  induction n with
  | zero => rfl
  | succ n ih =>
    funext T s
    show (match f T s with | some (.normal, T, s) => rounds2 f n T s | r => r) = _
    rw [ih]; rfl

def cSeq (a b : Tr AV → AS → Option (Ex × Tr AV × AS)) (T : Tr AV) (s : AS) : Option (Ex × Tr AV × AS) :=
  match a T s with
  | some (.normal, T, s) => b T s
  | r => r
def cReg (E : Env) (cl : Oracle) (l : List EStep) (T : Tr AV) (s : AS) : Option (Ex × Tr AV × AS) :=
  match evSteps2 E cl l T s with
  | some (T, s) => some (.normal, T, s)
  | none => none
def cCond (c : EO) (a b : Tr AV → AS → Option (Ex × Tr AV × AS)) (T : Tr AV) (s : AS) : Option (Ex × Tr AV × AS) :=
  match c.ev T with
  | .bool true => a T s
  | .bool false => b T s
  | _ => none
def cBlock (id : Nat) (a : Tr AV → AS → Option (Ex × Tr AV × AS)) (T : Tr AV) (s : AS) : Option (Ex × Tr AV × AS) :=
  match a T s with
  | some (e, T, s) => some (blockEx id e, T, s)
  | none => none

def evCode2 (E : Env) (cl : Oracle) (lf : Nat) (c : ECode) : Tr AV → AS → Option (Ex × Tr AV × AS) :=
  ECode.rec (motive := fun _ => Tr AV → AS → Option (Ex × Tr AV × AS))
    (fun _ _ => none)
    (fun T s => some (.normal, T, s))
    (fun l => cReg E cl l)
    (fun _ _ a b => cSeq a b)
    (fun c _ _ a b => cCond c a b)
    (fun id _ a => cBlock id a)
    (fun _ a => rounds2 a lf)
    (fun f ps asn body _ _ T s => evCode E cl lf (.rangeF f ps asn body) T s)
    (fun id T s => some (.exit id, T, s))
    (fun T s => some (.ret, T, s)) c

theorem evCode2_eq : evCode2 = evCode := by
  funext E cl lf c
  induction c with
  | bad => rfl
  | skip => rfl
  | reg l => funext T s; show cReg E cl l T s = _; unfold cReg; rw [evSteps2_eq]; rfl
  | seq a b iha ihb => funext T s; show cSeq (evCode2 E cl lf a) (evCode2 E cl lf b) T s = _; rw [iha, ihb]; rfl
  | cond c x y ihx ihy => funext T s; show cCond c (evCode2 E cl lf x) (evCode2 E cl lf y) T s = _; rw [ihx, ihy]; rfl
  | block id b ih => funext T s; show cBlock id (evCode2 E cl lf b) T s = _; rw [ih]; rfl
  | loop b ih => funext T s; show rounds2 (evCode2 E cl lf b) lf T s = _; rw [ih, rounds2_eq]; rfl
  | rangeF f ps a b _ _ => rfl
  | exit id => rfl
  | ret => rfl

def evFunc2 (E : Env) (cl : Oracle) (lf : Nat) (F : EFunc) (args : List AV) (s : AS) : Option (AV × AS) :=
  match Nat.ble args.length F.ntmps with
  | false => none
  | true => match evCode2 E cl lf F.body (args0 .e 0 args) s with
    | some (.exit _, _, _) => none
    | some (_, T, s) => match results T s F.res with
      | some v => some (v, s)
      | none => none
    | none => none
theorem evFunc2_eq : evFunc2 = evFunc := by
  funext E cl lf F args s
  simp only [evFunc2, evFunc, evCode2_eq]
  rfl

def evRound2 (E : Env) (cl : Oracle) (lf : Nat) (l : Nat) (args : List AV) (s : AS) : Option (AV × AS) :=
  match s.loops.get l with
  | none => none
  | some L => match setPs L.tmps L.ps args with
    | none => none
    | some T => match evCode2 E cl lf L.asn T s with
      | some (.normal, T, s) => match s.loops.get l with
        | none => none
        | some L₁ => match L₁.state with
          | .ready => match evCode2 E cl lf L.body T { s with loops := s.loops.set l { L₁ with state := .busy, pend := L₁.pend } } with
            | none => none
            | some (x, _, s) => match s.loops.get l with
              | none => none
              | some L₂ => match x with
                | .normal => some (.bool true, { s with loops := s.loops.set l { L₂ with state := .ready, pend := .normal } })
                | x => some (.bool false, { s with loops := s.loops.set l { L₂ with state := .done, pend := x } })
          | _ => none
      | _ => none
theorem evRound2_eq : evRound2 = evRound := by
  funext E cl lf l args s
  simp only [evRound2, evRound, evCode2_eq]
  rfl

def evCall2 (E : Env) (tab : Tab) (lf : Nat) (n : Nat) : Oracle :=
  Nat.rec (motive := fun _ => Oracle) (fun _ _ _ => none) (fun _ ih f args s => match f with
    | .fn k first cap => match tab.get k with
      | some F => evFunc2 E ih lf F (first ++ args ++ cap) s
      | none => none
    | .yld l => evRound2 E ih lf l args s
    | _ => none) n
theorem evCall2_eq : evCall2 = evCall := by
  funext E tab lf n
  induction n with
  | zero => rfl
  | succ n ih =>
    funext f args s
    show (match f with
    | .fn k first cap => match tab.get k with
      | some F => evFunc2 E (evCall2 E tab lf n) lf F (first ++ args ++ cap) s
      | none => none
    | .yld l => evRound2 E (evCall2 E tab lf n) lf l args s
    | _ => none) = _
    rw [ih, evFunc2_eq, evRound2_eq]; rfl

end Go.Ab
