/- The evaluator again, made for the kernel: its operations, each a constant of its own. -/
import Derived.Test.YtfdnfeillopflaaGreatMf
import Derived.Below
import Derived.WideShapes
noncomputable section
namespace Go.Ab

def a_bad (E : Env) (cl : Oracle)  (T : Tr AV) (s : AS) : Option (AV × AS) := none
def a_mv (E : Env) (cl : Oracle) (x : EO) (T : Tr AV) (s : AS) : Option (AV × AS) := some (x.ev T, s)
def a_pick (E : Env) (cl : Oracle) (c : EO) (a : EO) (b : EO) (T : Tr AV) (s : AS) : Option (AV × AS) := match c.ev T with
    | .bool true => some (a.ev T, s)
    | .bool false => some (b.ev T, s)
    | _ => none
def a_alloc (E : Env) (cl : Oracle) (zs : List AV) (T : Tr AV) (s : AS) : Option (AV × AS) := match s.newZ zs.length zs with
    | (a, s) => some (.ptr a 0 0, s)
def a_box (E : Env) (cl : Oracle) (x : EO) (T : Tr AV) (s : AS) : Option (AV × AS) := match s.new (cellsOf (x.ev T)) with
    | (a, s) => some (.ptr a 0 0, s)
def a_build (E : Env) (cl : Oracle) (zs : List AV) (ps : List (Nat × Nat × EO)) (T : Tr AV) (s : AS) : Option (AV × AS) := match fillP T zs ps with
    | some l => some (.agg l, s)
    | none => none
def a_buildSl (E : Env) (cl : Oracle) (_u0 : Nat) (len : Nat) (zs : List AV) (ps : List (Nat × Nat × EO)) (T : Tr AV) (s : AS) : Option (AV × AS) := match fillP T zs ps with
    | some l => match s.new l with
      | (a, s) => some (.sl a 0 0 len (.known len), s)
    | none => none
def a_ld1 (E : Env) (cl : Oracle) (x : EO) (T : Tr AV) (s : AS) : Option (AV × AS) := match x.ev T with
    | .ptr a j o => some2 s (s.rd a j o)
    | _ => none
def a_ldn (E : Env) (cl : Oracle) (n : Nat) (x : EO) (T : Tr AV) (s : AS) : Option (AV × AS) := match x.ev T with
    | .ptr a j o => match s.rdN a j o n with
      | some l => some (.agg l, s)
      | none => none
    | _ => none
def a_st (E : Env) (cl : Oracle) (n : Nat) (a : EO) (v : EO) (T : Tr AV) (s : AS) : Option (AV × AS) := match a.ev T with
    | .ptr a j o => match cellsOf (v.ev T) with
      | l => match Nat.beq l.length n with
        | true => match s.wrN a j o l with
          | some s => some (.undef, s)
          | none => none
        | false => none
    | _ => none
def a_nilck (E : Env) (cl : Oracle) (x : EO) (T : Tr AV) (s : AS) : Option (AV × AS) := match x.ev T with
    | .ptr a j o => some (.ptr a j o, s)
    | .fn f p c => some (.fn f p c, s)
    | .yld l => some (.yld l, s)
    | _ => none
def a_bin (E : Env) (cl : Oracle) (op : BinOp) (x : EO) (y : EO) (T : Tr AV) (s : AS) : Option (AV × AS) := some2 s (binAV E op (x.ev T) (y.ev T))
def a_eq (E : Env) (cl : Oracle) (neg : Bool) (k : EqK) (x : EO) (y : EO) (T : Tr AV) (s : AS) : Option (AV × AS) := some2 s (xorb neg (eqAV E k (x.ev T) (y.ev T)))
def a_un (E : Env) (cl : Oracle) (op : UnOp) (x : EO) (T : Tr AV) (s : AS) : Option (AV × AS) := match op, x.ev T with
    | .not, .bool b => some (.bool !b, s)
    | .neg, .int k n => some2 s (intBin .sub k 0 n)
    | .xor, .int k n => some2 s (intBin .xor k (if k.signed then -1 else k.max) n)
    | _, _ => none
def a_cvInt (E : Env) (cl : Oracle) (k : IntKind) (x : EO) (T : Tr AV) (s : AS) : Option (AV × AS) := match x.ev T with
    | .int _ n => some (.int k (k.wrap n), s)
    | .sym i o => match isI64 k with
      | true => match i64ok E i o with
        | true => some (.sym i o, s)
        | false => none
      | false => match isU64 k with
        | true => match decide (o = 0) with
          | true => some (.symu i, s)
          | false => none
        | false => none
    | _ => none
def a_cvStr (E : Env) (cl : Oracle) (x : EO) (T : Tr AV) (s : AS) : Option (AV × AS) := match x.ev T with
    | .str b => some (.str b, s)
    | _ => none
def a_cvSB (E : Env) (cl : Oracle) (x : EO) (T : Tr AV) (s : AS) : Option (AV × AS) := match x.ev T with
    | .str b => some (freshSl s 1 (b.toList.map fun c => .int .u8 (c.toNat : Int)) b.size)
    | _ => none
def a_cvBS (E : Env) (cl : Oracle) (x : EO) (T : Tr AV) (s : AS) : Option (AV × AS) := match x.ev T with
    | .nils => some (.str .empty, s)
    | .tail _ _ _ _ _ => some (.str .empty, s)
    | .sl a j off len _ => match Nat.beq len 0 with
      | true => some (.str .empty, s)
      | false => match s.rdN a j off len with
        | some l => match bytesOfL l with
          | some b => some (.str ⟨b.toArray⟩, s)
          | none => none
        | none => none
    | _ => none
def a_ifc (E : Env) (cl : Oracle) (t : TypeId) (x : EO) (T : Tr AV) (s : AS) : Option (AV × AS) := some (.ifc t (x.ev T), s)
def a_mkFn (E : Env) (cl : Oracle) (f : FuncId) (a : List EO) (b : List EO) (T : Tr AV) (s : AS) : Option (AV × AS) := some (.fn f (evs T a) (evs T b), s)
def a_mkMap (E : Env) (cl : Oracle)  (T : Tr AV) (s : AS) : Option (AV × AS) := some (.mp s.nm, { s with maps := s.maps.set s.nm ⟨[], 0⟩, nm := s.nm + 1 })
def a_mkSl (E : Env) (cl : Oracle) (es : Nat) (bytes : Nat) (z : List AV) (l : EO) (c : EO) (T : Tr AV) (s : AS) : Option (AV × AS) := match natOf (l.ev T) with
    | none => none
    | some l => match natOf (c.ev T) with
      | none => none
      | some c => match Nat.ble l c && sane c bytes with
        | true => match s.newZ (c * es) z with
          | (a, s) => some (.sl a 0 0 l (.known c), s)
        | false => none
def a_slStr (E : Env) (cl : Oracle) (x : EO) (lo : Option EO) (hi : Option EO) (T : Tr AV) (s : AS) : Option (AV × AS) := match x.ev T with
    | .str b => match optN b.size (optEv T hi) with
      | none => none
      | some h => match optN 0 (optEv T lo) with
        | none => none
        | some l => match Nat.ble l h && Nat.ble h b.size with
          | true => some (.str (b.extract l h), s)
          | false => none
    | _ => none
def a_slSl (E : Env) (cl : Oracle) (es : Nat) (x : EO) (lo : Option EO) (hi : Option EO) (mx : Option EO) (T : Tr AV) (s : AS) : Option (AV × AS) := some2 s (sliceAV es (optEv T lo) (optEv T hi) (optEv T mx) (x.ev T))
def a_slArr (E : Env) (cl : Oracle) (n : Nat) (es : Nat) (x : EO) (lo : Option EO) (hi : Option EO) (mx : Option EO) (T : Tr AV) (s : AS) : Option (AV × AS) := match x.ev T with
    | .ptr a j o => some2 s (sliceAV es (optEv T lo) (optEv T hi) (optEv T mx) (.sl a j o n (.known n)))
    | _ => none
def a_fldA (E : Env) (cl : Oracle) (off : Nat) (x : EO) (T : Tr AV) (s : AS) : Option (AV × AS) := match x.ev T with
    | .ptr a j o => some (.ptr a j (o + off), s)
    | _ => none
def a_fld (E : Env) (cl : Oracle) (off : Nat) (n : Nat) (agg : Bool) (x : EO) (T : Tr AV) (s : AS) : Option (AV × AS) := match x.ev T with
    | .agg l => some2 s (partOf agg off n l)
    | _ => none
def a_ixA (E : Env) (cl : Oracle) (es : Nat) (x : EO) (i : EO) (T : Tr AV) (s : AS) : Option (AV × AS) := match x.ev T with
    | .sl a j off len _ => match natOf (i.ev T) with
      | some i => match ltb i len with
        | true => some (.ptr a j (off + i * es), s)
        | false => none
      | none => none
    | _ => none
def a_ixAA (E : Env) (cl : Oracle) (n : Nat) (es : Nat) (x : EO) (i : EO) (T : Tr AV) (s : AS) : Option (AV × AS) := match x.ev T with
    | .ptr a j off => match natOf (i.ev T) with
      | some i => match ltb i n with
        | true => some (.ptr a j (off + i * es), s)
        | false => none
      | none => none
    | _ => none
def a_ixS (E : Env) (cl : Oracle) (x : EO) (i : EO) (T : Tr AV) (s : AS) : Option (AV × AS) := match x.ev T with
    | .str b => match natOf (i.ev T) with
      | some i => match b[i]? with
        | some c => some (.int .u8 (c.toNat : Int), s)
        | none => none
      | none => none
    | _ => none
def a_ixV (E : Env) (cl : Oracle) (n : Nat) (es : Nat) (agg : Bool) (x : EO) (i : EO) (T : Tr AV) (s : AS) : Option (AV × AS) := match x.ev T with
    | .agg l => match natOf (i.ev T) with
      | some i => match ltb i n with
        | true => some2 s (partOf agg (i * es) es l)
        | false => none
      | none => none
    | _ => none
def a_look (E : Env) (cl : Oracle) (k : EqK) (z : AV) (ok : Bool) (x : EO) (i : EO) (T : Tr AV) (s : AS) : Option (AV × AS) := match lookOf E k s (x.ev T) (i.ev T) with
    | some (some (_, v, _)) => some (match ok with | true => .tup [v, .bool true] | false => v, s)
    | some none => some (match ok with | true => .tup [z, .bool false] | false => z, s)
    | none => none
def a_mset (E : Env) (cl : Oracle) (k : EqK) (m : EO) (i : EO) (v : EO) (T : Tr AV) (s : AS) : Option (AV × AS) := match m.ev T with
    | .mp r => match s.maps.get r with
      | some M => match lookM E k (i.ev T) M.es 0 with
        | some (some (q, _, _)) => some (.undef, { s with maps := s.maps.set r ⟨setM M.es q (i.ev T) (v.ev T), M.clock⟩ })
        | some none => some (.undef, { s with maps := s.maps.set r ⟨M.es ++ [(i.ev T, v.ev T, M.clock)], M.clock + 1⟩ })
        | none => none
      | none => none
    | _ => none
def a_ment (E : Env) (cl : Oracle) (k : EqK) (z : AV) (m : EO) (i : EO) (T : Tr AV) (s : AS) : Option (AV × AS) := match m.ev T with
    | .mp r => match s.maps.get r with
      | some M => match lookM E k (i.ev T) M.es 0 with
        | some (some (q, v, b)) => some (.tup [v, intN b], { s with maps := s.maps.set r ⟨setM M.es q (i.ev T) v, M.clock⟩ })
        | some none => some (.tup [z, intN M.clock], { s with maps := s.maps.set r ⟨M.es ++ [(i.ev T, z, M.clock)], M.clock + 1⟩ })
        | none => none
      | none => none
    | _ => none
def a_mest (E : Env) (cl : Oracle) (m : EO) (b : EO) (v : EO) (T : Tr AV) (s : AS) : Option (AV × AS) := match m.ev T with
    | .mp r => match s.maps.get r with
      | some M => match natOf (b.ev T) with
        | some b => match setBorn M.es b (v.ev T) with
          | some l => some (.undef, { s with maps := s.maps.set r ⟨l, M.clock⟩ })
          | none => none
        | none => none
      | none => none
    | _ => none
def a_del (E : Env) (cl : Oracle) (k : EqK) (m : EO) (i : EO) (T : Tr AV) (s : AS) : Option (AV × AS) := match m.ev T with
    | .nilm => some (.tup [], s)
    | .mp r => match s.maps.get r with
      | some M => match lookM E k (i.ev T) M.es 0 with
        | some (some (q, _, _)) => some (.tup [], { s with maps := s.maps.set r ⟨delM M.es q, M.clock⟩ })
        | some none => some (.tup [], s)
        | none => none
      | none => none
    | _ => none
def a_ext (E : Env) (cl : Oracle) (x : EO) (i : Nat) (T : Tr AV) (s : AS) : Option (AV × AS) := match x.ev T with
    | .tup l => some2 s (nth l i)
    | _ => none
def a_call (E : Env) (cl : Oracle) (f : EO) (args : List EO) (T : Tr AV) (s : AS) : Option (AV × AS) := cl (f.ev T) (evs T args) s
def a_len (E : Env) (cl : Oracle) (k : Nat) (x : EO) (T : Tr AV) (s : AS) : Option (AV × AS) := match lenIs k (x.ev T) with
    | true => match lenAV s (x.ev T) with
      | some n => some (intN n, s)
      | none => none
    | false => none
def a_cap (E : Env) (cl : Oracle) (x : EO) (T : Tr AV) (s : AS) : Option (AV × AS) := match x.ev T with
    | .nils => some (intN 0, s)
    | .sl _ _ _ _ (.known c) => some (intN c, s)
    | _ => none
def a_app (E : Env) (cl : Oracle) (es : Nat) (bytes : Nat) (x : EO) (y : EO) (T : Tr AV) (s : AS) : Option (AV × AS) := match lenAV s (y.ev T) with
    | none => none
    | some k => match srcCells s es k (y.ev T) with
      | none => none
      | some new => appAV s es bytes k new (x.ev T)
def a_appZ (E : Env) (cl : Oracle) (es : Nat) (bytes : Nat) (z : List AV) (x : EO) (y : EO) (T : Tr AV) (s : AS) : Option (AV × AS) := match natOf (y.ev T) with
    | some k => appAV s es bytes k (repL k z) (x.ev T)
    | none => none
def a_cpy (E : Env) (cl : Oracle) (es : Nat) (x : EO) (y : EO) (T : Tr AV) (s : AS) : Option (AV × AS) := match lenAV s (x.ev T) with
    | none => none
    | some n => match lenAV s (y.ev T) with
      | none => none
      | some m => match srcCells s es (Nat.min m n) (y.ev T) with
        | none => none
        | some l => match x.ev T with
          | .sl a j off _ _ => match s.wrN a j off l with
            | some s => some (intN (Nat.min m n), s)
            | none => none
          | .nils => some (intN 0, s)
          | _ => none
def a_mx (E : Env) (cl : Oracle) (xs : List EO) (T : Tr AV) (s : AS) : Option (AV × AS) := match evs T xs with
    | x :: l => some2 s (foldAV (mxAV E) x l)
    | [] => none
def a_mn (E : Env) (cl : Oracle) (xs : List EO) (T : Tr AV) (s : AS) : Option (AV × AS) := match evs T xs with
    | x :: l => some2 s (foldAV (mnAV E) x l)
    | [] => none

def evOp2 (E : Env) (cl : Oracle) (op : EOp) (T : Tr AV) (s : AS) : Option (AV × AS) :=
  match op with
  | .bad  => a_bad E cl  T s
  | .mv x => a_mv E cl x T s
  | .pick c a b => a_pick E cl c a b T s
  | .alloc zs => a_alloc E cl zs T s
  | .box x => a_box E cl x T s
  | .build zs ps => a_build E cl zs ps T s
  | .buildSl _u0 len zs ps => a_buildSl E cl _u0 len zs ps T s
  | .ld1 x => a_ld1 E cl x T s
  | .ldn n x => a_ldn E cl n x T s
  | .st n a v => a_st E cl n a v T s
  | .nilck x => a_nilck E cl x T s
  | .bin op x y => a_bin E cl op x y T s
  | .eq neg k x y => a_eq E cl neg k x y T s
  | .un op x => a_un E cl op x T s
  | .cvInt k x => a_cvInt E cl k x T s
  | .cvStr x => a_cvStr E cl x T s
  | .cvSB x => a_cvSB E cl x T s
  | .cvBS x => a_cvBS E cl x T s
  | .ifc t x => a_ifc E cl t x T s
  | .mkFn f a b => a_mkFn E cl f a b T s
  | .mkMap  => a_mkMap E cl  T s
  | .mkSl es bytes z l c => a_mkSl E cl es bytes z l c T s
  | .slStr x lo hi => a_slStr E cl x lo hi T s
  | .slSl es x lo hi mx => a_slSl E cl es x lo hi mx T s
  | .slArr n es x lo hi mx => a_slArr E cl n es x lo hi mx T s
  | .fldA off x => a_fldA E cl off x T s
  | .fld off n agg x => a_fld E cl off n agg x T s
  | .ixA es x i => a_ixA E cl es x i T s
  | .ixAA n es x i => a_ixAA E cl n es x i T s
  | .ixS x i => a_ixS E cl x i T s
  | .ixV n es agg x i => a_ixV E cl n es agg x i T s
  | .look k z ok x i => a_look E cl k z ok x i T s
  | .mset k m i v => a_mset E cl k m i v T s
  | .ment k z m i => a_ment E cl k z m i T s
  | .mest m b v => a_mest E cl m b v T s
  | .del k m i => a_del E cl k m i T s
  | .ext x i => a_ext E cl x i T s
  | .call f args => a_call E cl f args T s
  | .len k x => a_len E cl k x T s
  | .cap x => a_cap E cl x T s
  | .app es bytes x y => a_app E cl es bytes x y T s
  | .appZ es bytes z x y => a_appZ E cl es bytes z x y T s
  | .cpy es x y => a_cpy E cl es x y T s
  | .mx xs => a_mx E cl xs T s
  | .mn xs => a_mn E cl xs T s

theorem evOp2_eq (E : Env) (cl : Oracle) (op : EOp) (T : Tr AV) (s : AS) : evOp2 E cl op T s = evOp E cl op T s := by cases op <;> rfl

end Go.Ab
end

noncomputable section
namespace Go.Ab

def evOper2 (E : Env) (cl : Oracle) (o : EOper) (T : Tr AV) (s : AS) : Option (AV × AS) :=
  match wantedE T o.guard with
  | some true => evOp2 E cl o.op T s
  | some false => some (.undef, s)
  | none => none

theorem evOper2_eq : evOper2 = evOper := by
  funext E cl o T s
  simp only [evOper2, evOper, evOp2_eq]
  rfl

def putStep (E : Env) (cl : Oracle) (d : Option Nat) (rc : List EOper) (T : Tr AV) (r : Option (AV × AS)) : Option (Tr AV × AS) :=
  match r with
  | some (v, s) => match rc with
    | [] => some (putD T d v, s)
    | _ => match recheck E cl (putD T d v) s rc with
      | true => some (putD T d v, s)
      | false => none
  | none => none

def evStep2 (E : Env) (cl : Oracle) (st : EStep) (T : Tr AV) (s : AS) : Option (Tr AV × AS) :=
  match st with
  | .one o rc => putStep E cl o.dst rc T (evOper2 E cl o T s)
  | .two x y rc => evStep E cl (.two x y rc) T s

theorem evStep2_eq : evStep2 = evStep := by
  funext E cl st T s
  cases st with
  | one o rc =>
    simp only [evStep2, evStep, putStep, evOper2_eq]
    cases evOper E cl o T s with
    | none => rfl
    | some x => cases rc <;> rfl
  | two x y rc => rfl

def evSteps2 (E : Env) (cl : Oracle) (l : List EStep) : Tr AV → AS → Option (Tr AV × AS) :=
  List.rec (motive := fun _ => Tr AV → AS → Option (Tr AV × AS)) (fun T s => some (T, s)) (fun x _ ih T s => match evStep2 E cl x T s with | some (T, s) => ih T s | none => none) l

theorem evSteps2_eq : evSteps2 = evSteps := by
  funext E cl l
  induction l with
  | nil => rfl
  | cons x l ih =>
    funext T s
    show (match evStep2 E cl x T s with | some (T, s) => evSteps2 E cl l T s | none => none) = _
    rw [ih, evStep2_eq]; rfl

def rounds2 (f : Tr AV → AS → Option (Ex × Tr AV × AS)) (n : Nat) : Tr AV → AS → Option (Ex × Tr AV × AS) :=
  Nat.rec (motive := fun _ => Tr AV → AS → Option (Ex × Tr AV × AS)) (fun _ _ => none) (fun _ ih T s => match f T s with | some (.normal, T, s) => ih T s | r => r) n

theorem rounds2_eq : rounds2 = rounds := by
  funext f n
  induction n with
  | zero => rfl
  | succ n ih =>
    funext T s
    show (match f T s with | some (.normal, T, s) => rounds2 f n T s | r => r) = _
    rw [ih]; rfl

def cSeq (a b : Tr AV → AS → Option (Ex × Tr AV × AS)) (T : Tr AV) (s : AS) : Option (Ex × Tr AV × AS) :=
  match a T s with
  | some (.normal, T, s) => b T s
  | r => r
def cReg (E : Env) (cl : Oracle) (l : List EStep) (T : Tr AV) (s : AS) : Option (Ex × Tr AV × AS) :=
  match evSteps2 E cl l T s with
  | some (T, s) => some (.normal, T, s)
  | none => none
def cCond (c : EO) (a b : Tr AV → AS → Option (Ex × Tr AV × AS)) (T : Tr AV) (s : AS) : Option (Ex × Tr AV × AS) :=
  match c.ev T with
  | .bool true => a T s
  | .bool false => b T s
  | _ => none
def cBlock (id : Nat) (a : Tr AV → AS → Option (Ex × Tr AV × AS)) (T : Tr AV) (s : AS) : Option (Ex × Tr AV × AS) :=
  match a T s with
  | some (e, T, s) => some (blockEx id e, T, s)
  | none => none

def evCode2 (E : Env) (cl : Oracle) (lf : Nat) (c : ECode) : Tr AV → AS → Option (Ex × Tr AV × AS) :=
  ECode.rec (motive := fun _ => Tr AV → AS → Option (Ex × Tr AV × AS))
    (fun _ _ => none)
    (fun T s => some (.normal, T, s))
    (fun l => cReg E cl l)
    (fun _ _ a b => cSeq a b)
    (fun c _ _ a b => cCond c a b)
    (fun id _ a => cBlock id a)
    (fun _ a => rounds2 a lf)
    (fun f ps asn body _ _ T s => evCode E cl lf (.rangeF f ps asn body) T s)
    (fun id T s => some (.exit id, T, s))
    (fun T s => some (.ret, T, s)) c

theorem evCode2_eq : evCode2 = evCode := by
  funext E cl lf c
  induction c with
  | bad => rfl
  | skip => rfl
  | reg l => funext T s; show cReg E cl l T s = _; unfold cReg; rw [evSteps2_eq]; rfl
  | seq a b iha ihb => funext T s; show cSeq (evCode2 E cl lf a) (evCode2 E cl lf b) T s = _; rw [iha, ihb]; rfl
  | cond c x y ihx ihy => funext T s; show cCond c (evCode2 E cl lf x) (evCode2 E cl lf y) T s = _; rw [ihx, ihy]; rfl
  | block id b ih => funext T s; show cBlock id (evCode2 E cl lf b) T s = _; rw [ih]; rfl
  | loop b ih => funext T s; show rounds2 (evCode2 E cl lf b) lf T s = _; rw [ih, rounds2_eq]; rfl
  | rangeF f ps a b _ _ => rfl
  | exit id => rfl
  | ret => rfl

def evFunc2 (E : Env) (cl : Oracle) (lf : Nat) (F : EFunc) (args : List AV) (s : AS) : Option (AV × AS) :=
  match Nat.ble args.length F.ntmps with
  | false => none
  | true => match evCode2 E cl lf F.body (args0 .e 0 args) s with
    | some (.exit _, _, _) => none
    | some (_, T, s) => match results T s F.res with
      | some v => some (v, s)
      | none => none
    | none => none
theorem evFunc2_eq : evFunc2 = evFunc := by
  funext E cl lf F args s
  simp only [evFunc2, evFunc, evCode2_eq]
  rfl

def evRound2 (E : Env) (cl : Oracle) (lf : Nat) (l : Nat) (args : List AV) (s : AS) : Option (AV × AS) :=
  match s.loops.get l with
  | none => none
  | some L => match setPs L.tmps L.ps args with
    | none => none
    | some T => match evCode2 E cl lf L.asn T s with
      | some (.normal, T, s) => match s.loops.get l with
        | none => none
        | some L₁ => match L₁.state with
          | .ready => match evCode2 E cl lf L.body T { s with loops := s.loops.set l { L₁ with state := .busy, pend := L₁.pend } } with
            | none => none
            | some (x, _, s) => match s.loops.get l with
              | none => none
              | some L₂ => match x with
                | .normal => some (.bool true, { s with loops := s.loops.set l { L₂ with state := .ready, pend := .normal } })
                | x => some (.bool false, { s with loops := s.loops.set l { L₂ with state := .done, pend := x } })
          | _ => none
      | _ => none
theorem evRound2_eq : evRound2 = evRound := by
  funext E cl lf l args s
  simp only [evRound2, evRound, evCode2_eq]
  rfl

def evCall2 (E : Env) (tab : Tab) (lf : Nat) (n : Nat) : Oracle :=
  Nat.rec (motive := fun _ => Oracle) (fun _ _ _ => none) (fun _ ih f args s => match f with
    | .fn k first cap => match tab.get k with
      | some F => evFunc2 E ih lf F (first ++ args ++ cap) s
      | none => none
    | .yld l => evRound2 E ih lf l args s
    | _ => none) n
theorem evCall2_eq : evCall2 = evCall := by
  funext E tab lf n
  induction n with
  | zero => rfl
  | succ n ih =>
    funext f args s
    show (match f with
    | .fn k first cap => match tab.get k with
      | some F => evFunc2 E (evCall2 E tab lf n) lf F (first ++ args ++ cap) s
      | none => none
    | .yld l => evRound2 E (evCall2 E tab lf n) lf l args s
    | _ => none) = _
    rw [ih, evFunc2_eq, evRound2_eq]; rfl

end Go.Ab
end

noncomputable section
namespace Go.Ab
open Go.RowKit

/-- Nothing is known of the heap; the unknowns are these. -/
def Sg.start (o : Nat → Value) : Sg := ⟨fun _ => [], fun _ => none, fun _ => none, o, fun _ => 0⟩

theorem rel_start {P : Program} {o : Nat → Value} (ho : ∀ i, (o i).oneCell' = true) (w : World) : Rel P (Sg.start o) AS.empty w where
  arr a h := absurd rfl h
  inj a a' vi vi' h := by cases h
  map m r h := by cases h
  minj m m' r h := by cases h
  lop l r h := by cases h
  linj l l' r h := by cases h
  na _ _ := rfl
  nm _ _ := rfl
  nl _ _ := rfl
  opq := ho
  wf := ⟨fun _ _ => rfl, fun _ _ => rfl⟩

def E0 : Env := ⟨[], []⟩
theorem eok0 (σ : Sg) : EOk E0 σ := ⟨fun i a b h => by simp [E0] at h, fun p h => by simp [E0] at h⟩

theorem ext_below {σ' : Sg} {o : Nat → Value} {s s' : AS} {w w' : World} (h : Ext (Sg.start o) s w σ' s' w') : Below w.heap.size w w' :=
  ⟨h.os, h.tape, h.output, h.size, fun k hk => h.fr k hk fun hi => by
    rcases hi with ⟨a, vi, hv, _⟩ | ⟨m, hm⟩ | ⟨l, hl⟩
    · cases hv
    · cases hm
    · cases hl⟩

def isT (x : Option (AV × AS)) : Bool :=
  match x with
  | some (.bool true, _) => true
  | _ => false

theorem isT_some {x : Option (AV × AS)} (h : isT x = true) : ∃ s, x = some (.bool true, s) := by
  unfold isT at h
  split at h
  · exact ⟨_, rfl⟩
  · cases h

/-- Unknowns i, i+1, .. -/
def opqs : Nat → Nat → List AV
  | 0, _ => []
  | n + 1, i => .opq i :: opqs n (i + 1)

theorem opqs_in (σ : Sg) (n i : Nat) : InL σ (opqs n i) := by
  induction n generalizing i with
  | zero => trivial
  | succ n ih => exact ⟨trivial, ih (i + 1)⟩

theorem opqs_conc (o : Nat → Value) (n i : Nat) : concL (Sg.start o) (opqs n i) = (List.range' i n).map o := by
  induction n generalizing i with
  | zero => rfl
  | succ n ih => rw [List.range'_succ]; simp only [opqs, concL, conc, ih (i + 1), List.map_cons]; rfl

/-- The unknowns of a list of values. -/
def ofL (l : List Value) (i : Nat) : Value := l.getD i .nilIface

theorem ofL_leaf {l : List Value} (h : ∀ v ∈ l, v.oneCell' = true) (i : Nat) : (ofL l i).oneCell' = true := by
  simp only [ofL, List.getD_eq_getElem?_getD]
  cases hi : l[i]? with
  | none => rfl
  | some v => exact h v (List.mem_of_getElem? hi)

theorem ofL_seg (a b c : List Value) : (List.range' a.length b.length).map (ofL (a ++ b ++ c)) = b := by
  apply List.ext_getElem?
  intro i
  simp only [List.getElem?_map]
  by_cases h : i < b.length
  · rw [List.getElem?_range' (by omega)]
    simp only [Option.map_some, ofL, List.getD_eq_getElem?_getD, Nat.one_mul]
    rw [List.append_assoc, List.getElem?_append_right (by omega), Nat.add_sub_cancel_left, List.getElem?_append_left h, List.getElem?_eq_getElem h]
    rfl
  · rw [List.getElem?_eq_none (by simp; omega), List.getElem?_eq_none (by omega)]; rfl

/-- THE EVALUATOR SAYS TRUE: the machine returns true, and all that lay there lies as it lay. -/
theorem true_of_ev {P : Program} {tab : Tab} (htab : TabOk P tab) (hmix : P.follows .mixedOrders = true) {lf n : Nat} {k : FuncId} {args : List AV} (h : isT (evCall2 E0 tab lf (n + 1) (.fn k [] []) args AS.empty) = true)
    {o : Nat → Value} (ho : ∀ i, (o i).oneCell' = true) (hin : InL (Sg.start o) args) (w : World) :
    Calls P k (concL (Sg.start o) args).toArray w (fun e w' => e = .returned (.bool true) ∧ Below w.heap.size w w') := by
  obtain ⟨s', hs⟩ := isT_some h
  rw [evCall2_eq] at hs
  obtain ⟨σ', w', _, _, k3, k4⟩ := calls_of_ev htab hmix lf n hs (rel_start ho w) (eok0 _) hin
  exact k4.mono fun e w'' ⟨h1, h2⟩ => ⟨h1, by rw [h2]; exact ext_below k3⟩

/-! A table's functions, one by one -/
def Tr.allOk {α : Type} : Tr α → (Nat → α → Prop) → Prop
  | .e, _ => True
  | .n l v r, f => (match v with | some x => f 0 x | none => True) ∧ Tr.allOk l (fun k => f (2 * k + 1)) ∧ Tr.allOk r (fun k => f (2 * k + 2))

theorem Tr.allOk_get {α : Type} : ∀ (t : Tr α) (f : Nat → α → Prop), t.allOk f → ∀ k x, t.get k = some x → f k x := by
  intro t
  induction t with
  | e => intro f _ k x h; cases h
  | n l v r ihl ihr =>
    intro f h k x hg
    obtain ⟨h1, h2, h3⟩ := h
    rw [Tr.get_node] at hg
    cases hk0 : Nat.beq k 0 with
    | true =>
      rw [hk0] at hg
      have := Nat.eq_of_beq_eq_true hk0
      subst this
      simp only at hg
      subst hg
      exact h1
    | false =>
      rw [hk0] at hg
      have hk0 := Nat.ne_of_beq_eq_false hk0
      cases hk : Nat.beq (k % 2) 1 with
      | true =>
        simp only [hk] at hg
        have hk := Nat.eq_of_beq_eq_true hk
        have := ihl _ h2 _ _ hg
        rw [show 2 * (k / 2) + 1 = k from by omega] at this
        exact this
      | false =>
        simp only [hk] at hg
        have hk := Nat.ne_of_beq_eq_false hk
        have := ihr _ h3 _ _ hg
        rw [show 2 * (k / 2 - 1) + 2 = k from by omega] at this
        exact this

/-- One function of the table. -/
def FOk (P : Program) (k : Nat) (F : EFunc) : Prop := ∃ f, P.funcs[k]? = some f ∧ cFunc P f = some F

theorem tabOk_of {P : Program} {tab : Tab} (h : tab.allOk (FOk P)) : TabOk P tab := fun k F hk => Tr.allOk_get tab _ h k F hk

/-! What a value of a readable type is made of -/
theorem cell_leaf {P : Program} {w : World} {r : Reach} {base : Nat} {t : TypeId} {v : Value} (h : Cell.okWide P w r base t v) : v.oneCell' = true := by
  cases v <;> first | rfl | (exfalso; unfold Cell.okWide at h; split at h <;> first | (rename_i e1 e2; cases e2; done) | (unfold Cell.ok at h; split at h <;> first | (rename_i e1 e2; cases e2; done) | exact h))

theorem agg_leaf {P : Program} {w : World} {r : Reach} {base : Nat} {t : TypeId} {fs : Array Field} {v : Value} (ht : P.underlying t = some (.struct fs)) (h : Value.okWide P w r base t v) : ∃ cs, v = .agg cs ∧ cs.size = P.cellsOf t ∧ ∀ x ∈ cs.toList, x.oneCell' = true := by
  unfold Value.okWide at h
  simp only [ht] at h
  obtain ⟨cs, h1, h2, ts, _, _, h3⟩ := h
  refine ⟨cs, h1, h2, fun x hx => ?_⟩
  obtain ⟨i, hi⟩ := List.getElem?_of_mem hx
  obtain ⟨u, _, hu⟩ := h3 i x (by rw [← Array.getElem?_toList]; exact hi)
  exact cell_leaf hu

theorem plain_leaf {P : Program} {w : World} {r : Reach} {base : Nat} {t : TypeId} {u : TypeDesc} {v : Value} (ht : P.underlying t = some u) (h1 : ∀ fs, u ≠ .struct fs) (h2 : ∀ n e, u ≠ .array n e) (h : Value.okWide P w r base t v) : v.oneCell' = true := by
  unfold Value.okWide at h
  rw [ht] at h
  split at h
  · rename_i e; cases e; exact absurd rfl (h1 _)
  · rename_i e; cases e; exact absurd rfl (h2 _ _)
  · exact cell_leaf h

end Go.Ab
end
