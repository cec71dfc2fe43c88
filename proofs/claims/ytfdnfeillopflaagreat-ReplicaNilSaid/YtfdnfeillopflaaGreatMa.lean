/- The abstract evaluator: values, heap, compact code, its compilation from the model's code, and the big-step evaluation. Definitions alone. -/
import GoSem.Dispatch
import GoSem.Core.Machine
import GoSem.Core.Region
import GoSem.Core.Layout
import Derived.Orders
noncomputable section
namespace Go.Ab

/-! ### Tries keyed by numbers -/
inductive Tr (α : Type) where
  | e
  | n (l : Tr α) (v : Option α) (r : Tr α)

namespace Tr
noncomputable def get {α : Type} (t : Tr α) : Nat → Option α :=
  Tr.rec (motive := fun _ => Nat → Option α) (fun _ => none) (fun _ v _ ihl ihr k => Bool.rec (Bool.rec (ihr (Nat.sub (Nat.div k 2) 1)) (ihl (Nat.div k 2)) (Nat.beq (Nat.mod k 2) 1)) v (Nat.beq k 0)) t
noncomputable def sing {α : Type} (f : Nat) : Nat → α → Tr α :=
  Nat.rec (motive := fun _ => Nat → α → Tr α) (fun _ x => .n .e (some x) .e) (fun _ ih k x => Bool.rec (Bool.rec (.n .e none (ih (Nat.sub (Nat.div k 2) 1) x)) (.n (ih (Nat.div k 2) x) none .e) (Nat.beq (Nat.mod k 2) 1)) (.n .e (some x) .e) (Nat.beq k 0)) f
noncomputable def set {α : Type} (t : Tr α) : Nat → α → Tr α :=
  Tr.rec (motive := fun _ => Nat → α → Tr α) (fun k x => sing k k x) (fun l v r ihl ihr k x => Bool.rec (Bool.rec (.n l v (ihr (Nat.sub (Nat.div k 2) 1) x)) (.n (ihl (Nat.div k 2) x) v r) (Nat.beq (Nat.mod k 2) 1)) (.n l (some x) r) (Nat.beq k 0)) t
theorem get_nil {α : Type} (k : Nat) : (Tr.e : Tr α).get k = none := rfl
theorem get_node {α : Type} (l : Tr α) (v : Option α) (r : Tr α) (k : Nat) : (Tr.n l v r).get k = match Nat.beq k 0 with
    | true => v
    | false => match Nat.beq (k % 2) 1 with
      | true => l.get (k / 2)
      | false => r.get (k / 2 - 1) := by
  show @Bool.rec (fun _ => Option α) (@Bool.rec (fun _ => Option α) (r.get (Nat.sub (Nat.div k 2) 1)) (l.get (Nat.div k 2)) (Nat.beq (Nat.mod k 2) 1)) v (Nat.beq k 0) = _
  cases Nat.beq k 0 with
  | true => rfl
  | false =>
    show @Bool.rec (fun _ => Option α) (r.get (Nat.sub (Nat.div k 2) 1)) (l.get (Nat.div k 2)) (Nat.beq (Nat.mod k 2) 1) = _
    have : Nat.beq (Nat.mod k 2) 1 = Nat.beq (k % 2) 1 := rfl
    rw [this]
    cases Nat.beq (k % 2) 1 <;> rfl
theorem sing_zero {α : Type} (k : Nat) (x : α) : Tr.sing 0 k x = .n .e (some x) .e := rfl
theorem sing_succ {α : Type} (f k : Nat) (x : α) : Tr.sing (f + 1) k x = match Nat.beq k 0 with
    | true => .n .e (some x) .e
    | false => match Nat.beq (k % 2) 1 with
      | true => .n (sing f (k / 2) x) none .e
      | false => .n .e none (sing f (k / 2 - 1) x) := by
  show @Bool.rec (fun _ => Tr α) (@Bool.rec (fun _ => Tr α) (Tr.n .e none (sing f (Nat.sub (Nat.div k 2) 1) x)) (.n (sing f (Nat.div k 2) x) none .e) (Nat.beq (Nat.mod k 2) 1)) (.n .e (some x) .e) (Nat.beq k 0) = _
  cases Nat.beq k 0 with
  | true => rfl
  | false =>
    show @Bool.rec (fun _ => Tr α) (Tr.n .e none (sing f (Nat.sub (Nat.div k 2) 1) x)) (.n (sing f (Nat.div k 2) x) none .e) (Nat.beq (Nat.mod k 2) 1) = _
    have : Nat.beq (Nat.mod k 2) 1 = Nat.beq (k % 2) 1 := rfl
    rw [this]
    cases Nat.beq (k % 2) 1 <;> rfl
theorem set_nil {α : Type} (k : Nat) (x : α) : (Tr.e : Tr α).set k x = sing k k x := rfl
theorem set_node {α : Type} (l : Tr α) (v : Option α) (r : Tr α) (k : Nat) (x : α) : (Tr.n l v r).set k x = match Nat.beq k 0 with
    | true => .n l (some x) r
    | false => match Nat.beq (k % 2) 1 with
      | true => .n (l.set (k / 2) x) v r
      | false => .n l v (r.set (k / 2 - 1) x) := by
  show @Bool.rec (fun _ => Tr α) (@Bool.rec (fun _ => Tr α) (Tr.n l v (r.set (Nat.sub (Nat.div k 2) 1) x)) (.n (l.set (Nat.div k 2) x) v r) (Nat.beq (Nat.mod k 2) 1)) (.n l (some x) r) (Nat.beq k 0) = _
  cases Nat.beq k 0 with
  | true => rfl
  | false =>
    show @Bool.rec (fun _ => Tr α) (Tr.n l v (r.set (Nat.sub (Nat.div k 2) 1) x)) (.n (l.set (Nat.div k 2) x) v r) (Nat.beq (Nat.mod k 2) 1) = _
    have : Nat.beq (Nat.mod k 2) 1 = Nat.beq (k % 2) 1 := rfl
    rw [this]
    cases Nat.beq (k % 2) 1 <;> rfl
end Tr

/-! ### Values -/
/-- What is known of a slice's capacity: a number; or: up to the end of its array's version, in elements of so many cells. -/
inductive Cap where
  | known (c : Nat)
  | rest (es : Nat)

inductive AV where
  | undef
  | bool (b : Bool)
  | int (k : IntKind) (n : Int)
  | str (s : ByteArray)
  | nilp | nils | nilm | nilf | nili
  /-- Array a, version j, cell off. -/
  | ptr (a j off : Nat)
  | sl (a j off len : Nat) (cap : Cap)
  /-- What is left of a slice (its cap to the end, elements of es cells) from element l on, l its length: empty. -/
  | tail (a j off l es : Nat)
  | mp (m : Nat)
  | fn (f : FuncId) (first cap : List AV)
  | yld (l : Nat)
  | ifc (t : TypeId) (v : AV)
  | agg (cs : List AV)
  | tup (cs : List AV)
  /-- The i-th unknown number (an int) and so much more. -/
  | sym (i : Nat) (off : Int)
  /-- The i-th unknown number as a uint64. -/
  | symu (i : Nat)
  /-- The i-th unknown value. -/
  | opq (i : Nat)
  deriving Inhabited

/-! ### Code -/
inductive EO where
  | t (n : Nat)
  | c (v : AV)

/-- How values of a type are held against one another. -/
inductive LK where
  | b | i | s
inductive EqK where
  | leaf (k : LK) | ptr | sl | mp | fn | ifc | flat (ks : List LK)
  
inductive EOp where
  | bad
  | mv (x : EO)
  | pick (c a b : EO)
  | alloc (zs : List AV)
  | box (x : EO)
  | build (zs : List AV) (parts : List (Nat × Nat × EO))
  | buildSl (es len : Nat) (zs : List AV) (parts : List (Nat × Nat × EO))
  | ld1 (x : EO)
  | ldn (n : Nat) (x : EO)
  | st (n : Nat) (a v : EO)
  | nilck (x : EO)
  | bin (op : BinOp) (x y : EO)
  | eq (neg : Bool) (k : EqK) (x y : EO)
  | un (op : UnOp) (x : EO)
  | cvInt (k : IntKind) (x : EO)
  | cvStr (x : EO)
  | cvSB (x : EO)
  | cvBS (x : EO)
  | ifc (t : TypeId) (x : EO)
  | mkFn (f : FuncId) (first cap : List EO)
  | mkMap
  | mkSl (es bytes : Nat) (z : List AV) (len cap : EO)
  | slStr (x : EO) (lo hi : Option EO)
  | slSl (es : Nat) (x : EO) (lo hi mx : Option EO)
  | slArr (n es : Nat) (x : EO) (lo hi mx : Option EO)
  | fldA (off : Nat) (x : EO)
  | fld (off n : Nat) (agg : Bool) (x : EO)
  | ixA (es : Nat) (x i : EO)
  | ixAA (n es : Nat) (x i : EO)
  | ixS (x i : EO)
  | ixV (n es : Nat) (agg : Bool) (x i : EO)
  | look (k : EqK) (z : AV) (ok : Bool) (x i : EO)
  | mset (k : EqK) (m i v : EO)
  | ment (k : EqK) (z : AV) (m i : EO)
  | mest (m s v : EO)
  | ext (x : EO) (i : Nat)
  | call (f : EO) (args : List EO)
  | len (k : Nat) (x : EO)
  | cap (x : EO)
  | app (es bytes : Nat) (x y : EO)
  | appZ (es bytes : Nat) (z : List AV) (x y : EO)
  | cpy (es : Nat) (x y : EO)
  | mx (xs : List EO)
  | mn (xs : List EO)
  | del (k : EqK) (m i : EO)

structure EOper where
  dst : Option Nat
  guard : Option (Option Nat × Bool)
  op : EOp

inductive EStep where
  /-- An operation; behind it these loads, taken before, must give what they gave. -/
  | one (o : EOper) (rc : List EOper)
  /-- Two stores that may come either way round. -/
  | two (x y : EOper) (rc : List EOper)

inductive ECode where
  | bad
  | skip
  | reg (l : List EStep)
  | seq (a b : ECode)
  | cond (c : EO) (x y : ECode)
  | block (id : Nat) (b : ECode)
  | loop (b : ECode)
  | rangeF (f : EO) (ps : List Nat) (asn body : ECode)
  | exit (id : Nat)
  | ret

inductive ERes where
  | tmp (t : Nat)
  /-- The cell (or so many cells) that a temporary points to. -/
  | cell (t : Nat) (n : Nat) (agg : Bool)

structure EFunc where
  ntmps : Nat
  body : ECode
  res : List ERes

/-! ### Heap -/
structure Arr where
  /-- the latest version -/
  ver : Nat
  /-- cells lo .. n-1 are there -/
  n : Nat
  lo : Nat
  /-- what a cell holds that was never written: row of defaults, by the cell's number modulo its length -/
  dv : List AV
  cells : Tr (Nat × AV)

structure AMap where
  es : List (AV × AV × Nat)
  clock : Nat

inductive Ex where
  | normal
  | exit (id : Nat)
  | ret

structure ALoop where
  state : LoopState
  pend : Ex
  tmps : Tr AV
  ps : List Nat
  asn : ECode
  body : ECode

structure AS where
  arrs : Tr Arr
  na : Nat
  maps : Tr AMap
  nm : Nat
  loops : Tr ALoop
  nl : Nat

/-- What is known of the unknowns: of each number bounds; of some their rest (as uint64) by a number. -/
structure Env where
  rng : List (Int × Int)
  rem : List (Nat × Nat × Nat)

def AS.empty : AS := { arrs := .e, na := 0, maps := .e, nm := 0, loops := .e, nl := 0 }

/-! ### Small operations -/
def ltb (a b : Nat) : Bool := Nat.ble (a + 1) b

def nth : List AV → Nat → Option AV
  | [], _ => none
  | x :: l, k => match Nat.beq k 0 with
    | true => some x
    | false => nth l (k - 1)

def Arr.get (A : Arr) (i : Nat) : Option (Nat × AV) :=
  match ltb i A.n && Nat.ble A.lo i with
  | false => none
  | true => match A.cells.get i with
    | some x => some x
    | none => match A.dv with
      | [] => none
      | l => match nth l (i % l.length) with
        | some v => some (0, v)
        | none => none

/-- Cell i as version j sees it. -/
def Arr.rd (A : Arr) (j i : Nat) : Option AV :=
  match A.get i with
  | some (m, v) => match Nat.ble m j with
    | true => some v
    | false => none
  | none => none

/-- May a value stand in one cell? -/
def leaf : AV → Bool
  | .undef | .agg _ | .tup _ => false
  | _ => true

def Arr.wr (A : Arr) (j i : Nat) (v : AV) : Option Arr :=
  match Nat.beq j A.ver && (leaf v && (ltb i A.n && Nat.ble A.lo i)) with
  | true => some { A with cells := A.cells.set i (j, v) }
  | false => none

def AS.rd (s : AS) (a j i : Nat) : Option AV :=
  match s.arrs.get a with
  | some A => A.rd j i
  | none => none

def rdN (A : Arr) (j i : Nat) : Nat → Option (List AV)
  | 0 => some []
  | n + 1 => match A.rd j i with
    | some v => match rdN A j (i + 1) n with
      | some l => some (v :: l)
      | none => none
    | none => none

def AS.rdN (s : AS) (a j i n : Nat) : Option (List AV) :=
  match s.arrs.get a with
  | some A => Ab.rdN A j i n
  | none => none

def wrN (A : Arr) (j i : Nat) : List AV → Option Arr
  | [] => some A
  | v :: l => match A.wr j i v with
    | some A => wrN A j (i + 1) l
    | none => none

def AS.wrN (s : AS) (a j i : Nat) (l : List AV) : Option AS :=
  match s.arrs.get a with
  | some A => match Ab.wrN A j i l with
    | some A => some { s with arrs := s.arrs.set a A }
    | none => none
  | none => none

def setAll (t : Tr (Nat × AV)) (m i : Nat) : List AV → Tr (Nat × AV)
  | [] => t
  | v :: l => setAll (t.set i (m, v)) m (i + 1) l

def AS.new (s : AS) (l : List AV) : Nat × AS :=
  (s.na, { s with arrs := s.arrs.set s.na ⟨0, l.length, 0, [], setAll .e 0 0 l⟩, na := s.na + 1 })

def AS.newZ (s : AS) (n : Nat) (z : List AV) : Nat × AS :=
  (s.na, { s with arrs := s.arrs.set s.na ⟨0, n, 0, z, .e⟩, na := s.na + 1 })

def cellsOf : AV → List AV
  | .agg l => l
  | v => [v]

def EO.ev (x : EO) (T : Tr AV) : AV :=
  match x with
  | .t n => match T.get n with
    | some v => v
    | none => .undef
  | .c v => v

def inRng (lo hi n : Int) : Bool := decide (lo ≤ n) && decide (n ≤ hi)

/-- A number's bounds. -/
def rngOf (E : Env) : AV → Option (Int × Int)
  | .int _ n => some (n, n)
  | .sym i o => match E.rng[i]? with
    | some (a, b) => some (a + o, b + o)
    | none => none
  | _ => none

def lssR (p q : Int × Int) : Option Bool :=
  match decide (p.2 < q.1) with
  | true => some true
  | false => match decide (q.2 ≤ p.1) with
    | true => some false
    | false => none

def eqlR (p q : Int × Int) : Option Bool :=
  match decide (p.2 < q.1) || decide (q.2 < p.1) with
  | true => some false
  | false => match decide (p.1 = p.2) && (decide (q.1 = q.2) && decide (p.1 = q.1)) with
    | true => some true
    | false => none

def notO : Option Bool → Option Bool
  | some b => some !b
  | none => none

def cmpR (op : BinOp) (p q : Int × Int) : Option Bool :=
  match op with
  | .eql => eqlR p q
  | .neq => notO (eqlR p q)
  | .lss => lssR p q
  | .geq => notO (lssR p q)
  | .gtr => lssR q p
  | .leq => notO (lssR q p)
  | _ => none

def isCmp : BinOp → Bool
  | .eql | .neq | .lss | .leq | .gtr | .geq => true
  | _ => false

def intBin (op : BinOp) (k : IntKind) (a b : Int) : Option AV :=
  match op with
  | .add => some (.int k (k.wrap (a + b)))
  | .sub => some (.int k (k.wrap (a - b)))
  | .mul => some (.int k (k.wrap (a * b)))
  | .quo => match decide (b = 0) with
    | true => none
    | false => some (.int k (k.wrap (a.tdiv b)))
  | .rem => match decide (b = 0) with
    | true => none
    | false => some (.int k (a.tmod b))
  | .and => some (.int k (k.wrap ((BitVec.ofInt k.bits a &&& BitVec.ofInt k.bits b).toNat)))
  | .or => some (.int k (k.wrap ((BitVec.ofInt k.bits a ||| BitVec.ofInt k.bits b).toNat)))
  | .xor => some (.int k (k.wrap ((BitVec.ofInt k.bits a ^^^ BitVec.ofInt k.bits b).toNat)))
  | .andNot => some (.int k (k.wrap ((BitVec.ofInt k.bits a &&& ~~~BitVec.ofInt k.bits b).toNat)))
  | .eql => some (.bool (a == b))
  | .neq => some (.bool (a != b))
  | .lss => some (.bool (a < b))
  | .leq => some (.bool (a ≤ b))
  | .gtr => some (.bool (a > b))
  | .geq => some (.bool (a ≥ b))
  | _ => none

def shiftBin (op : BinOp) (k : IntKind) (a b : Int) : Option AV :=
  match decide (b < 0) with
  | true => none
  | false => match op with
    | .shl => some (.int k (k.wrap (a * 2 ^ (min b.toNat k.bits))))
    | .shr => some (.int k (a.fdiv (2 ^ (min b.toNat k.bits))))
    | _ => none

def strBin (op : BinOp) (a b : ByteArray) : Option AV :=
  match op with
  | .add => match Nat.ble (a.size + b.size) 1000000 with
    | true => some (.str (a ++ b))
    | false => none
  | .eql => some (.bool (a.toList == b.toList))
  | .neq => some (.bool !(a.toList == b.toList))
  | .lss => some (.bool (Op.bytesLess a.toList b.toList))
  | .leq => some (.bool (Op.bytesLess a.toList b.toList || a.toList == b.toList))
  | .gtr => some (.bool !(Op.bytesLess a.toList b.toList || a.toList == b.toList))
  | .geq => some (.bool !(Op.bytesLess a.toList b.toList))
  | _ => none

def i64ok (E : Env) (i : Nat) (o : Int) : Bool :=
  match E.rng[i]? with
  | some (a, b) => decide (-9223372036854775808 ≤ a + o) && decide (b + o ≤ 9223372036854775807)
  | none => false

def isI64 : IntKind → Bool
  | .i64 => true
  | _ => false
def isU64 : IntKind → Bool
  | .u64 => true
  | _ => false

def IntKind.same (a b : IntKind) : Bool := decide (a = b)

def isShift : BinOp → Bool
  | .shl | .shr => true
  | _ => false

def symCmp (E : Env) (op : BinOp) (x y : AV) : Option AV :=
  match rngOf E x with
  | some p => match rngOf E y with
    | some q => match cmpR op p q with
      | some b => some (.bool b)
      | none => none
    | none => none
  | none => none

def symB : Option AV → Option Bool
  | some (.bool b) => some b
  | _ => none

def binAV (E : Env) (op : BinOp) (x y : AV) : Option AV :=
  match x, y with
  | .int k a, .int k' b => match isShift op with
    | true => shiftBin op k a b
    | false => match IntKind.same k k' with
      | true => intBin op k a b
      | false => none
  | .str a, .str b => strBin op a b
  | .sym i o, .int k b => match isI64 k with
    | false => none
    | true => match op with
      | .add => match i64ok E i (o + b) with
        | true => some (.sym i (o + b))
        | false => none
      | .sub => match i64ok E i (o - b) with
        | true => some (.sym i (o - b))
        | false => none
      | _ => symCmp E op x y
  | .int k _, .sym _ _ => match isI64 k with
    | false => none
    | true => match isCmp op with
      | true => symCmp E op x y
      | false => none
  | .sym _ _, .sym _ _ => match isCmp op with
    | true => symCmp E op x y
    | false => none
  | .symu i, .int k b => match isU64 k with
    | false => none
    | true => match op with
      | .rem => match E.rem.find? (fun p => Nat.beq p.1 i && (Nat.ble 1 p.2.1 && decide ((p.2.1 : Int) = b))) with
        | some (_, _, r) => some (.int .u64 r)
        | none => none
      | _ => none
  | _, _ => none

/-- Are two cells that hold numbers, bools, strings the same? -/
def eqLeaf (E : Env) (k : LK) (x y : AV) : Option Bool :=
  match k with
  | .b => match x, y with
    | .bool a, .bool b => some (a == b)
    | _, _ => none
  | .s => match x, y with
    | .str a, .str b => some (a.toList == b.toList)
    | _, _ => none
  | .i => match x, y with
    | .int k a, .int k' b => match IntKind.same k k' with
      | true => some (a == b)
      | false => none
    | .sym i o, .int k b => match isI64 k with
      | true => symB (symCmp E .eql (.sym i o) (.int k b))
      | false => none
    | .int k b, .sym i o => match isI64 k with
      | true => symB (symCmp E .eql (.int k b) (.sym i o))
      | false => none
    | _, _ => none

def eqFlat (E : Env) : List LK → List AV → List AV → Option Bool
  | [], [], [] => some true
  | k :: ks, x :: l, y :: m => match eqLeaf E k x y with
    | some true => eqFlat E ks l m
    | some false => some false
    | none => none
  | _, _, _ => none

def eqAV (E : Env) (k : EqK) (x y : AV) : Option Bool :=
  match k with
  | .leaf k => eqLeaf E k x y
  | .flat ks => match x, y with
    | .agg l, .agg m => match Nat.beq l.length ks.length && Nat.beq m.length ks.length with
      | true => eqFlat E ks l m
      | false => none
    | _, _ => none
  | .ptr => match x, y with
    | .nilp, .nilp => some true
    | .nilp, .ptr _ _ _ => some false
    | .ptr _ _ _, .nilp => some false
    | .ptr a j o, .ptr a' j' o' => match Nat.beq a a' && Nat.beq j j' with
      | true => some (Nat.beq o o')
      | false => none
    | _, _ => none
  | .sl => match x, y with
    | .nils, .nils => some true
    | .nils, .sl _ _ _ _ _ => some false
    | .sl _ _ _ _ _, .nils => some false
    | .nils, .tail _ _ _ _ _ => some false
    | .tail _ _ _ _ _, .nils => some false
    | _, _ => none
  | .mp => match x, y with
    | .nilm, .nilm => some true
    | .nilm, .mp _ => some false
    | .mp _, .nilm => some false
    | _, _ => none
  | .fn => match x, y with
    | .nilf, .nilf => some true
    | .nilf, .fn _ _ _ => some false
    | .fn _ _ _, .nilf => some false
    | .nilf, .yld _ => some false
    | .yld _, .nilf => some false
    | _, _ => none
  | .ifc => match x, y with
    | .nili, .ifc _ _ => some false
    | .ifc _ _, .nili => some false
    | _, _ => none

def natOf : AV → Option Nat
  | .int _ (.ofNat n) => some n
  | _ => none

/-- Parts put over a row. -/
def putAt : List AV → Nat → List AV → List AV
  | cs, _, [] => cs
  | [], _, _ => []
  | c :: cs, k, v :: vs => match Nat.beq k 0 with
    | true => v :: putAt cs 0 vs
    | false => c :: putAt cs (k - 1) (v :: vs)

def fillP (T : Tr AV) : List AV → List (Nat × Nat × EO) → Option (List AV)
  | cs, [] => some cs
  | cs, (off, size, x) :: l =>
    let v := cellsOf (x.ev T)
    match Nat.beq v.length size && Nat.ble (off + v.length) cs.length with
    | true => fillP T (putAt cs off v) l
    | false => none

def dropN : Nat → List AV → List AV
  | 0, l => l
  | _ + 1, [] => []
  | n + 1, _ :: l => dropN n l
def takeN : Nat → List AV → List AV
  | 0, _ => []
  | _ + 1, [] => []
  | n + 1, x :: l => x :: takeN n l

def partOf (agg : Bool) (off n : Nat) (cs : List AV) : Option AV :=
  match agg with
  | true => match Nat.ble (off + n) cs.length with
    | true => some (.agg (takeN n (dropN off cs)))
    | false => none
  | false => nth cs off

def repL (n : Nat) (z : List AV) : List AV :=
  match n with
  | 0 => []
  | n + 1 => z ++ repL n z

def lookM (E : Env) (k : EqK) (x : AV) : List (AV × AV × Nat) → Nat → Option (Option (Nat × AV × Nat))
  | [], _ => some none
  | (a, v, b) :: l, i => match eqAV E k x a with
    | some true => some (some (i, v, b))
    | some false => lookM E k x l (i + 1)
    | none => none

def setM : List (AV × AV × Nat) → Nat → AV → AV → List (AV × AV × Nat)
  | [], _, _, _ => []
  | (a, w, b) :: l, i, x, v => match Nat.beq i 0 with
    | true => (x, v, b) :: l
    | false => (a, w, b) :: setM l (i - 1) x v

def delM : List (AV × AV × Nat) → Nat → List (AV × AV × Nat)
  | [], _ => []
  | e :: l, i => match Nat.beq i 0 with
    | true => l
    | false => e :: delM l (i - 1)

def setBorn : List (AV × AV × Nat) → Nat → AV → Option (List (AV × AV × Nat))
  | [], _, _ => none
  | (a, w, b) :: l, k, v => match Nat.beq b k with
    | true => some ((a, v, b) :: l)
    | false => match setBorn l k v with
      | some l => some ((a, w, b) :: l)
      | none => none

def bytesOfL : List AV → Option (List UInt8)
  | [] => some []
  | .int .u8 (.ofNat n) :: l => match bytesOfL l with
    | some r => some (UInt8.ofNat n :: r)
    | none => none
  | _ :: _ => none

def mxAV (E : Env) (x y : AV) : Option AV :=
  match x, y with
  | .int k a, .int _ b => some (.int k (if b > a then b else a))
  | .str a, .str b => some (.str (if !(Op.bytesLess a.toList b.toList) then a else b))
  | .sym i o, .int k b => match isI64 k with
    | false => none
    | true => match symCmp E .gtr (.int k b) (.sym i o) with
      | some (.bool true) => some (.int k b)
      | some (.bool false) => some (.sym i o)
      | _ => none
  | .int k a, .sym i o => match isI64 k with
    | false => none
    | true => match symCmp E .gtr (.sym i o) (.int k a) with
      | some (.bool true) => some (.sym i o)
      | some (.bool false) => some (.int k a)
      | _ => none
  | _, _ => none

def mnAV (E : Env) (x y : AV) : Option AV :=
  match x, y with
  | .int k a, .int _ b => some (.int k (if b < a then b else a))
  | .str a, .str b => some (.str (if Op.bytesLess a.toList b.toList || a.toList == b.toList then a else b))
  | .sym i o, .int k b => match isI64 k with
    | false => none
    | true => match symCmp E .lss (.int k b) (.sym i o) with
      | some (.bool true) => some (.int k b)
      | some (.bool false) => some (.sym i o)
      | _ => none
  | .int k a, .sym i o => match isI64 k with
    | false => none
    | true => match symCmp E .lss (.sym i o) (.int k a) with
      | some (.bool true) => some (.sym i o)
      | some (.bool false) => some (.int k a)
      | _ => none
  | _, _ => none

def foldAV (f : AV → AV → Option AV) : AV → List AV → Option AV
  | x, [] => some x
  | x, y :: l => match f x y with
    | some z => foldAV f z l
    | none => none

def lenAV (s : AS) : AV → Option Nat
  | .str b => some b.size
  | .nils => some 0
  | .sl _ _ _ n _ => some n
  | .tail _ _ _ _ _ => some 0
  | .nilm => some 0
  | .mp m => match s.maps.get m with
    | some M => some M.es.length
    | none => none
  | _ => none

/-- Is it of the kind whose length is asked? 0: string; 1: slice; 2: map. -/
def lenIs (k : Nat) : AV → Bool
  | .str _ => Nat.beq k 0
  | .nils | .sl _ _ _ _ _ | .tail _ _ _ _ _ => Nat.beq k 1
  | .nilm | .mp _ => Nat.beq k 2
  | _ => false

/-- The cells that an append or a copy takes from its source: the first n elements. -/
def srcCells (s : AS) (es n : Nat) : AV → Option (List AV)
  | .nils => some []
  | .tail _ _ _ _ _ => some []
  | .sl a j off _ _ => match Nat.beq n 0 with
    | true => some []
    | false => s.rdN a j off (n * es)
  | .str b => some ((b.toList.take n).map fun c => .int .u8 (c.toNat : Int))
  | _ => none

/-- How much an append may come to, in bytes and elements. -/
def sane (need bytes : Nat) : Bool := Nat.ble (need * (bytes + 1)) 1099511627776

def freshSl (s : AS) (es : Nat) (cs : List AV) (len : Nat) : AV × AS :=
  match s.new cs with
  | (a, s) => (.sl a 0 0 len (.rest es), s)

def oldOk (A : Arr) (j i : Nat) : Nat → Bool
  | 0 => true
  | n + 1 => match A.rd j i with
    | some _ => oldOk A j (i + 1) n
    | none => false

/-- append: new cells 'new' (k elements of es cells each). -/
def appTo (s : AS) (es bytes k : Nat) (new : List AV) : AV → Option (AV × AS)
  | .nils => match Nat.beq k 0 with
    | true => some (.nils, s)
    | false => match sane k bytes && Nat.ble 1 es with
      | true => some (freshSl s es new k)
      | false => none
  | .sl a j off len (.known c) => match sane (len + k) bytes && Nat.ble 1 es with
    | false => none
    | true => match Nat.ble (len + k) c with
      | true => match s.wrN a j (off + len * es) new with
        | some s => some (.sl a j off (len + k) (.known c), s)
        | none => none
      | false => match s.rdN a j off (len * es) with
        | some old => some (freshSl s es (old ++ new) (len + k))
        | none => none
  | .sl a j off len (.rest es') => match Nat.beq k 0 with
    | true => some (.sl a j off len (.rest es'), s)
    | false => match Nat.beq es es' && (sane (len + k) bytes && Nat.ble 1 es) with
      | false => none
      | true => match s.arrs.get a with
        | none => none
        | some A => match (Nat.beq j A.ver || oldOk A j off (len * es)) && (Nat.ble A.lo off && Nat.ble (off + len * es) A.n) with
          | false => none
          | true => some (.sl a (A.ver + 1) off (len + k) (.rest es),
              { s with arrs := s.arrs.set a ⟨A.ver + 1, off + len * es + new.length, off, A.dv, setAll A.cells (A.ver + 1) (off + len * es) new⟩ })
  | _ => none

def allLeaf : List AV → Bool
  | [] => true
  | v :: l => match leaf v with
    | true => allLeaf l
    | false => false

def appAV (s : AS) (es bytes k : Nat) (new : List AV) (x : AV) : Option (AV × AS) :=
  match Nat.beq new.length (k * es) && allLeaf new with
  | true => appTo s es bytes k new x
  | false => none

/-! ### Calls are taken from an oracle -/
abbrev Oracle := AV → List AV → AS → Option (AV × AS)

/-- What an optional bound is. -/
def optN (d : Nat) : Option AV → Option Nat
  | some v => natOf v
  | none => some d

def sliceAV (es : Nat) (lo hi mx : Option AV) (x : AV) : Option AV :=
  match mx.isSome && hi.isNone with
  | true => none
  | false => match x with
    | .nils => match optN 0 lo with
      | some 0 => match optN 0 hi with
        | some 0 => match optN 0 mx with
          | some 0 => some .nils
          | _ => none
        | _ => none
      | _ => none
    | .sl a j off len (.known c) => match optN c mx with
      | none => none
      | some m => match optN len hi with
        | none => none
        | some h => match optN 0 lo with
          | none => none
          | some l => match Nat.ble l h && (Nat.ble h m && Nat.ble m c) with
            | false => none
            | true => some (.sl a j (match Nat.beq m l with | true => off | false => off + l * es) (h - l) (.known (m - l)))
    | .sl a j off len (.rest es') => match Nat.beq es es' with
      | false => none
      | true => match optN len hi with
        | none => none
        | some h => match optN 0 lo with
          | none => none
          | some l => match Nat.ble l h && Nat.ble h len with
            | false => none
            | true => match mx with
              | some v => match natOf v with
                | some m => match Nat.ble h m && Nat.ble m len with
                  | true => some (.sl a j (match Nat.beq m l with | true => off | false => off + l * es) (h - l) (.known (m - l)))
                  | false => none
                | none => none
              | none => match ltb l len || Nat.beq l 0 with
                | true => some (.sl a j (off + l * es) (h - l) (.rest es))
                | false => some (.tail a j off l es)
    | .tail a j off l es => match optN 0 lo with
      | some 0 => match optN 0 hi with
        | some 0 => match mx with
          | none => some (.tail a j off l es)
          | some _ => none
        | _ => none
      | _ => none
    | _ => none

def optEv (T : Tr AV) : Option EO → Option AV
  | some x => some (x.ev T)
  | none => none

def evs (T : Tr AV) : List EO → List AV
  | [] => []
  | x :: l => x.ev T :: evs T l

def some2 (s : AS) : Option AV → Option (AV × AS)
  | some v => some (v, s)
  | none => none

def boolR : Option Bool → Option AV
  | some b => some (.bool b)
  | none => none

def xorb (n : Bool) : Option Bool → Option AV
  | some b => some (.bool (b != n))
  | none => none

def intN (n : Nat) : AV := .int .i64 (.ofNat n)

def lookOf (E : Env) (k : EqK) (s : AS) (x i : AV) : Option (Option (Nat × AV × Nat)) :=
  match x with
  | .nilm => some none
  | .mp m => match s.maps.get m with
    | some M => lookM E k i M.es 0
    | none => none
  | _ => none

def evOp (E : Env) (cl : Oracle) (op : EOp) (T : Tr AV) (s : AS) : Option (AV × AS) :=
  match op with
  | .bad => none
  | .mv x => some (x.ev T, s)
  | .pick c a b => match c.ev T with
    | .bool true => some (a.ev T, s)
    | .bool false => some (b.ev T, s)
    | _ => none
  | .alloc zs => match s.newZ zs.length zs with
    | (a, s) => some (.ptr a 0 0, s)
  | .box x => match s.new (cellsOf (x.ev T)) with
    | (a, s) => some (.ptr a 0 0, s)
  | .build zs ps => match fillP T zs ps with
    | some l => some (.agg l, s)
    | none => none
  | .buildSl _ len zs ps => match fillP T zs ps with
    | some l => match s.new l with
      | (a, s) => some (.sl a 0 0 len (.known len), s)
    | none => none
  | .ld1 x => match x.ev T with
    | .ptr a j o => some2 s (s.rd a j o)
    | _ => none
  | .ldn n x => match x.ev T with
    | .ptr a j o => match s.rdN a j o n with
      | some l => some (.agg l, s)
      | none => none
    | _ => none
  | .st n a v => match a.ev T with
    | .ptr a j o => match cellsOf (v.ev T) with
      | l => match Nat.beq l.length n with
        | true => match s.wrN a j o l with
          | some s => some (.undef, s)
          | none => none
        | false => none
    | _ => none
  | .nilck x => match x.ev T with
    | .ptr a j o => some (.ptr a j o, s)
    | .fn f p c => some (.fn f p c, s)
    | .yld l => some (.yld l, s)
    | _ => none
  | .bin op x y => some2 s (binAV E op (x.ev T) (y.ev T))
  | .eq neg k x y => some2 s (xorb neg (eqAV E k (x.ev T) (y.ev T)))
  | .un op x => match op, x.ev T with
    | .not, .bool b => some (.bool !b, s)
    | .neg, .int k n => some2 s (intBin .sub k 0 n)
    | .xor, .int k n => some2 s (intBin .xor k (if k.signed then -1 else k.max) n)
    | _, _ => none
  | .cvInt k x => match x.ev T with
    | .int _ n => some (.int k (k.wrap n), s)
    | .sym i o => match isI64 k with
      | true => match i64ok E i o with
        | true => some (.sym i o, s)
        | false => none
      | false => match isU64 k with
        | true => match decide (o = 0) with
          | true => some (.symu i, s)
          | false => none
        | false => none
    | _ => none
  | .cvStr x => match x.ev T with
    | .str b => some (.str b, s)
    | _ => none
  | .cvSB x => match x.ev T with
    | .str b => some (freshSl s 1 (b.toList.map fun c => .int .u8 (c.toNat : Int)) b.size)
    | _ => none
  | .cvBS x => match x.ev T with
    | .nils => some (.str .empty, s)
    | .tail _ _ _ _ _ => some (.str .empty, s)
    | .sl a j off len _ => match Nat.beq len 0 with
      | true => some (.str .empty, s)
      | false => match s.rdN a j off len with
        | some l => match bytesOfL l with
          | some b => some (.str ⟨b.toArray⟩, s)
          | none => none
        | none => none
    | _ => none
  | .ifc t x => some (.ifc t (x.ev T), s)
  | .mkFn f a b => some (.fn f (evs T a) (evs T b), s)
  | .mkMap => some (.mp s.nm, { s with maps := s.maps.set s.nm ⟨[], 0⟩, nm := s.nm + 1 })
  | .mkSl es bytes z l c => match natOf (l.ev T) with
    | none => none
    | some l => match natOf (c.ev T) with
      | none => none
      | some c => match Nat.ble l c && sane c bytes with
        | true => match s.newZ (c * es) z with
          | (a, s) => some (.sl a 0 0 l (.known c), s)
        | false => none
  | .slStr x lo hi => match x.ev T with
    | .str b => match optN b.size (optEv T hi) with
      | none => none
      | some h => match optN 0 (optEv T lo) with
        | none => none
        | some l => match Nat.ble l h && Nat.ble h b.size with
          | true => some (.str (b.extract l h), s)
          | false => none
    | _ => none
  | .slSl es x lo hi mx => some2 s (sliceAV es (optEv T lo) (optEv T hi) (optEv T mx) (x.ev T))
  | .slArr n es x lo hi mx => match x.ev T with
    | .ptr a j o => some2 s (sliceAV es (optEv T lo) (optEv T hi) (optEv T mx) (.sl a j o n (.known n)))
    | _ => none
  | .fldA off x => match x.ev T with
    | .ptr a j o => some (.ptr a j (o + off), s)
    | _ => none
  | .fld off n agg x => match x.ev T with
    | .agg l => some2 s (partOf agg off n l)
    | _ => none
  | .ixA es x i => match x.ev T with
    | .sl a j off len _ => match natOf (i.ev T) with
      | some i => match ltb i len with
        | true => some (.ptr a j (off + i * es), s)
        | false => none
      | none => none
    | _ => none
  | .ixAA n es x i => match x.ev T with
    | .ptr a j off => match natOf (i.ev T) with
      | some i => match ltb i n with
        | true => some (.ptr a j (off + i * es), s)
        | false => none
      | none => none
    | _ => none
  | .ixS x i => match x.ev T with
    | .str b => match natOf (i.ev T) with
      | some i => match b[i]? with
        | some c => some (.int .u8 (c.toNat : Int), s)
        | none => none
      | none => none
    | _ => none
  | .ixV n es agg x i => match x.ev T with
    | .agg l => match natOf (i.ev T) with
      | some i => match ltb i n with
        | true => some2 s (partOf agg (i * es) es l)
        | false => none
      | none => none
    | _ => none
  | .look k z ok x i => match lookOf E k s (x.ev T) (i.ev T) with
    | some (some (_, v, _)) => some (match ok with | true => .tup [v, .bool true] | false => v, s)
    | some none => some (match ok with | true => .tup [z, .bool false] | false => z, s)
    | none => none
  | .mset k m i v => match m.ev T with
    | .mp r => match s.maps.get r with
      | some M => match lookM E k (i.ev T) M.es 0 with
        | some (some (q, _, _)) => some (.undef, { s with maps := s.maps.set r ⟨setM M.es q (i.ev T) (v.ev T), M.clock⟩ })
        | some none => some (.undef, { s with maps := s.maps.set r ⟨M.es ++ [(i.ev T, v.ev T, M.clock)], M.clock + 1⟩ })
        | none => none
      | none => none
    | _ => none
  | .ment k z m i => match m.ev T with
    | .mp r => match s.maps.get r with
      | some M => match lookM E k (i.ev T) M.es 0 with
        | some (some (q, v, b)) => some (.tup [v, intN b], { s with maps := s.maps.set r ⟨setM M.es q (i.ev T) v, M.clock⟩ })
        | some none => some (.tup [z, intN M.clock], { s with maps := s.maps.set r ⟨M.es ++ [(i.ev T, z, M.clock)], M.clock + 1⟩ })
        | none => none
      | none => none
    | _ => none
  | .mest m b v => match m.ev T with
    | .mp r => match s.maps.get r with
      | some M => match natOf (b.ev T) with
        | some b => match setBorn M.es b (v.ev T) with
          | some l => some (.undef, { s with maps := s.maps.set r ⟨l, M.clock⟩ })
          | none => none
        | none => none
      | none => none
    | _ => none
  | .del k m i => match m.ev T with
    | .nilm => some (.tup [], s)
    | .mp r => match s.maps.get r with
      | some M => match lookM E k (i.ev T) M.es 0 with
        | some (some (q, _, _)) => some (.tup [], { s with maps := s.maps.set r ⟨delM M.es q, M.clock⟩ })
        | some none => some (.tup [], s)
        | none => none
      | none => none
    | _ => none
  | .ext x i => match x.ev T with
    | .tup l => some2 s (nth l i)
    | _ => none
  | .call f args => cl (f.ev T) (evs T args) s
  | .len k x => match lenIs k (x.ev T) with
    | true => match lenAV s (x.ev T) with
      | some n => some (intN n, s)
      | none => none
    | false => none
  | .cap x => match x.ev T with
    | .nils => some (intN 0, s)
    | .sl _ _ _ _ (.known c) => some (intN c, s)
    | _ => none
  | .app es bytes x y => match lenAV s (y.ev T) with
    | none => none
    | some k => match srcCells s es k (y.ev T) with
      | none => none
      | some new => appAV s es bytes k new (x.ev T)
  | .appZ es bytes z x y => match natOf (y.ev T) with
    | some k => appAV s es bytes k (repL k z) (x.ev T)
    | none => none
  | .cpy es x y => match lenAV s (x.ev T) with
    | none => none
    | some n => match lenAV s (y.ev T) with
      | none => none
      | some m => match srcCells s es (Nat.min m n) (y.ev T) with
        | none => none
        | some l => match x.ev T with
          | .sl a j off _ _ => match s.wrN a j off l with
            | some s => some (intN (Nat.min m n), s)
            | none => none
          | .nils => some (intN 0, s)
          | _ => none
  | .mx xs => match evs T xs with
    | x :: l => some2 s (foldAV (mxAV E) x l)
    | [] => none
  | .mn xs => match evs T xs with
    | x :: l => some2 s (foldAV (mnAV E) x l)
    | [] => none

def wantedE (T : Tr AV) : Option (Option Nat × Bool) → Option Bool
  | none => some true
  | some (none, _) => some false
  | some (some t, b) => match (EO.t t).ev T with
    | .bool c => some (c == b)
    | .opq _ => none
    | _ => some false

def putD (T : Tr AV) (d : Option Nat) (v : AV) : Tr AV :=
  match d with
  | some d => T.set d v
  | none => T

def evOper (E : Env) (cl : Oracle) (o : EOper) (T : Tr AV) (s : AS) : Option (AV × AS) :=
  match wantedE T o.guard with
  | some true => evOp E cl o.op T s
  | some false => some (.undef, s)
  | none => none

/-- Alike to the last sign. -/
def same1 : AV → AV → Bool
  | .undef, .undef => true
  | .bool a, .bool b => a == b
  | .int k a, .int k' b => IntKind.same k k' && decide (a = b)
  | .str a, .str b => a.toList == b.toList
  | .nilp, .nilp | .nils, .nils | .nilm, .nilm | .nilf, .nilf | .nili, .nili => true
  | .ptr a j o, .ptr a' j' o' => Nat.beq a a' && (Nat.beq j j' && Nat.beq o o')
  | .sl a j o l (.known c), .sl a' j' o' l' (.known c') => Nat.beq a a' && (Nat.beq j j' && (Nat.beq o o' && (Nat.beq l l' && Nat.beq c c')))
  | .sl a j o l (.rest c), .sl a' j' o' l' (.rest c') => Nat.beq a a' && (Nat.beq j j' && (Nat.beq o o' && (Nat.beq l l' && Nat.beq c c')))
  | .tail a j o l c, .tail a' j' o' l' c' => Nat.beq a a' && (Nat.beq j j' && (Nat.beq o o' && (Nat.beq l l' && Nat.beq c c')))
  | .mp m, .mp m' => Nat.beq m m'
  | .fn f [] [], .fn g [] [] => Nat.beq f g
  | .yld m, .yld m' => Nat.beq m m'
  | .sym i o, .sym i' o' => Nat.beq i i' && decide (o = o')
  | .symu i, .symu i' => Nat.beq i i'
  | .opq i, .opq i' => Nat.beq i i'
  | _, _ => false

def sameL : List AV → List AV → Bool
  | [], [] => true
  | x :: l, y :: m => match same1 x y with
    | true => sameL l m
    | false => false
  | _, _ => false

def same (x y : AV) : Bool :=
  match x, y with
  | .agg l, .agg m => sameL l m
  | .tup l, .tup m => sameL l m
  | .fn f a b, .fn g c d => Nat.beq f g && (sameL a c && sameL b d)
  | x, y => same1 x y

def recheck (E : Env) (cl : Oracle) (T : Tr AV) (s : AS) : List EOper → Bool
  | [] => true
  | o :: l => match evOper E cl o T s with
    | some (v, _) => match o.dst with
      | some d => match T.get d with
        | some w => match same v w with
          | true => recheck E cl T s l
          | false => false
        | none => false
      | none => false
    | none => false

/-- The cells that a store writes: array, first cell, how many. -/
def target (T : Tr AV) : EOp → Option (Nat × Nat × Nat)
  | .st n a _ => match a.ev T with
    | .ptr a _ o => some (a, o, n)
    | _ => none
  | _ => none

def apart : Nat × Nat × Nat → Nat × Nat × Nat → Bool
  | (a, o, n), (a', o', n') => !(Nat.beq a a') || (Nat.ble (o + n) o' || Nat.ble (o' + n') o)

def evStep (E : Env) (cl : Oracle) (st : EStep) (T : Tr AV) (s : AS) : Option (Tr AV × AS) :=
  match st with
  | .one o rc => match evOper E cl o T s with
    | some (v, s) => match putD T o.dst v with
      | T => match rc with
        | [] => some (T, s)
        | _ => match recheck E cl T s rc with
          | true => some (T, s)
          | false => none
    | none => none
  | .two x y rc => match evOper E cl x T s with
    | none => none
    | some (_, s1) => match evOper E cl y T s1 with
      | none => none
      | some (_, s2) => match evOper E cl y T s with
        | none => none
        | some (_, s3) => match target T x.op with
          | none => none
          | some p => match target T y.op with
            | none => none
            | some q => match apart p q && (recheck E cl T s1 rc && (recheck E cl T s2 rc && recheck E cl T s3 rc)) with
              | true => some (T, s2)
              | false => none

def evSteps (E : Env) (cl : Oracle) : List EStep → Tr AV → AS → Option (Tr AV × AS)
  | [], T, s => some (T, s)
  | x :: l, T, s => match evStep E cl x T s with
    | some (T, s) => evSteps E cl l T s
    | none => none

def blockEx (id : Nat) : Ex → Ex
  | .exit id' => match Nat.beq id' id with
    | true => .normal
    | false => .exit id'
  | e => e

/-- Rounds of a loop: its body, as long as it ends normally. -/
def rounds (f : Tr AV → AS → Option (Ex × Tr AV × AS)) : Nat → Tr AV → AS → Option (Ex × Tr AV × AS)
  | 0, _, _ => none
  | n + 1, T, s => match f T s with
    | some (.normal, T, s) => rounds f n T s
    | r => r

def evCode (E : Env) (cl : Oracle) (lf : Nat) : ECode → Tr AV → AS → Option (Ex × Tr AV × AS)
  | .bad, _, _ => none
  | .skip, T, s => some (.normal, T, s)
  | .reg l, T, s => match evSteps E cl l T s with
    | some (T, s) => some (.normal, T, s)
    | none => none
  | .seq a b, T, s => match evCode E cl lf a T s with
    | some (.normal, T, s) => evCode E cl lf b T s
    | r => r
  | .cond c x y, T, s => match c.ev T with
    | .bool true => evCode E cl lf x T s
    | .bool false => evCode E cl lf y T s
    | _ => none
  | .block id b, T, s => match evCode E cl lf b T s with
    | some (e, T, s) => some (blockEx id e, T, s)
    | none => none
  | .loop b, T, s => rounds (evCode E cl lf b) lf T s
  | .rangeF f ps asn body, T, s => match cl (f.ev T) [.yld s.nl] { s with loops := s.loops.set s.nl ⟨.ready, .normal, T, ps, asn, body⟩, nl := s.nl + 1 } with
    | some (_, s') => match s'.loops.get s.nl with
      | some L => match L.state with
        | .busy => none
        | _ => some (L.pend, T, { s' with loops := s'.loops.set s.nl { L with state := .exhausted } })
      | none => none
    | none => none
  | .exit id, T, s => some (.exit id, T, s)
  | .ret, T, s => some (.ret, T, s)

def setPs : Tr AV → List Nat → List AV → Option (Tr AV)
  | T, [], [] => some T
  | T, p :: ps, v :: vs => setPs (T.set p v) ps vs
  | _, _, _ => none

def args0 : Tr AV → Nat → List AV → Tr AV
  | T, _, [] => T
  | T, i, v :: l => args0 (T.set i v) (i + 1) l

def evRes (T : Tr AV) (s : AS) : ERes → Option AV
  | .tmp t => some ((EO.t t).ev T)
  | .cell t n agg => match (EO.t t).ev T with
    | .ptr a j o => match agg with
      | true => match s.rdN a j o n with
        | some l => some (.agg l)
        | none => none
      | false => s.rd a j o
    | _ => none

def evResL (T : Tr AV) (s : AS) : List ERes → Option (List AV)
  | [] => some []
  | r :: l => match evRes T s r with
    | some v => match evResL T s l with
      | some vs => some (v :: vs)
      | none => none
    | none => none

def results (T : Tr AV) (s : AS) (l : List ERes) : Option AV :=
  match evResL T s l with
  | some [v] => some v
  | some vs => some (.tup vs)
  | none => none

/-- The table of functions. -/
abbrev Tab := Tr EFunc

def evFunc (E : Env) (cl : Oracle) (lf : Nat) (F : EFunc) (args : List AV) (s : AS) : Option (AV × AS) :=
  match Nat.ble args.length F.ntmps with
  | false => none
  | true => match evCode E cl lf F.body (args0 .e 0 args) s with
    | some (.exit _, _, _) => none
    | some (_, T, s) => match results T s F.res with
      | some v => some (v, s)
      | none => none
    | none => none

def evRound (E : Env) (cl : Oracle) (lf : Nat) (l : Nat) (args : List AV) (s : AS) : Option (AV × AS) :=
  match s.loops.get l with
  | none => none
  | some L => match setPs L.tmps L.ps args with
    | none => none
    | some T => match evCode E cl lf L.asn T s with
      | some (.normal, T, s) => match s.loops.get l with
        | none => none
        | some L₁ => match L₁.state with
          | .ready => match evCode E cl lf L.body T { s with loops := s.loops.set l { L₁ with state := .busy, pend := L₁.pend } } with
            | none => none
            | some (x, _, s) => match s.loops.get l with
              | none => none
              | some L₂ => match x with
                | .normal => some (.bool true, { s with loops := s.loops.set l { L₂ with state := .ready, pend := .normal } })
                | x => some (.bool false, { s with loops := s.loops.set l { L₂ with state := .done, pend := x } })
          | _ => none
      | _ => none

/-- The oracle of depth n. -/
def evCall (E : Env) (tab : Tab) (lf : Nat) : Nat → Oracle
  | 0, _, _, _ => none
  | n + 1, f, args, s => match f with
    | .fn k first cap => match tab.get k with
      | some F => evFunc E (evCall E tab lf n) lf F (first ++ args ++ cap) s
      | none => none
    | .yld l => evRound E (evCall E tab lf n) lf l args s
    | _ => none

end Go.Ab
end

noncomputable section
namespace Go.Ab

def ofLeaf : Value → Option AV
  | .bool b => some (.bool b)
  | .int k n => some (.int k n)
  | .string s => some (.str s)
  | .pointer none => some .nilp
  | .slice none 0 0 => some .nils
  | .map none => some .nilm
  | .nilFunc => some .nilf
  | .nilIface => some .nili
  | _ => none

def ofLeaves : List Value → Option (List AV)
  | [] => some []
  | v :: l => match ofLeaf v with
    | some a => match ofLeaves l with
      | some r => some (a :: r)
      | none => none
    | none => none

def ofV : Value → Option AV
  | .agg cs => (ofLeaves cs.toList).map .agg
  | .tuple cs => match cs.toList with
    | [] => some .undef
    | _ => none
  | v => ofLeaf v

def cEO : Operand → Option EO
  | .tmp t => some (.t t)
  | .const v => (ofV v).map .c
  | .func f => some (.c (.fn f [] []))
  | .global _ => none

def cEOs : List Operand → Option (List EO)
  | [] => some []
  | x :: l => match cEO x with
    | some a => match cEOs l with
      | some r => some (a :: r)
      | none => none
    | none => none

def tsize (P : Tables) (t : TypeId) : Option Nat := (P.info? t).map (·.size)
def tbytes (P : Tables) (t : TypeId) : Option Nat := (P.info? t).map (·.bytes)
def tzero (P : Tables) (t : TypeId) : Option AV := ((P.info? t).bind (·.zero)).bind ofV
def tzeros (P : Tables) (t : TypeId) : Option (List AV) := (tzero P t).map cellsOf

def tagg (P : Program) (t : TypeId) : Option Bool :=
  match P.underlying t with
  | some (.struct _) => some true
  | some (.array _ _) => some true
  | some _ => some false
  | none => none

/-- The kinds of the cells of a value that is held against another one cell by cell. -/
def flat (P : Program) : Nat → TypeId → Option (List LK)
  | 0, _ => none
  | d + 1, t => match P.underlying t with
    | some .bool => some [.b]
    | some (.int _) => some [.i]
    | some .string => some [.s]
    | some (.struct fs) => if P.stoodInHeld t = false then flatFs (flat P d) fs.toList 0 else none
    | some (.array n e) => match flat P d e with
      | some ks => if tsize P.toTables e = some ks.length ∧ tagg P e = some false ∧ ks.length = 1 then some (repK n ks) else none
      | none => none
    | _ => none
where
  flatFs (f : TypeId → Option (List LK)) : List Field → Nat → Option (List LK)
    | [], _ => some []
    | x :: l, k => match f x.type, tsize P.toTables x.type, tagg P x.type with
      | some ks, some n, some g => if x.offset = k ∧ x.name ≠ "_" ∧ n = ks.length ∧ (g = true ∨ n = 1) then
          match flatFs f l (k + n) with
          | some r => some (ks ++ r)
          | none => none
        else none
      | _, _, _ => none
  repK : Nat → List LK → List LK
    | 0, _ => []
    | n + 1, ks => ks ++ repK n ks

def eqKind (P : Program) (t : TypeId) : Option EqK :=
  match P.underlying t with
  | some .bool => some (.leaf .b)
  | some (.int _) => some (.leaf .i)
  | some .string => some (.leaf .s)
  | some (.pointer e) => match tsize P.toTables e with
    | some 0 => none
    | some _ => some .ptr
    | none => none
  | some (.slice _) => some .sl
  | some (.map _ _) => some .mp
  | some (.func _ _ _) => some .fn
  | some (.interface _) => some .ifc
  | some (.struct _) => match P.eqGuardType P.depth t with
    | false => (flat P 8 t).map .flat
    | true => none
  | some (.array _ _) => match P.eqGuardType P.depth t with
    | false => (flat P 8 t).map .flat
    | true => none
  | _ => none

/-- How a map's keys are held against one another. -/
def mapKind (P : Program) (t : TypeId) : Option EqK :=
  match eqKind P t with
  | some (.leaf k) => some (.leaf k)
  | _ => none

def cPlaces (P : Program) (place : Nat → Option (Nat × Nat)) : List (Nat × Operand) → Option (List (Nat × Nat × EO))
  | [] => some []
  | (i, x) :: l => match place i, cEO x, cPlaces P place l with
    | some (o, n), some x, some r => some ((o, n, x) :: r)
    | _, _, _ => none

def fieldPlaceOf (P : Program) (fs : Array Field) (i : Nat) : Option (Nat × Nat) :=
  match fs[i]? with
  | some f => (tsize P.toTables f.type).map fun n => (f.offset, n)
  | none => none

def optEO : Option Operand → Option (Option EO)
  | none => some none
  | some x => (cEO x).map some

def cCall (P : Program) (c : Call) : Option EOp :=
  match c.callee with
  | .value _ => none
  | .invoke _ _ => none
  | .builtin b => match b, cEOs c.args.toList with
    | .len, some [x] => match (c.argTypes[0]?).bind P.underlying with
      | some .string => some (.len 0 x)
      | some (.slice _) => some (.len 1 x)
      | some (.map _ _) => some (.len 2 x)
      | some (.array n _) => some (.mv (.c (intN n)))
      | some (.pointer e) => match P.underlying e with
        | some (.array n _) => some (.mv (.c (intN n)))
        | _ => none
      | _ => none
    | .cap, some [x] => match (c.argTypes[0]?).bind P.underlying with
      | some (.slice _) => some (.cap x)
      | some (.array n _) => some (.mv (.c (intN n)))
      | _ => none
    | .append, some [x, y] => match (c.argTypes[0]?).bind P.underlying, (c.argTypes[1]?).bind P.underlying with
      | some (.slice e), some u => match tsize P.toTables e, tbytes P.toTables e, tzeros P.toTables e with
        | some es, some bytes, some z => if 1 ≤ es ∧ z.length = es then
            match u with
            | .int _ => none
            | .string => some (.app es bytes x y)
            | .slice _ => some (.app es bytes x y)
            | _ => none
          else none
        | _, _, _ => none
      | _, _ => none
    | .max, some xs => some (.mx xs)
    | .min, some xs => some (.mn xs)
    | _, _ => none

def cOp (P : Program) (o : Op) : Option EOp :=
  match o with
  | .move x => (cEO x).map .mv
  | .assign x => (cEO x).map .mv
  | .pick c a b => do some (.pick (← cEO c) (← cEO a) (← cEO b))
  | .alloc e => (tzeros P.toTables e).map .alloc
  | .box _ x => (cEO x).map .box
  | .build t parts => match P.underlying t, tzeros P.toTables t with
    | some (.struct fs), some zs => if fs.toList.all (fun f => (tsize P.toTables f.type).isSome) = true then (cPlaces P (fieldPlaceOf P fs) parts.toList).map (.build zs) else none
    | some (.array _ e), some zs => match tsize P.toTables e with
      | some n => (cPlaces P (fun i => some (i * n, n)) parts.toList).map (.build zs)
      | none => none
    | _, _ => none
  | .buildSlice t len parts => match P.underlying t with
    | some (.slice e) => match tsize P.toTables e, tzeros P.toTables e with
      | some n, some z => if 1 ≤ n ∧ z.length = n ∧ len * n ≤ 65536 then
          (cPlaces P (fun i => some (i * n, n)) parts.toList).map (.buildSl n len (repL len z))
        else none
      | _, _ => none
    | _ => none
  | .load t a => match tagg P t, tsize P.toTables t with
    | some true, some n => (cEO a).map (.ldn n)
    | some false, _ => (cEO a).map .ld1
    | _, _ => none
  | .store t a v => match tsize P.toTables t with
    | some n => do some (.st n (← cEO a) (← cEO v))
    | none => none
  | .nilCheck x => (cEO x).map .nilck
  | .binOp op t x y _ => do
    let x ← cEO x
    let y ← cEO y
    match op with
    | .eql => (eqKind P t).map fun k => .eq false k x y
    | .neq => (eqKind P t).map fun k => .eq true k x y
    | op => some (.bin op x y)
  | .unOp op _ x => (cEO x).map (.un op)
  | .convert s d x => match P.underlying s, P.underlying d with
    | some _, some (.int k) => (cEO x).map (.cvInt k)
    | some .string, some .string => (cEO x).map .cvStr
    | some .string, some (.slice e) => match P.underlying e with
      | some (.int .u8) => (cEO x).map .cvSB
      | _ => none
    | some (.slice e), some .string => match P.underlying e with
      | some (.int .u8) => (cEO x).map .cvBS
      | _ => none
    | _, _ => none
  | .makeInterface t x => match P.underlying t with
    | some (.interface _) => none
    | some _ => (cEO x).map (.ifc t)
    | none => none
  | .makeFunc (.func f) a b => do some (.mkFn f (← cEOs a.toList) (← cEOs b.toList))
  | .makeMap _ none => some .mkMap
  | .makeSlice t l c => match P.underlying t with
    | some (.slice e) => match tsize P.toTables e, tbytes P.toTables e, tzeros P.toTables e with
      | some es, some bytes, some z => if 1 ≤ es ∧ z.length = es then do some (.mkSl es bytes z (← cEO l) (← cEO c)) else none
      | _, _, _ => none
    | _ => none
  | .slice t x lo hi mx => do
    let x ← cEO x
    let lo ← optEO lo
    let hi ← optEO hi
    let mx ← optEO mx
    match P.underlying t with
    | some .string => match mx with
      | none => some (.slStr x lo hi)
      | some _ => none
    | some (.slice e) => (tsize P.toTables e).bind fun n => if 1 ≤ n then some (.slSl n x lo hi mx) else none
    | some (.array n e) => (tsize P.toTables e).bind fun m => if 1 ≤ m then some (.slArr n m x lo hi mx) else none
    | some (.pointer arr) => match P.underlying arr with
      | some (.array n e) => (tsize P.toTables e).bind fun m => if 1 ≤ m then some (.slArr n m x lo hi mx) else none
      | _ => none
    | _ => none
  | .fieldAddr t x i => match P.underlying t with
    | some (.struct fs) => match fs[i]? with
      | some f => match tsize P.toTables f.type with
        | some 0 => none
        | some _ => (cEO x).map (.fldA f.offset)
        | none => none
      | none => none
    | _ => none
  | .field t x i => match P.underlying t with
    | some (.struct fs) => match fs[i]? with
      | some f => match tagg P f.type, tsize P.toTables f.type with
        | some a, some n => (cEO x).map (.fld f.offset n a)
        | _, _ => none
      | none => none
    | _ => none
  | .indexAddr t x i => match P.underlying t with
    | some (.slice e) => do
      let n ← tsize P.toTables e
      some (.ixA n (← cEO x) (← cEO i))
    | some (.array len e) => do
      let n ← tsize P.toTables e
      some (.ixAA len n (← cEO x) (← cEO i))
    | _ => none
  | .index t x i => match P.underlying t with
    | some .string => do some (.ixS (← cEO x) (← cEO i))
    | some (.array len e) => match tagg P e, tsize P.toTables e with
      | some a, some n => do some (.ixV len n a (← cEO x) (← cEO i))
      | _, _ => none
    | _ => none
  | .lookup t x i ok => match P.underlying t with
    | some (.map k e) => match mapKind P k, tzero P.toTables e with
      | some q, some z => do some (.look q z ok (← cEO x) (← cEO i))
      | _, _ => none
    | _ => none
  | .mapUpdate t m k v => match P.underlying t with
    | some (.map kt _) => do some (.mset (← mapKind P kt) (← cEO m) (← cEO k) (← cEO v))
    | _ => none
  | .insert t m k v => match P.underlying t with
    | some (.map kt _) => do some (.mset (← mapKind P kt) (← cEO m) (← cEO k) (← cEO v))
    | _ => none
  | .mapEntry t m k => match P.underlying t with
    | some (.map kt e) => do some (.ment (← mapKind P kt) (← tzero P.toTables e) (← cEO m) (← cEO k))
    | _ => none
  | .entryStore _ m b v => do some (.mest (← cEO m) (← cEO b) (← cEO v))
  | .extract x i => (cEO x).map fun x => .ext x i
  | .call c => cCall P c
  | _ => none

def isCall : EOp → Bool
  | .call _ _ => true
  | _ => false

/-- A call of a function value. -/
def callee? : Op → Option (Operand × List Operand)
  | .call c => match c.callee with
    | .value f => some (f, c.args.toList)
    | _ => none
  | _ => none

def cOpB (P : Program) (o : Op) : EOp :=
  match callee? o with
  | some (f, l) => match cEO f with
    | some f => match cEOs l with
      | some l => .call f l
      | none => .bad
    | none => .bad
  | none => match cOp P o with
    | some e => match isCall e with
      | true => .bad
      | false => e
    | none => .bad

/-! ### Regions -/
inductive Cls where
  | pure | read | alloc | change
  deriving DecidableEq

def clsOf : EOp → Cls
  | .ld1 _ | .ldn _ _ | .look .. | .len _ _ | .cvBS _ => .read
  | .alloc _ | .box _ | .buildSl .. | .mkMap | .mkSl .. | .cvSB _ => .alloc
  | .st .. | .mset .. | .ment .. | .mest .. | .del .. | .call .. | .app .. | .appZ .. | .cpy .. | .bad => .change
  | _ => .pure

def isStore : EOp → Bool
  | .st .. => true
  | _ => false

def cOper (P : Program) (ops : Array Oper) (o : Oper) : EOper :=
  { dst := o.dst, guard := o.guard.map fun (j, b) => ((ops[j]?).bind (·.dst), b), op := cOpB P o.op }

def predsOf (o : Oper) : List Nat := (o.after.toList.filter (Region.binds .any ·)).map (·.on)

structure RI where
  i : Nat
  pre : Nat           -- who must come before: a set of bits
  o : EOper
  cls : Cls
  rd : List Nat       -- temporaries that it reads

def tmpsX : EO → List Nat
  | .t n => [n]
  | .c _ => []
def tmpsL : List EO → List Nat
  | [] => []
  | x :: l => tmpsX x ++ tmpsL l
def tmpsO : Option EO → List Nat
  | none => []
  | some x => tmpsX x
def tmpsP : List (Nat × Nat × EO) → List Nat
  | [] => []
  | (_, _, x) :: l => tmpsX x ++ tmpsP l

/-- The temporaries that an operation reads. -/
def tmpsE : EOp → List Nat
  | .bad => []
  | .mv x => tmpsX x
  | .pick c a b => tmpsX c ++ (tmpsX a ++ tmpsX b)
  | .alloc _ => []
  | .box x => tmpsX x
  | .build _ ps => tmpsP ps
  | .buildSl _ _ _ ps => tmpsP ps
  | .ld1 x => tmpsX x
  | .ldn _ x => tmpsX x
  | .st _ a v => tmpsX a ++ tmpsX v
  | .nilck x => tmpsX x
  | .bin _ x y => tmpsX x ++ tmpsX y
  | .eq _ _ x y => tmpsX x ++ tmpsX y
  | .un _ x => tmpsX x
  | .cvInt _ x => tmpsX x
  | .cvStr x => tmpsX x
  | .cvSB x => tmpsX x
  | .cvBS x => tmpsX x
  | .ifc _ x => tmpsX x
  | .mkFn _ a b => tmpsL a ++ tmpsL b
  | .mkMap => []
  | .mkSl _ _ _ l c => tmpsX l ++ tmpsX c
  | .slStr x lo hi => tmpsX x ++ (tmpsO lo ++ tmpsO hi)
  | .slSl _ x lo hi mx => tmpsX x ++ (tmpsO lo ++ (tmpsO hi ++ tmpsO mx))
  | .slArr _ _ x lo hi mx => tmpsX x ++ (tmpsO lo ++ (tmpsO hi ++ tmpsO mx))
  | .fldA _ x => tmpsX x
  | .fld _ _ _ x => tmpsX x
  | .ixA _ x i => tmpsX x ++ tmpsX i
  | .ixAA _ _ x i => tmpsX x ++ tmpsX i
  | .ixS x i => tmpsX x ++ tmpsX i
  | .ixV _ _ _ x i => tmpsX x ++ tmpsX i
  | .look _ _ _ x i => tmpsX x ++ tmpsX i
  | .mset _ m i v => tmpsX m ++ (tmpsX i ++ tmpsX v)
  | .ment _ _ m i => tmpsX m ++ tmpsX i
  | .mest m b v => tmpsX m ++ (tmpsX b ++ tmpsX v)
  | .ext x _ => tmpsX x
  | .call f a => tmpsX f ++ tmpsL a
  | .len _ x => tmpsX x
  | .cap x => tmpsX x
  | .app _ _ x y => tmpsX x ++ tmpsX y
  | .appZ _ _ _ x y => tmpsX x ++ tmpsX y
  | .cpy _ x y => tmpsX x ++ tmpsX y
  | .mx l => tmpsL l
  | .mn l => tmpsL l
  | .del _ m i => tmpsX m ++ tmpsX i

def tmpsOper (e : EOper) : List Nat := tmpsE e.op ++ (match e.guard with | some (some t, _) => [t] | _ => [])

def mkRI (P : Program) (ops : Array Oper) (i : Nat) (o : Oper) (pre : Nat) : RI :=
  { i, pre, o := cOper P ops o, cls := clsOf (cOper P ops o).op, rd := tmpsOper (cOper P ops o) }

/-- All that must come before, by the ones that stand already. -/
def preOf (done : List RI) : List Nat → Option Nat
  | [] => some 0
  | j :: l => match preOf done l, done.find? (fun r => r.i == j) with
    | some a, some r => some (a ||| (r.pre ||| (1 <<< j)))
    | _, _ => none

def bfr (j : Nat) (r : RI) : Bool := Nat.testBit r.pre j

/-- The first of what is left that is ready (all ahead of it done): of those that change nothing, else any. -/
def pickNext (P : Program) (ops : Array Oper) (done : List RI) (left : List (Nat × Oper)) : Option RI :=
  let ready := left.filterMap fun (i, o) => (preOf done (predsOf o)).map fun p => mkRI P ops i o p
  match ready.find? (fun r => r.cls != .change) with
  | some r => some r
  | none => ready.head?

def orderOf (P : Program) (ops : Array Oper) : Nat → List RI → List (Nat × Oper) → Option (List RI)
  | 0, done, [] => some done
  | 0, _, _ :: _ => none
  | n + 1, done, left => match left with
    | [] => some done
    | _ => match pickNext P ops done left with
      | some r => orderOf P ops n (done ++ [r]) (left.filter (·.1 != r.i))
      | none => none

def free (a b : RI) : Bool := !(bfr a.i b) && !(bfr b.i a)

def tmpsApart (a b : RI) : Bool :=
  (match a.o.dst with | some d => !(b.rd.contains d) && b.o.dst != some d | none => true) &&
  (match b.o.dst with | some d => !(a.rd.contains d) | none => true)

def allPairs (l : List RI) (f : RI → RI → Bool) : Bool := l.all fun a => l.all fun b => a.i == b.i || f a b

def noWrite (z y : RI) : Bool :=
  match y.o.dst with
  | some d => !(z.rd.contains d) && z.o.dst != some d
  | none => true

/-- The loads that stand ahead of a change and may come behind it. -/
def rcGo (done : List RI) : List RI → RI → Option (List EOper)
  | [], _ => some []
  | z :: l, r => match rcGo done l r with
    | none => none
    | some rc => match decide (z.cls = .read) && !(bfr z.i r) with
      | false => some rc
      | true => match (r :: done).all (fun y => y.i == z.i || (bfr y.i z || noWrite z y)) && (match z.o.dst with | some d => !(z.rd.contains d) | none => false) with
        | true => some (z.o :: rc)
        | false => none
def rcOf (done : List RI) (r : RI) : Option (List EOper) := rcGo done done r

/-- May two stores come either way round? -/
def pairOk (r y : RI) (rest : List RI) : Bool :=
  (isStore r.o.op && isStore y.o.op) && ((r.o.dst.isNone && y.o.dst.isNone) && ((r.o.guard.isNone && y.o.guard.isNone) &&
    rest.all (fun z => decide (z.cls = .pure) || (bfr z.i r == bfr z.i y && bfr r.i z == bfr y.i z))))

/-- All changes done come before it, whatever the order. -/
def behind (done : List RI) (r : RI) : Bool := done.all fun c => !decide (c.cls = .change) || bfr c.i r

/-- The steps of a region whose order is drawn; those done are in 'done'. -/
def stepsOf : List RI → List RI → Option (List EStep)
  | _, [] => some []
  | done, r :: l =>
    match r.cls with
    | .change => match behind done r with
      | false => none
      | true => match l with
        | [] => match rcOf done r with
          | some rc => some [.one r.o rc]
          | none => none
        | y :: l' => match decide (y.cls = .change) && !(bfr r.i y) with
          | true => match pairOk r y (done ++ l') && behind done y with
            | true => match rcOf done r, stepsOf (done ++ [r, y]) l' with
              | some rc, some st => some (.two r.o y.o rc :: st)
              | _, _ => none
            | false => none
          | false => match rcOf done r, stepsOf (done ++ [r]) (y :: l') with
            | some rc, some st => some (.one r.o rc :: st)
            | _, _ => none
    | .pure => match stepsOf (done ++ [r]) l with
      | some st => some (.one r.o [] :: st)
      | none => none
    | _ => match behind done r with
      | true => match stepsOf (done ++ [r]) l with
        | some st => some (.one r.o [] :: st)
        | none => none
      | false => none

def cRegion (P : Program) (ops : Array Oper) (draw : Bool) : ECode :=
  if draw then
    match orderOf P ops ops.size [] (ops.toList.zipIdx.map fun (o, i) => (i, o)) with
    | some l =>
      if allPairs l (fun a b => !(free a b) || tmpsApart a b) then
        match stepsOf [] l with
        | some s => .reg s
        | none => .bad
      else .bad
    | none => .bad
  else .reg (ops.toList.map fun o => EStep.one (cOper P ops o) [])

def cCode (P : Program) : Code → ECode
  | .skip => .skip
  | .region _ ops draw => cRegion P ops draw
  | .seq a b => .seq (cCode P a) (cCode P b)
  | .cond c x y => match cEO c with
    | some c => .cond c (cCode P x) (cCode P y)
    | none => .bad
  | .block id b => .block id (cCode P b)
  | .loop b => .loop (cCode P b)
  | .rangeFunc f ps asn body => match cEO f with
    | some f => .rangeF f ps.toList (cCode P asn) (cCode P body)
    | none => .bad
  | .exit id => .exit id
  | .ret => .ret
  | _ => .bad

def cRes (P : Program) : ResultVar → Option ERes
  | .tmp t => some (.tmp t)
  | .cell t ty => match tagg P ty, tsize P.toTables ty with
    | some a, some n => some (.cell t n a)
    | _, _ => none

def cResL (P : Program) : List ResultVar → Option (List ERes)
  | [] => some []
  | r :: l => match cRes P r, cResL P l with
    | some r, some l => some (r :: l)
    | _, _ => none

/-- Are all temporaries that code writes below N? -/
def dstS (N : Nat) : EStep → Bool
  | .one o _ => match o.dst with | some d => ltb d N | none => true
  | .two x y _ => (match x.dst with | some d => ltb d N | none => true) && (match y.dst with | some d => ltb d N | none => true)
def dstC (N : Nat) : ECode → Bool
  | .reg l => l.all (dstS N)
  | .seq a b => dstC N a && dstC N b
  | .cond _ a b => dstC N a && dstC N b
  | .block _ b => dstC N b
  | .loop b => dstC N b
  | .rangeF _ ps a b => ps.all (ltb · N) && (dstC N a && dstC N b)
  | _ => true

def cFunc (P : Program) (f : Func) : Option EFunc :=
  match f.body, cResL P f.results.toList with
  | some b, some r => match dstC f.ntmps (cCode P b) && (f.name != "runtime.NumGoroutine") with
    | true => some { ntmps := f.ntmps, body := cCode P b, res := r }
    | false => none
  | _, _ => none

end Go.Ab
end

noncomputable section
namespace Go.Ab

theorem ev_congr {T T' : Tr AV} {x : EO} (h : ∀ t, t ∈ tmpsX x → (EO.t t).ev T = (EO.t t).ev T') : x.ev T = x.ev T' := by
  cases x with
  | t n => exact h n (by simp [tmpsX])
  | c v => rfl

theorem evs_congr {T T' : Tr AV} : ∀ {l : List EO}, (∀ t, t ∈ tmpsL l → (EO.t t).ev T = (EO.t t).ev T') → evs T l = evs T' l
  | [], _ => rfl
  | x :: l, h => by
    simp only [evs]
    rw [ev_congr (fun t ht => h t (by simp [tmpsL, ht])), evs_congr (fun t ht => h t (by simp [tmpsL, ht]))]

theorem optEv_congr {T T' : Tr AV} {x : Option EO} (h : ∀ t, t ∈ tmpsO x → (EO.t t).ev T = (EO.t t).ev T') : optEv T x = optEv T' x := by
  cases x with
  | none => rfl
  | some x => simp only [optEv]; rw [ev_congr h]

theorem fillP_congr {T T' : Tr AV} : ∀ {ps : List (Nat × Nat × EO)} {cs : List AV}, (∀ t, t ∈ tmpsP ps → (EO.t t).ev T = (EO.t t).ev T') → fillP T cs ps = fillP T' cs ps
  | [], _, _ => rfl
  | (o, n, x) :: l, cs, h => by
    simp only [fillP]
    rw [ev_congr (x := x) (fun t ht => h t (by simp [tmpsP, ht]))]
    split
    · exact fillP_congr (fun t ht => h t (by simp [tmpsP, ht]))
    · rfl

theorem evOp_congr {E : Env} {cl : Oracle} {e : EOp} {T T' : Tr AV} {s : AS} (h : ∀ t, t ∈ tmpsE e → (EO.t t).ev T = (EO.t t).ev T') : evOp E cl e T s = evOp E cl e T' s := by
  cases e <;> simp only [tmpsE, List.mem_append] at h <;> simp only [evOp] <;> first
    | rfl
    | (rw [ev_congr (T := T) (T' := T') (fun t ht => h t ht)]; done)
    | (rw [evs_congr (T := T) (T' := T') (fun t ht => h t ht)]; done)
    | (rw [fillP_congr (T := T) (T' := T') (fun t ht => h t ht)]; done)
    | (rename_i x y; rw [ev_congr (x := x) (fun t ht => h t (.inl ht)), ev_congr (x := y) (fun t ht => h t (.inr ht))]; done)
    | (rename_i x y; rw [evs_congr (l := x) (fun t ht => h t (.inl ht)), evs_congr (l := y) (fun t ht => h t (.inr ht))]; done)
    | (rename_i x y; rw [ev_congr (x := x) (fun t ht => h t (.inl ht)), evs_congr (l := y) (fun t ht => h t (.inr ht))]; done)
    | (rename_i x y z; rw [ev_congr (x := x) (fun t ht => h t (.inl ht)), ev_congr (x := y) (fun t ht => h t (.inr (.inl ht))), ev_congr (x := z) (fun t ht => h t (.inr (.inr ht)))]; done)
    | (rename_i x y z; rw [ev_congr (x := x) (fun t ht => h t (.inl ht)), optEv_congr (x := y) (fun t ht => h t (.inr (.inl ht))), optEv_congr (x := z) (fun t ht => h t (.inr (.inr ht)))]; done)
    | (rename_i x y z u; rw [ev_congr (x := x) (fun t ht => h t (.inl ht)), optEv_congr (x := y) (fun t ht => h t (.inr (.inl ht))), optEv_congr (x := z) (fun t ht => h t (.inr (.inr (.inl ht)))), optEv_congr (x := u) (fun t ht => h t (.inr (.inr (.inr ht))))]; done)

theorem evOper_congr {E : Env} {cl : Oracle} {o : EOper} {T T' : Tr AV} {s : AS} (h : ∀ t, t ∈ tmpsOper o → (EO.t t).ev T = (EO.t t).ev T') : evOper E cl o T s = evOper E cl o T' s := by
  have h1 : wantedE T o.guard = wantedE T' o.guard := by
    unfold wantedE
    split
    · rfl
    · rfl
    · rename_i t b hg
      rw [h t (by simp [tmpsOper, hg])]
  unfold evOper
  rw [h1, evOp_congr (T := T) (T' := T') (fun t ht => h t (by simp [tmpsOper, ht]))]

/-- What changes nothing and looks at no memory. -/
theorem evOp_pure {E : Env} {cl : Oracle} {e : EOp} {T : Tr AV} {s s₁ : AS} {v : AV} (hc : clsOf e = .pure) (h : evOp E cl e T s = some (v, s₁)) : s₁ = s ∧ ∀ s₂, evOp E cl e T s₂ = some (v, s₂) := by
  cases e <;> simp only [clsOf] at hc <;> first
    | (cases hc; done)
    | (simp only [evOp, some2] at h ⊢
       (repeat' split at h) <;> first
         | (cases h; done)
         | (cases h; refine ⟨rfl, fun s₂ => ?_⟩; simp_all))

/-- More memory. -/
structure AExt (s t : AS) : Prop where
  arr : ∀ a A, s.arrs.get a = some A → t.arrs.get a = some A
  map : ∀ m M, s.maps.get m = some M → t.maps.get m = some M

theorem AExt.refl (s : AS) : AExt s s := ⟨fun _ _ h => h, fun _ _ h => h⟩
theorem AExt.trans {a b c : AS} (h : AExt a b) (k : AExt b c) : AExt a c := ⟨fun x A e => k.arr x A (h.arr x A e), fun x A e => k.map x A (h.map x A e)⟩

theorem AExt.rd {s t : AS} (h : AExt s t) {a j i : Nat} {v : AV} (hr : s.rd a j i = some v) : t.rd a j i = some v := by
  unfold AS.rd at hr ⊢
  split at hr
  · rename_i A hA; rw [h.arr _ _ hA]; exact hr
  · cases hr
theorem AExt.rdN {s t : AS} (h : AExt s t) {a j i n : Nat} {v : List AV} (hr : s.rdN a j i n = some v) : t.rdN a j i n = some v := by
  unfold AS.rdN at hr ⊢
  split at hr
  · rename_i A hA; rw [h.arr _ _ hA]; exact hr
  · cases hr
theorem AExt.len {s t : AS} (h : AExt s t) {v : AV} {n : Nat} (hr : lenAV s v = some n) : lenAV t v = some n := by
  unfold lenAV at hr ⊢
  split at hr <;> try exact hr
  split at hr
  · rename_i M hM; simp only [h.map _ _ hM]; exact hr
  · cases hr

/-- A load: what it gives it gives with more memory, too. -/
theorem evOp_read {E : Env} {cl : Oracle} {e : EOp} {T : Tr AV} {s s₁ : AS} {v : AV} (hc : clsOf e = .read) (h : evOp E cl e T s = some (v, s₁)) :
    s₁ = s ∧ ∀ s₂, AExt s s₂ → evOp E cl e T s₂ = some (v, s₂) := by
  cases e <;> simp only [clsOf] at hc <;> try (cases hc; done)
  · simp only [evOp] at h ⊢
    split at h
    · simp only [some2] at h
      split at h
      · rename_i hv; cases h
        exact ⟨rfl, fun s₂ hs => by rw [hs.rd hv]; rfl⟩
      · cases h
    · cases h
  · simp only [evOp] at h ⊢
    split at h
    · split at h
      · rename_i hv; cases h
        exact ⟨rfl, fun s₂ hs => by rw [hs.rdN hv]⟩
      · cases h
    · cases h
  · simp only [evOp] at h ⊢
    split at h
    · cases h; exact ⟨rfl, fun _ _ => rfl⟩
    · cases h; exact ⟨rfl, fun _ _ => rfl⟩
    · split at h
      · cases h; rename_i hz; exact ⟨rfl, fun _ _ => by simp [hz]⟩
      · rename_i hz
        split at h
        · rename_i hv
          split at h
          · rename_i hb; cases h
            exact ⟨rfl, fun s₂ hs => by rw [hs.rdN hv]; simp [hz, hb]⟩
          · cases h
        · cases h
    · cases h
  · rename_i k z ok x i
    simp only [evOp] at h ⊢
    have key : ∀ r, lookOf E k s (x.ev T) (i.ev T) = some r → ∀ s₂, AExt s s₂ → lookOf E k s₂ (x.ev T) (i.ev T) = some r := by
      intro r hr s₂ hs
      unfold lookOf at hr ⊢
      split at hr
      · exact hr
      · split at hr
        · rename_i M hM; simp only [hs.map _ _ hM]; exact hr
        · cases hr
      · cases hr
    split at h
    · rename_i hr; cases h
      exact ⟨rfl, fun s₂ hs => by rw [key _ hr s₂ hs]⟩
    · rename_i hr; cases h
      exact ⟨rfl, fun s₂ hs => by rw [key _ hr s₂ hs]⟩
    · cases h
  · simp only [evOp] at h ⊢
    split at h
    · split at h
      · rename_i hn; cases h
        exact ⟨rfl, fun s₂ hs => by rw [hs.len hn]⟩
      · cases h
    · cases h

/-- All ids below the counters. -/
structure AS.wf (s : AS) : Prop where
  arr : ∀ a, s.na ≤ a → s.arrs.get a = none
  map : ∀ m, s.nm ≤ m → s.maps.get m = none

/-- One array more, or one map more, or nothing. -/
def OneMore (s t : AS) : Prop :=
  t = s ∨ (∃ A, t = { s with arrs := s.arrs.set s.na A, na := s.na + 1 }) ∨ (∃ M, t = { s with maps := s.maps.set s.nm M, nm := s.nm + 1 })

theorem evOp_alloc {E : Env} {cl : Oracle} {e : EOp} {T : Tr AV} {s s₁ : AS} {v : AV} (hc : clsOf e = .alloc) (h : evOp E cl e T s = some (v, s₁)) : OneMore s s₁ := by
  cases e <;> simp only [clsOf] at hc <;> try (cases hc; done)
  all_goals
    simp only [evOp, AS.newZ, AS.new, freshSl] at h
    (repeat' split at h) <;> first
      | (cases h; done)
      | (cases h; exact .inr (.inl ⟨_, rfl⟩))
      | (cases h; exact .inr (.inr ⟨_, rfl⟩))
      | (rename_i heq; cases heq; cases h; exact .inr (.inl ⟨_, rfl⟩))
      | (rename_i heq _; cases heq; cases h; exact .inr (.inl ⟨_, rfl⟩))

end Go.Ab
end

noncomputable section
namespace Go.Ab

/-- A row of operations, each behind all that it waits for. -/
def GoodL (P : Program) (ops : Array Oper) (L : List RI) : Prop :=
  ∀ A r B, L = A ++ r :: B → ∃ o p, ops[r.i]? = some o ∧ preOf A (predsOf o) = some p ∧ r = mkRI P ops r.i o p ∧ ∀ a, a ∈ A → a.i ≠ r.i

theorem GoodL.nil (P : Program) (ops : Array Oper) : GoodL P ops [] := fun A r B h => by simp at h

theorem GoodL.snoc {P : Program} {ops : Array Oper} {L : List RI} {r : RI} {o : Oper} {p : Nat} (h : GoodL P ops L) (ho : ops[r.i]? = some o) (hp : preOf L (predsOf o) = some p) (hr : r = mkRI P ops r.i o p)
    (hn : ∀ a, a ∈ L → a.i ≠ r.i) : GoodL P ops (L ++ [r]) := by
  intro A r' B e
  rcases List.append_eq_append_iff.1 e with ⟨X, h1, h2⟩ | ⟨X, h1, h2⟩
  · cases X with
    | nil =>
      simp at h2 h1
      obtain ⟨rfl, rfl⟩ := h2
      subst h1
      exact ⟨o, p, ho, hp, hr, hn⟩
    | cons x X => simp at h2
  · cases X with
    | nil =>
      simp at h1 h2
      obtain ⟨rfl, rfl⟩ := h2
      subst h1
      exact ⟨o, p, ho, hp, hr, hn⟩
    | cons x X =>
      simp at h2
      obtain ⟨rfl, rfl⟩ := h2
      exact h A r' X h1

theorem pick_mem {P : Program} {ops : Array Oper} {done : List RI} {left : List (Nat × Oper)} {r : RI} (h : pickNext P ops done left = some r) :
    ∃ o p, (r.i, o) ∈ left ∧ preOf done (predsOf o) = some p ∧ r = mkRI P ops r.i o p := by
  have key : r ∈ left.filterMap fun (i, o) => (preOf done (predsOf o)).map fun p => mkRI P ops i o p := by
    unfold pickNext at h
    simp only at h
    split at h
    · rename_i q hq; cases h; exact List.mem_of_find?_eq_some hq
    · exact List.mem_of_head? h
  rw [List.mem_filterMap] at key
  obtain ⟨⟨i, o⟩, h1, h2⟩ := key
  simp only at h2
  cases hp : preOf done (predsOf o) with
  | none => simp [hp] at h2
  | some p =>
    simp [hp] at h2
    subst h2
    exact ⟨o, p, h1, hp, rfl⟩

theorem order_good {P : Program} {ops : Array Oper} : ∀ (n : Nat) (done : List RI) (left : List (Nat × Oper)) (L : List RI), orderOf P ops n done left = some L → GoodL P ops done →
    (∀ x, x ∈ left → ops[x.1]? = some x.2 ∧ ∀ a, a ∈ done → a.i ≠ x.1) → (∀ i, i < ops.size → (∃ r, r ∈ done ∧ r.i = i) ∨ ∃ o, (i, o) ∈ left) →
    GoodL P ops L ∧ ∀ i, i < ops.size → ∃ r, r ∈ L ∧ r.i = i := by
  intro n
  induction n with
  | zero =>
    intro done left L h hg hl hc
    cases left with
    | nil =>
      simp [orderOf] at h; subst h
      refine ⟨hg, fun i hi => ?_⟩
      rcases hc i hi with h | ⟨o, h⟩
      · exact h
      · simp at h
    | cons x l => simp [orderOf] at h
  | succ n ih =>
    intro done left L h hg hl hc
    simp only [orderOf] at h
    split at h
    · cases h
      refine ⟨hg, fun i hi => ?_⟩
      rcases hc i hi with h | ⟨o, h⟩
      · exact h
      · simp at h
    · split at h
      · rename_i r hr
        obtain ⟨o, p, h1, h2, h3⟩ := pick_mem hr
        obtain ⟨h4, h5⟩ := hl _ h1
        refine ih _ _ L h (hg.snoc h4 h2 h3 h5) ?_ ?_
        · intro x hx
          rw [List.mem_filter] at hx
          obtain ⟨hx1, hx2⟩ := hx
          obtain ⟨h6, h7⟩ := hl x hx1
          refine ⟨h6, fun a ha => ?_⟩
          rcases List.mem_append.1 ha with ha | ha
          · exact h7 a ha
          · simp at ha; subst ha
            simp at hx2
            exact fun e => hx2 e.symm
        · intro i hi
          rcases hc i hi with ⟨r', hr', e⟩ | ⟨o', ho'⟩
          · exact .inl ⟨r', List.mem_append_left _ hr', e⟩
          · by_cases he : i = r.i
            · exact .inl ⟨r, by simp, he.symm⟩
            · exact .inr ⟨o', by rw [List.mem_filter]; exact ⟨ho', by simpa using he⟩⟩
      · cases h

theorem preOf_bit {done : List RI} : ∀ {l : List Nat} {p j : Nat}, preOf done l = some p → Nat.testBit p j = true → ∃ k r, k ∈ l ∧ r ∈ done ∧ r.i = k ∧ (j = k ∨ Nat.testBit r.pre j = true)
  | [], p, j, h, hj => by simp [preOf] at h; subst h; simp at hj
  | k :: l, p, j, h, hj => by
    simp only [preOf] at h
    split at h
    · rename_i a r ha hr
      cases h
      have h1 := List.mem_of_find?_eq_some hr
      have h2 := List.find?_some hr
      simp at h2
      simp only [Nat.testBit_or, Bool.or_eq_true] at hj
      rcases hj with hj | hj | hj
      · obtain ⟨k', r', m1, m2, m3, m4⟩ := preOf_bit ha hj
        exact ⟨k', r', List.mem_cons_of_mem _ m1, m2, m3, m4⟩
      · exact ⟨k, r, List.mem_cons_self .., h1, h2, .inr hj⟩
      · refine ⟨k, r, List.mem_cons_self .., h1, h2, .inl ?_⟩
        rw [Nat.shiftLeft_eq, Nat.one_mul, Nat.testBit_two_pow] at hj
        simp at hj; exact hj.symm
    · cases h

/-- Who comes before an operation stands ahead of it in a good row. -/
theorem GoodL.ahead {P : Program} {ops : Array Oper} {L : List RI} (h : GoodL P ops L) : ∀ (n : Nat) (A : List RI) (r : RI) (B : List RI), A.length = n → L = A ++ r :: B → ∀ j, bfr j r = true → ∃ q, q ∈ A ∧ q.i = j := by
  intro n
  induction n using Nat.strongRecOn with
  | _ n ih =>
    intro A r B hn e j hj
    obtain ⟨o, p, h1, h2, h3, h4⟩ := h A r B e
    have hpre : r.pre = p := by rw [h3]; rfl
    unfold bfr at hj
    rw [hpre] at hj
    obtain ⟨k, q, m1, m2, m3, m4⟩ := preOf_bit h2 hj
    rcases m4 with rfl | m4
    · exact ⟨q, m2, m3⟩
    · obtain ⟨A₁, A₂, rfl⟩ := List.append_of_mem m2
      obtain ⟨q', hq1, hq2⟩ := ih A₁.length (by simp at hn; omega) A₁ q (A₂ ++ r :: B) rfl (by simp [e]) j m4
      exact ⟨q', by simp [hq1], hq2⟩

/-- A set of operations that holds with each what it waits for. -/
def Closed (ops : Array Oper) (D : Nat → Prop) : Prop := ∀ i, D i → ∀ o, ops[i]? = some o → ∀ j, j ∈ predsOf o → D j

theorem GoodL.closed {P : Program} {ops : Array Oper} {L : List RI} (h : GoodL P ops L) {D : Nat → Prop} (hD : Closed ops D) : ∀ (n : Nat) (A : List RI) (r : RI) (B : List RI), A.length = n → L = A ++ r :: B → D r.i → ∀ j, bfr j r = true → D j := by
  intro n
  induction n using Nat.strongRecOn with
  | _ n ih =>
    intro A r B hn e hr j hj
    obtain ⟨o, p, h1, h2, h3, h4⟩ := h A r B e
    have hpre : r.pre = p := by rw [h3]; rfl
    unfold bfr at hj
    rw [hpre] at hj
    obtain ⟨k, q, m1, m2, m3, m4⟩ := preOf_bit h2 hj
    have hk : D k := hD _ hr o h1 k m1
    rcases m4 with rfl | m4
    · exact hk
    · obtain ⟨A₁, A₂, rfl⟩ := List.append_of_mem m2
      exact ih A₁.length (by simp at hn; omega) A₁ q (A₂ ++ r :: B) rfl (by simp [e]) (m3 ▸ hk) j m4

theorem preOf_mem {done : List RI} : ∀ {l : List Nat} {p : Nat}, preOf done l = some p → ∀ k, k ∈ l → ∃ r, r ∈ done ∧ r.i = k
  | [], _, _, k, hk => by simp at hk
  | j :: l, p, h, k, hk => by
    simp only [preOf] at h
    split at h
    · rename_i a r ha hr
      rcases List.mem_cons.1 hk with rfl | hk
      · have h1 := List.mem_of_find?_eq_some hr
        have h2 := List.find?_some hr
        simp at h2
        exact ⟨r, h1, h2⟩
      · exact preOf_mem ha k hk
    · cases h

/-- A row in which each comes behind all that it waits for, and all come. -/
inductive LinP (ops : Array Oper) : List Nat → List Nat → Prop where
  | nil {D : List Nat} (h : ∀ i, i < ops.size → i ∈ D) : LinP ops D []
  | cons {D : List Nat} {i : Nat} {l : List Nat} {o : Oper} (ho : ops[i]? = some o) (hn : i ∉ D) (hp : ∀ j, j ∈ predsOf o → j ∈ D) (h : LinP ops (i :: D) l) : LinP ops D (i :: l)

theorem exists_first (p : RI → Bool) : ∀ {L : List RI} {r : RI}, r ∈ L → p r = true → ∃ A x B, L = A ++ x :: B ∧ p x = true ∧ ∀ a, a ∈ A → p a = false
  | [], r, h, _ => by simp at h
  | y :: L, r, h, hr => by
    by_cases hy : p y = true
    · exact ⟨[], y, L, rfl, hy, by simp⟩
    · rcases List.mem_cons.1 h with rfl | h
      · exact absurd hr hy
      · obtain ⟨A, x, B, h1, h2, h3⟩ := exists_first p h hr
        refine ⟨y :: A, x, B, by rw [h1]; rfl, h2, fun a ha => ?_⟩
        rcases List.mem_cons.1 ha with rfl | ha
        · simpa using hy
        · exact h3 a ha

theorem lin_go {P : Program} {ops : Array Oper} {L : List RI} (hL : GoodL P ops L) (hc : ∀ i, i < ops.size → ∃ r, r ∈ L ∧ r.i = i) :
    ∀ (fuel t : Nat) (listed : Array Bool) (D : List Nat), listed.size = ops.size → (∀ i, i < ops.size → (listed.getD i true = true ↔ i ∈ D)) → (∀ i, i < ops.size → (listed.getD i false = true ↔ i ∈ D)) →
      (∀ i, i ∈ D → i < ops.size) → ((List.range ops.size).filter fun i => !decide (i ∈ D)).length ≤ fuel → LinP ops D (Region.linearise.go .any ops fuel t listed []) := by
  intro fuel
  induction fuel with
  | zero =>
    intro t listed D _ _ _ _ hf
    simp only [Region.linearise.go, List.reverse_nil]
    refine .nil fun i hi => ?_
    have h0 := List.eq_nil_of_length_eq_zero (Nat.le_zero.1 hf)
    rw [List.filter_eq_nil_iff] at h0
    have := h0 i (List.mem_range.2 hi)
    simpa using this
  | succ fuel ih =>
    intro t listed D hs h1 h2 hD hf
    simp only [Region.linearise.go]
    change LinP ops D (match (Region.ready .any ops listed)[t % (Region.ready .any ops listed).length]? with
      | some i => Region.linearise.go .any ops fuel (t / (Region.ready .any ops listed).length) (listed.setIfInBounds i true) [i]
      | none => [].reverse)
    split
    · rename_i i hi
      have hm := List.mem_of_getElem? hi
      rw [linearise_go_acc]
      simp only [Region.ready, List.mem_filter, List.mem_range, Bool.and_eq_true, Bool.not_eq_true'] at hm
      obtain ⟨hm1, hm2, hm3⟩ := hm
      have hiD : i ∉ D := fun h => by rw [(h1 i hm1).2 h] at hm2; cases hm2
      cases ho : ops[i]? with
      | none => simp [ho] at hm3
      | some o =>
        simp only [ho, Option.map_some, Option.getD_some, Array.all_eq_true] at hm3
        refine LinP.cons ho hiD ?_ ?_
        · intro j hj
          simp only [predsOf, List.mem_map, List.mem_filter] at hj
          obtain ⟨e, ⟨he1, he2⟩, rfl⟩ := hj
          obtain ⟨k, hk, rfl⟩ := Array.getElem_of_mem (Array.mem_toList_iff.1 he1)
          have := hm3 k hk
          rw [he2] at this
          simp only [Bool.not_true, Bool.false_or] at this
          have hlt : (o.after[k]).on < ops.size := by
            rcases Nat.lt_or_ge (o.after[k]).on ops.size with h | h
            · exact h
            · rw [Array.getD_eq_getD_getElem?, Array.getElem?_eq_none (by omega)] at this; simp at this
          exact (h2 _ hlt).1 this
        · have hget : ∀ (d : Bool) j, j < ops.size → ((listed.setIfInBounds i true).getD j d = true ↔ (j = i ∨ listed.getD j d = true)) := by
            intro d j hj
            simp only [Array.getD_eq_getD_getElem?]
            by_cases hji : j = i
            · subst hji
              rw [Array.getElem?_setIfInBounds_self]; simp [hs, hj]
            · rw [Array.getElem?_setIfInBounds_ne (fun h => hji h.symm)]; simp [hji]
          refine ih _ _ (i :: D) (by simp [hs]) ?_ ?_ ?_ ?_
          · intro j hj; rw [hget true j hj, h1 j hj]; simp
          · intro j hj; rw [hget false j hj, h2 j hj]; simp
          · intro j hj
            rcases List.mem_cons.1 hj with rfl | hj
            · exact hm1
            · exact hD j hj
          · have hlt : ((List.range ops.size).filter fun j => !decide (j ∈ i :: D)).length < ((List.range ops.size).filter fun j => !decide (j ∈ D)).length := by
              have e : ((List.range ops.size).filter fun j => !decide (j ∈ i :: D)) = (((List.range ops.size).filter fun j => !decide (j ∈ D)).filter fun j => !decide (j = i)) := by
                rw [List.filter_filter]
                apply List.filter_congr
                intro x _
                simp
              rw [e]
              refine List.length_filter_lt_length_iff_exists.2 ⟨i, ?_, by simp⟩
              rw [List.mem_filter]; exact ⟨List.mem_range.2 hm1, by simpa using hiD⟩
            omega
    · rename_i hnone
      have hnil : Region.ready .any ops listed = [] := by
        cases hr : Region.ready .any ops listed with
        | nil => rfl
        | cons x xs =>
          rw [hr] at hnone
          have hlt : t % (x :: xs).length < (x :: xs).length := Nat.mod_lt _ (by simp)
          simp at hnone
          simp at hlt
          omega
      refine .nil fun i hi => ?_
      refine Classical.byContradiction fun hiD => ?_
      obtain ⟨r, hr1, hr2⟩ := hc i hi
      obtain ⟨A, x, B, e1, e2, e3⟩ := exists_first (fun q => !decide (q.i ∈ D)) hr1 (by simpa [hr2] using hiD)
      obtain ⟨o, p, k1, k2, k3, k4⟩ := hL A x B e1
      have hx : x.i ∉ D := by simpa using e2
      have hxlt : x.i < ops.size := by
        rcases Nat.lt_or_ge x.i ops.size with h | h
        · exact h
        · rw [Array.getElem?_eq_none h] at k1; cases k1
      have hmem : x.i ∈ Region.ready .any ops listed := by
        simp only [Region.ready, List.mem_filter, List.mem_range, Bool.and_eq_true, Bool.not_eq_true']
        refine ⟨hxlt, ?_, ?_⟩
        · cases hb : listed.getD x.i true with
          | false => rfl
          | true => exact absurd ((h1 _ hxlt).1 hb) hx
        · simp only [k1, Option.map_some, Option.getD_some, Array.all_eq_true]
          intro k hk
          by_cases hb : Region.binds .any (o.after[k]) = true
          · have hpm : (o.after[k]).on ∈ predsOf o := by
              simp only [predsOf, List.mem_map, List.mem_filter]
              exact ⟨_, ⟨by simp, hb⟩, rfl⟩
            obtain ⟨a, ha1, ha2⟩ := preOf_mem k2 _ hpm
            have haD := e3 a ha1
            simp at haD
            rw [ha2] at haD
            simp [(h2 _ (hD _ haD)).2 haD]
          · simp at hb; simp [hb]
      rw [hnil] at hmem; simp at hmem

theorem lin_schedule {P : Program} {ops : Array Oper} {L : List RI} (hL : GoodL P ops L) (hc : ∀ i, i < ops.size → ∃ r, r ∈ L ∧ r.i = i) (t : Nat) : LinP ops [] (Region.schedule true ops t) := by
  simp only [Region.schedule, Bool.true_or, if_true, Region.linearise]
  refine lin_go hL hc _ _ _ [] (by simp) ?_ ?_ (by simp) ?_
  · intro i hi; simp [Array.getD, hi]
  · intro i hi; simp [Array.getD, hi]
  · exact Nat.le_trans (List.length_filter_le _ _) (by simp)

end Go.Ab
end
