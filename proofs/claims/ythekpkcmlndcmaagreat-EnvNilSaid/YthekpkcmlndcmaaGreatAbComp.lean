/- The compilation of the model's code into the abstract evaluator's. Definitions alone. -/
import Derived.Test.YthekpkcmlndcmaaGreatAbDefs
import GoSem.Core.Region
import GoSem.Core.Layout
noncomputable section
namespace Go.Ab

def ofLeaf : Value → Option AV
  | .bool b => some (.bool b)
  | .int k n => some (.int k n)
  | .string s => some (.str s)
  | .pointer none => some .nilp
  | .slice none 0 0 => some .nils
  | .map none => some .nilm
  | .nilFunc => some .nilf
  | .nilIface => some .nili
  | _ => none

def ofLeaves : List Value → Option (List AV)
  | [] => some []
  | v :: l => match ofLeaf v with
    | some a => match ofLeaves l with
      | some r => some (a :: r)
      | none => none
    | none => none

def ofV : Value → Option AV
  | .agg cs => (ofLeaves cs.toList).map .agg
  | .tuple cs => match cs.toList with
    | [] => some .undef
    | _ => none
  | v => ofLeaf v

def cEO : Operand → Option EO
  | .tmp t => some (.t t)
  | .const v => (ofV v).map .c
  | .func f => some (.c (.fn f [] []))
  | .global _ => none

def cEOs : List Operand → Option (List EO)
  | [] => some []
  | x :: l => match cEO x with
    | some a => match cEOs l with
      | some r => some (a :: r)
      | none => none
    | none => none

def tsize (P : Tables) (t : TypeId) : Option Nat := (P.info? t).map (·.size)
def tbytes (P : Tables) (t : TypeId) : Option Nat := (P.info? t).map (·.bytes)
def tzero (P : Tables) (t : TypeId) : Option AV := ((P.info? t).bind (·.zero)).bind ofV
def tzeros (P : Tables) (t : TypeId) : Option (List AV) := (tzero P t).map cellsOf

def tagg (P : Program) (t : TypeId) : Option Bool :=
  match P.underlying t with
  | some (.struct _) => some true
  | some (.array _ _) => some true
  | some _ => some false
  | none => none

/-- The kinds of the cells of a value that is held against another one cell by cell. -/
def flat (P : Program) : Nat → TypeId → Option (List LK)
  | 0, _ => none
  | d + 1, t => match P.underlying t with
    | some .bool => some [.b]
    | some (.int _) => some [.i]
    | some .string => some [.s]
    | some (.struct fs) => if P.stoodInHeld t = false then flatFs (flat P d) fs.toList 0 else none
    | some (.array n e) => match flat P d e with
      | some ks => if tsize P.toTables e = some ks.length ∧ tagg P e = some false ∧ ks.length = 1 then some (repK n ks) else none
      | none => none
    | _ => none
where
  flatFs (f : TypeId → Option (List LK)) : List Field → Nat → Option (List LK)
    | [], _ => some []
    | x :: l, k => match f x.type, tsize P.toTables x.type, tagg P x.type with
      | some ks, some n, some g => if x.offset = k ∧ x.name ≠ "_" ∧ n = ks.length ∧ (g = true ∨ n = 1) then
          match flatFs f l (k + n) with
          | some r => some (ks ++ r)
          | none => none
        else none
      | _, _, _ => none
  repK : Nat → List LK → List LK
    | 0, _ => []
    | n + 1, ks => ks ++ repK n ks

def eqKind (P : Program) (t : TypeId) : Option EqK :=
  match P.underlying t with
  | some .bool => some (.leaf .b)
  | some (.int _) => some (.leaf .i)
  | some .string => some (.leaf .s)
  | some (.pointer e) => match tsize P.toTables e with
    | some 0 => none
    | some _ => some .ptr
    | none => none
  | some (.slice _) => some .sl
  | some (.map _ _) => some .mp
  | some (.func _ _ _) => some .fn
  | some (.interface _) => some .ifc
  | some (.struct _) => match P.eqGuardType P.depth t with
    | false => (flat P 8 t).map .flat
    | true => none
  | some (.array _ _) => match P.eqGuardType P.depth t with
    | false => (flat P 8 t).map .flat
    | true => none
  | _ => none

/-- How a map's keys are held against one another. -/
def mapKind (P : Program) (t : TypeId) : Option EqK :=
  match eqKind P t with
  | some (.leaf k) => some (.leaf k)
  | _ => none

def cPlaces (P : Program) (place : Nat → Option (Nat × Nat)) : List (Nat × Operand) → Option (List (Nat × Nat × EO))
  | [] => some []
  | (i, x) :: l => match place i, cEO x, cPlaces P place l with
    | some (o, n), some x, some r => some ((o, n, x) :: r)
    | _, _, _ => none

def fieldPlaceOf (P : Program) (fs : Array Field) (i : Nat) : Option (Nat × Nat) :=
  match fs[i]? with
  | some f => (tsize P.toTables f.type).map fun n => (f.offset, n)
  | none => none

def optEO : Option Operand → Option (Option EO)
  | none => some none
  | some x => (cEO x).map some

def cCall (P : Program) (c : Call) : Option EOp :=
  match c.callee with
  | .value _ => none
  | .invoke _ _ => none
  | .builtin b => match b, cEOs c.args.toList with
    | .len, some [x] => match (c.argTypes[0]?).bind P.underlying with
      | some .string => some (.len 0 x)
      | some (.slice _) => some (.len 1 x)
      | some (.map _ _) => some (.len 2 x)
      | some (.array n _) => some (.mv (.c (intN n)))
      | some (.pointer e) => match P.underlying e with
        | some (.array n _) => some (.mv (.c (intN n)))
        | _ => none
      | _ => none
    | .cap, some [x] => match (c.argTypes[0]?).bind P.underlying with
      | some (.slice _) => some (.cap x)
      | some (.array n _) => some (.mv (.c (intN n)))
      | _ => none
    | .append, some [x, y] => match (c.argTypes[0]?).bind P.underlying, (c.argTypes[1]?).bind P.underlying with
      | some (.slice e), some u => match tsize P.toTables e, tbytes P.toTables e, tzeros P.toTables e with
        | some es, some bytes, some z => if 1 ≤ es ∧ z.length = es then
            match u with
            | .int _ => none
            | .string => some (.app es bytes x y)
            | .slice _ => some (.app es bytes x y)
            | _ => none
          else none
        | _, _, _ => none
      | _, _ => none
    | .max, some xs => some (.mx xs)
    | .min, some xs => some (.mn xs)
    | _, _ => none

def cOp (P : Program) (o : Op) : Option EOp :=
  match o with
  | .move x => (cEO x).map .mv
  | .assign x => (cEO x).map .mv
  | .pick c a b => do some (.pick (← cEO c) (← cEO a) (← cEO b))
  | .alloc e => (tzeros P.toTables e).map .alloc
  | .box _ x => (cEO x).map .box
  | .build t parts => match P.underlying t, tzeros P.toTables t with
    | some (.struct fs), some zs => if fs.toList.all (fun f => (tsize P.toTables f.type).isSome) = true then (cPlaces P (fieldPlaceOf P fs) parts.toList).map (.build zs) else none
    | some (.array _ e), some zs => match tsize P.toTables e with
      | some n => (cPlaces P (fun i => some (i * n, n)) parts.toList).map (.build zs)
      | none => none
    | _, _ => none
  | .buildSlice t len parts => match P.underlying t with
    | some (.slice e) => match tsize P.toTables e, tzeros P.toTables e with
      | some n, some z => if 1 ≤ n ∧ z.length = n ∧ len * n ≤ 65536 then
          (cPlaces P (fun i => some (i * n, n)) parts.toList).map (.buildSl n len (repL len z))
        else none
      | _, _ => none
    | _ => none
  | .load t a => match tagg P t, tsize P.toTables t with
    | some true, some n => (cEO a).map (.ldn n)
    | some false, _ => (cEO a).map .ld1
    | _, _ => none
  | .store t a v => match tsize P.toTables t with
    | some n => do some (.st n (← cEO a) (← cEO v))
    | none => none
  | .nilCheck x => (cEO x).map .nilck
  | .binOp op t x y _ => do
    let x ← cEO x
    let y ← cEO y
    match op with
    | .eql => (eqKind P t).map fun k => .eq false k x y
    | .neq => (eqKind P t).map fun k => .eq true k x y
    | op => some (.bin op x y)
  | .unOp op _ x => (cEO x).map (.un op)
  | .convert s d x => match P.underlying s, P.underlying d with
    | some _, some (.int k) => (cEO x).map (.cvInt k)
    | some .string, some .string => (cEO x).map .cvStr
    | some .string, some (.slice e) => match P.underlying e with
      | some (.int .u8) => (cEO x).map .cvSB
      | _ => none
    | some (.slice e), some .string => match P.underlying e with
      | some (.int .u8) => (cEO x).map .cvBS
      | _ => none
    | _, _ => none
  | .makeInterface t x => match P.underlying t with
    | some (.interface _) => none
    | some _ => (cEO x).map (.ifc t)
    | none => none
  | .makeFunc (.func f) a b => do some (.mkFn f (← cEOs a.toList) (← cEOs b.toList))
  | .makeMap _ none => some .mkMap
  | .makeSlice t l c => match P.underlying t with
    | some (.slice e) => match tsize P.toTables e, tbytes P.toTables e, tzeros P.toTables e with
      | some es, some bytes, some z => if 1 ≤ es ∧ z.length = es then do some (.mkSl es bytes z (← cEO l) (← cEO c)) else none
      | _, _, _ => none
    | _ => none
  | .slice t x lo hi mx => do
    let x ← cEO x
    let lo ← optEO lo
    let hi ← optEO hi
    let mx ← optEO mx
    match P.underlying t with
    | some .string => match mx with
      | none => some (.slStr x lo hi)
      | some _ => none
    | some (.slice e) => (tsize P.toTables e).bind fun n => if 1 ≤ n then some (.slSl n x lo hi mx) else none
    | some (.array n e) => (tsize P.toTables e).bind fun m => if 1 ≤ m then some (.slArr n m x lo hi mx) else none
    | some (.pointer arr) => match P.underlying arr with
      | some (.array n e) => (tsize P.toTables e).bind fun m => if 1 ≤ m then some (.slArr n m x lo hi mx) else none
      | _ => none
    | _ => none
  | .fieldAddr t x i => match P.underlying t with
    | some (.struct fs) => match fs[i]? with
      | some f => match tsize P.toTables f.type with
        | some 0 => none
        | some _ => (cEO x).map (.fldA f.offset)
        | none => none
      | none => none
    | _ => none
  | .field t x i => match P.underlying t with
    | some (.struct fs) => match fs[i]? with
      | some f => match tagg P f.type, tsize P.toTables f.type with
        | some a, some n => (cEO x).map (.fld f.offset n a)
        | _, _ => none
      | none => none
    | _ => none
  | .indexAddr t x i => match P.underlying t with
    | some (.slice e) => do
      let n ← tsize P.toTables e
      some (.ixA n (← cEO x) (← cEO i))
    | some (.array len e) => do
      let n ← tsize P.toTables e
      some (.ixAA len n (← cEO x) (← cEO i))
    | _ => none
  | .index t x i => match P.underlying t with
    | some .string => do some (.ixS (← cEO x) (← cEO i))
    | some (.array len e) => match tagg P e, tsize P.toTables e with
      | some a, some n => do some (.ixV len n a (← cEO x) (← cEO i))
      | _, _ => none
    | _ => none
  | .lookup t x i ok => match P.underlying t with
    | some (.map k e) => match mapKind P k, tzero P.toTables e with
      | some q, some z => do some (.look q z ok (← cEO x) (← cEO i))
      | _, _ => none
    | _ => none
  | .mapUpdate t m k v => match P.underlying t with
    | some (.map kt _) => do some (.mset (← mapKind P kt) (← cEO m) (← cEO k) (← cEO v))
    | _ => none
  | .insert t m k v => match P.underlying t with
    | some (.map kt _) => do some (.mset (← mapKind P kt) (← cEO m) (← cEO k) (← cEO v))
    | _ => none
  | .mapEntry t m k => match P.underlying t with
    | some (.map kt e) => do some (.ment (← mapKind P kt) (← tzero P.toTables e) (← cEO m) (← cEO k))
    | _ => none
  | .entryStore _ m b v => do some (.mest (← cEO m) (← cEO b) (← cEO v))
  | .extract x i => (cEO x).map fun x => .ext x i
  | .call c => cCall P c
  | _ => none

def isCall : EOp → Bool
  | .call _ _ => true
  | _ => false

/-- A call of a function value. -/
def callee? : Op → Option (Operand × List Operand)
  | .call c => match c.callee with
    | .value f => some (f, c.args.toList)
    | _ => none
  | _ => none

def cOpB (P : Program) (o : Op) : EOp :=
  match callee? o with
  | some (f, l) => match cEO f with
    | some f => match cEOs l with
      | some l => .call f l
      | none => .bad
    | none => .bad
  | none => match cOp P o with
    | some e => match isCall e with
      | true => .bad
      | false => e
    | none => .bad

/-! ### Regions -/
inductive Cls where
  | pure | read | alloc | change
  deriving DecidableEq

def clsOf : EOp → Cls
  | .ld1 _ | .ldn _ _ | .look .. | .len _ _ | .cvBS _ => .read
  | .alloc _ | .box _ | .buildSl .. | .mkMap | .mkSl .. | .cvSB _ => .alloc
  | .st .. | .mset .. | .ment .. | .mest .. | .del .. | .call .. | .app .. | .appZ .. | .cpy .. | .bad => .change
  | _ => .pure

def isStore : EOp → Bool
  | .st .. => true
  | _ => false

def cOper (P : Program) (ops : Array Oper) (o : Oper) : EOper :=
  { dst := o.dst, guard := o.guard.map fun (j, b) => ((ops[j]?).bind (·.dst), b), op := cOpB P o.op }

def predsOf (o : Oper) : List Nat := (o.after.toList.filter (Region.binds .any ·)).map (·.on)

structure RI where
  i : Nat
  pre : Nat           -- who must come before: a set of bits
  o : EOper
  cls : Cls
  rd : List Nat       -- temporaries that it reads

def tmpsX : EO → List Nat
  | .t n => [n]
  | .c _ => []
def tmpsL : List EO → List Nat
  | [] => []
  | x :: l => tmpsX x ++ tmpsL l
def tmpsO : Option EO → List Nat
  | none => []
  | some x => tmpsX x
def tmpsP : List (Nat × Nat × EO) → List Nat
  | [] => []
  | (_, _, x) :: l => tmpsX x ++ tmpsP l

/-- The temporaries that an operation reads. -/
def tmpsE : EOp → List Nat
  | .bad => []
  | .mv x => tmpsX x
  | .pick c a b => tmpsX c ++ (tmpsX a ++ tmpsX b)
  | .alloc _ => []
  | .box x => tmpsX x
  | .build _ ps => tmpsP ps
  | .buildSl _ _ _ ps => tmpsP ps
  | .ld1 x => tmpsX x
  | .ldn _ x => tmpsX x
  | .st _ a v => tmpsX a ++ tmpsX v
  | .nilck x => tmpsX x
  | .bin _ x y => tmpsX x ++ tmpsX y
  | .eq _ _ x y => tmpsX x ++ tmpsX y
  | .un _ x => tmpsX x
  | .cvInt _ x => tmpsX x
  | .cvStr x => tmpsX x
  | .cvSB x => tmpsX x
  | .cvBS x => tmpsX x
  | .ifc _ x => tmpsX x
  | .mkFn _ a b => tmpsL a ++ tmpsL b
  | .mkMap => []
  | .mkSl _ _ _ l c => tmpsX l ++ tmpsX c
  | .slStr x lo hi => tmpsX x ++ (tmpsO lo ++ tmpsO hi)
  | .slSl _ x lo hi mx => tmpsX x ++ (tmpsO lo ++ (tmpsO hi ++ tmpsO mx))
  | .slArr _ _ x lo hi mx => tmpsX x ++ (tmpsO lo ++ (tmpsO hi ++ tmpsO mx))
  | .fldA _ x => tmpsX x
  | .fld _ _ _ x => tmpsX x
  | .ixA _ x i => tmpsX x ++ tmpsX i
  | .ixAA _ _ x i => tmpsX x ++ tmpsX i
  | .ixS x i => tmpsX x ++ tmpsX i
  | .ixV _ _ _ x i => tmpsX x ++ tmpsX i
  | .look _ _ _ x i => tmpsX x ++ tmpsX i
  | .mset _ m i v => tmpsX m ++ (tmpsX i ++ tmpsX v)
  | .ment _ _ m i => tmpsX m ++ tmpsX i
  | .mest m b v => tmpsX m ++ (tmpsX b ++ tmpsX v)
  | .ext x _ => tmpsX x
  | .call f a => tmpsX f ++ tmpsL a
  | .len _ x => tmpsX x
  | .cap x => tmpsX x
  | .app _ _ x y => tmpsX x ++ tmpsX y
  | .appZ _ _ _ x y => tmpsX x ++ tmpsX y
  | .cpy _ x y => tmpsX x ++ tmpsX y
  | .mx l => tmpsL l
  | .mn l => tmpsL l
  | .del _ m i => tmpsX m ++ tmpsX i

def tmpsOper (e : EOper) : List Nat := tmpsE e.op ++ (match e.guard with | some (some t, _) => [t] | _ => [])

def mkRI (P : Program) (ops : Array Oper) (i : Nat) (o : Oper) (pre : Nat) : RI :=
  { i, pre, o := cOper P ops o, cls := clsOf (cOper P ops o).op, rd := tmpsOper (cOper P ops o) }

/-- All that must come before, by the ones that stand already. -/
def preOf (done : List RI) : List Nat → Option Nat
  | [] => some 0
  | j :: l => match preOf done l, done.find? (fun r => r.i == j) with
    | some a, some r => some (a ||| (r.pre ||| (1 <<< j)))
    | _, _ => none

def bfr (j : Nat) (r : RI) : Bool := Nat.testBit r.pre j

/-- The first of what is left that is ready (all ahead of it done): of those that change nothing, else any. -/
def pickNext (P : Program) (ops : Array Oper) (done : List RI) (left : List (Nat × Oper)) : Option RI :=
  let ready := left.filterMap fun (i, o) => (preOf done (predsOf o)).map fun p => mkRI P ops i o p
  match ready.find? (fun r => r.cls != .change) with
  | some r => some r
  | none => ready.head?

def orderOf (P : Program) (ops : Array Oper) : Nat → List RI → List (Nat × Oper) → Option (List RI)
  | 0, done, [] => some done
  | 0, _, _ :: _ => none
  | n + 1, done, left => match left with
    | [] => some done
    | _ => match pickNext P ops done left with
      | some r => orderOf P ops n (done ++ [r]) (left.filter (·.1 != r.i))
      | none => none

def free (a b : RI) : Bool := !(bfr a.i b) && !(bfr b.i a)

def tmpsApart (a b : RI) : Bool :=
  (match a.o.dst with | some d => !(b.rd.contains d) && b.o.dst != some d | none => true) &&
  (match b.o.dst with | some d => !(a.rd.contains d) | none => true)

def allPairs (l : List RI) (f : RI → RI → Bool) : Bool := l.all fun a => l.all fun b => a.i == b.i || f a b

def noWrite (z y : RI) : Bool :=
  match y.o.dst with
  | some d => !(z.rd.contains d) && z.o.dst != some d
  | none => true

/-- The loads that stand ahead of a change and may come behind it. -/
def rcGo (done : List RI) : List RI → RI → Option (List EOper)
  | [], _ => some []
  | z :: l, r => match rcGo done l r with
    | none => none
    | some rc => match decide (z.cls = .read) && !(bfr z.i r) with
      | false => some rc
      | true => match (r :: done).all (fun y => y.i == z.i || (bfr y.i z || noWrite z y)) && (match z.o.dst with | some d => !(z.rd.contains d) | none => false) with
        | true => some (z.o :: rc)
        | false => none
def rcOf (done : List RI) (r : RI) : Option (List EOper) := rcGo done done r

/-- May two stores come either way round? -/
def pairOk (r y : RI) (rest : List RI) : Bool :=
  (isStore r.o.op && isStore y.o.op) && ((r.o.dst.isNone && y.o.dst.isNone) && ((r.o.guard.isNone && y.o.guard.isNone) &&
    rest.all (fun z => decide (z.cls = .pure) || (bfr z.i r == bfr z.i y && bfr r.i z == bfr y.i z))))

/-- All changes done come before it, whatever the order. -/
def behind (done : List RI) (r : RI) : Bool := done.all fun c => !decide (c.cls = .change) || bfr c.i r

/-- The steps of a region whose order is drawn; those done are in 'done'. -/
def stepsOf : List RI → List RI → Option (List EStep)
  | _, [] => some []
  | done, r :: l =>
    match r.cls with
    | .change => match behind done r with
      | false => none
      | true => match l with
        | [] => match rcOf done r with
          | some rc => some [.one r.o rc]
          | none => none
        | y :: l' => match decide (y.cls = .change) && !(bfr r.i y) with
          | true => match pairOk r y (done ++ l') && behind done y with
            | true => match rcOf done r, stepsOf (done ++ [r, y]) l' with
              | some rc, some st => some (.two r.o y.o rc :: st)
              | _, _ => none
            | false => none
          | false => match rcOf done r, stepsOf (done ++ [r]) (y :: l') with
            | some rc, some st => some (.one r.o rc :: st)
            | _, _ => none
    | .pure => match stepsOf (done ++ [r]) l with
      | some st => some (.one r.o [] :: st)
      | none => none
    | _ => match behind done r with
      | true => match stepsOf (done ++ [r]) l with
        | some st => some (.one r.o [] :: st)
        | none => none
      | false => none

def cRegion (P : Program) (ops : Array Oper) (draw : Bool) : ECode :=
  if draw then
    match orderOf P ops ops.size [] (ops.toList.zipIdx.map fun (o, i) => (i, o)) with
    | some l =>
      if allPairs l (fun a b => !(free a b) || tmpsApart a b) then
        match stepsOf [] l with
        | some s => .reg s
        | none => .bad
      else .bad
    | none => .bad
  else .reg (ops.toList.map fun o => EStep.one (cOper P ops o) [])

def cCode (P : Program) : Code → ECode
  | .skip => .skip
  | .region _ ops draw => cRegion P ops draw
  | .seq a b => .seq (cCode P a) (cCode P b)
  | .cond c x y => match cEO c with
    | some c => .cond c (cCode P x) (cCode P y)
    | none => .bad
  | .block id b => .block id (cCode P b)
  | .loop b => .loop (cCode P b)
  | .rangeFunc f ps asn body => match cEO f with
    | some f => .rangeF f ps.toList (cCode P asn) (cCode P body)
    | none => .bad
  | .exit id => .exit id
  | .ret => .ret
  | _ => .bad

def cRes (P : Program) : ResultVar → Option ERes
  | .tmp t => some (.tmp t)
  | .cell t ty => match tagg P ty, tsize P.toTables ty with
    | some a, some n => some (.cell t n a)
    | _, _ => none

def cResL (P : Program) : List ResultVar → Option (List ERes)
  | [] => some []
  | r :: l => match cRes P r, cResL P l with
    | some r, some l => some (r :: l)
    | _, _ => none

/-- Are all temporaries that code writes below N? -/
def dstS (N : Nat) : EStep → Bool
  | .one o _ => match o.dst with | some d => ltb d N | none => true
  | .two x y _ => (match x.dst with | some d => ltb d N | none => true) && (match y.dst with | some d => ltb d N | none => true)
def dstC (N : Nat) : ECode → Bool
  | .reg l => l.all (dstS N)
  | .seq a b => dstC N a && dstC N b
  | .cond _ a b => dstC N a && dstC N b
  | .block _ b => dstC N b
  | .loop b => dstC N b
  | .rangeF _ ps a b => ps.all (ltb · N) && (dstC N a && dstC N b)
  | _ => true

def cFunc (P : Program) (f : Func) : Option EFunc :=
  match f.body, cResL P f.results.toList with
  | some b, some r => match dstC f.ntmps (cCode P b) && (f.name != "runtime.NumGoroutine") with
    | true => some { ntmps := f.ntmps, body := cCode P b, res := r }
    | false => none
  | _, _ => none

end Go.Ab
