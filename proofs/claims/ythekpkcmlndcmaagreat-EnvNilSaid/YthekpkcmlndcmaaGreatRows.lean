/-
  NARROWER THAN 'FOR EVERY INPUT', by the rows' own cells (each row's printed sentence says how): InferChecked: loops · InferLams: loops · ShapeFuel: loops · EnvTyped: loops · EnvForks: loops · EnvWhole: loops · EnvAgain: loops · EnvNil: loops.
  DERIVED. THE GIVEN ROWS OF THIS SEAT. 9 by the template 'for every input the law returns true; each argument reads behind the call as it read before'; 0 by the template 'total and deterministic' (their statements: YthekpkcmlndcmaaGreatTotals.lean).
  GIVEN WITH THE SEED: the statements are not yours to turn. If you find one false, say at which input.
  Laid BY PROGRAM, IN A SANDBOX (cutbox-rows.mjs): the forced cells as the released guide's own fill.sh prints them over the translation b4e09868cfb65ebf… (all of the seat's roots in one cut). By AI agents, Wed Nov 11 2026. No macro, syntax, notation, axiom, sorry.
-/
import Derived.Test.YthekpkcmlndcmaaGreatChecked
import GoSem.Claim
import GoSem.ClaimJoined
import GoSem.ClaimMapViews
import Derived.JoinedTies
import Derived.KernelRfl
namespace Go.Proofs.YthekpkcmlndcmaaGreat
/- THE CELL 'sum', in the pinned program and in every row, IS THE sha256 OF THE DUMP (.gsa) THAT YthekpkcmlndcmaaGreatProg.lean LOADS. Nothing in Lean hashes anything: it is a label: what it is worth is what the hold of that sum in a sandbox is worth. -/
noncomputable def Tryz.pinned : Pinned := { name := "ythekpkcmlndcmaagreat", sum := "b4e09868cfb65ebf0e30a95fd18f04409f45e223871684d6a6918ccfbc5036a3", checked := Tryz.checked }
namespace Rows
def none {H : Type} : Left H := { results := [], args := [] }

/-- 'assizelaw12.InferChecked': WHATEVER THE INPUT: true; the input reads as it did. -/
def inferCheckedSpec : ChangeSpec := { name := "inferChecked", fn := fun _ => fun
  | [d1, d2, d3] => { results := [.lit (.bool true)], args := [d1, d2, d3] }
  | _ => none }
def inferCheckedRow : OpenClaim := { program := "ythekpkcmlndcmaagreat", sum := "b4e09868cfb65ebf0e30a95fd18f04409f45e223871684d6a6918ccfbc5036a3", func := "assize/assizelaw12.InferChecked", spec := "inferChecked", unfollowed := true, recurses := true, loops := true, apart := false }
def InferCheckedSaid : Prop := inferCheckedRow.holds Tryz.pinned (OpenSpec.ofChange inferCheckedSpec)

/-- ITS FALSE NEIGHBOUR: 'it returns false'. Refute it at one input. -/
def inferCheckedWrong : ChangeSpec := { name := "inferChecked", fn := fun _ => fun
  | [d1, d2, d3] => { results := [.lit (.bool false)], args := [d1, d2, d3] }
  | _ => none }
def InferCheckedWrongFalsely : Prop := inferCheckedRow.holds Tryz.pinned (OpenSpec.ofChange inferCheckedWrong)

/-- 'assizelaw12.InferLams': WHATEVER THE INPUT: true; the input reads as it did. -/
def inferLamsSpec : ChangeSpec := { name := "inferLams", fn := fun _ => fun
  | [d1, d2, d3, d4] => { results := [.lit (.bool true)], args := [d1, d2, d3, d4] }
  | _ => none }
def inferLamsRow : OpenClaim := { program := "ythekpkcmlndcmaagreat", sum := "b4e09868cfb65ebf0e30a95fd18f04409f45e223871684d6a6918ccfbc5036a3", func := "assize/assizelaw12.InferLams", spec := "inferLams", unfollowed := true, recurses := true, loops := true, apart := false }
def InferLamsSaid : Prop := inferLamsRow.holds Tryz.pinned (OpenSpec.ofChange inferLamsSpec)

/-- ITS FALSE NEIGHBOUR: 'it returns false'. Refute it at one input. -/
def inferLamsWrong : ChangeSpec := { name := "inferLams", fn := fun _ => fun
  | [d1, d2, d3, d4] => { results := [.lit (.bool false)], args := [d1, d2, d3, d4] }
  | _ => none }
def InferLamsWrongFalsely : Prop := inferLamsRow.holds Tryz.pinned (OpenSpec.ofChange inferLamsWrong)

/-- 'assizelaw14.RecTurns': WHATEVER THE INPUT: true; the input reads as it did. -/
def recTurnsSpec : ChangeSpec := { name := "recTurns", fn := fun _ => fun
  | [d1, d2] => { results := [.lit (.bool true)], args := [d1, d2] }
  | _ => none }
def recTurnsRow : OpenClaim := { program := "ythekpkcmlndcmaagreat", sum := "b4e09868cfb65ebf0e30a95fd18f04409f45e223871684d6a6918ccfbc5036a3", func := "assize/assizelaw14.RecTurns", spec := "recTurns", unfollowed := true, recurses := true, apart := false }
def RecTurnsSaid : Prop := recTurnsRow.holds Tryz.pinned (OpenSpec.ofChange recTurnsSpec)

/-- ITS FALSE NEIGHBOUR: 'it returns false'. Refute it at one input. -/
def recTurnsWrong : ChangeSpec := { name := "recTurns", fn := fun _ => fun
  | [d1, d2] => { results := [.lit (.bool false)], args := [d1, d2] }
  | _ => none }
def RecTurnsWrongFalsely : Prop := recTurnsRow.holds Tryz.pinned (OpenSpec.ofChange recTurnsWrong)

/-- 'assizelaw13.ShapeFuel': WHATEVER THE INPUT: true; the input reads as it did. -/
def shapeFuelSpec : ChangeSpec := { name := "shapeFuel", fn := fun _ => fun
  | [d1, d2, d3, d4] => { results := [.lit (.bool true)], args := [d1, d2, d3, d4] }
  | _ => none }
def shapeFuelRow : OpenClaim := { program := "ythekpkcmlndcmaagreat", sum := "b4e09868cfb65ebf0e30a95fd18f04409f45e223871684d6a6918ccfbc5036a3", func := "assize/assizelaw13.ShapeFuel", spec := "shapeFuel", unfollowed := true, recurses := true, loops := true, apart := false }
def ShapeFuelSaid : Prop := shapeFuelRow.holds Tryz.pinned (OpenSpec.ofChange shapeFuelSpec)

/-- ITS FALSE NEIGHBOUR: 'it returns false'. Refute it at one input. -/
def shapeFuelWrong : ChangeSpec := { name := "shapeFuel", fn := fun _ => fun
  | [d1, d2, d3, d4] => { results := [.lit (.bool false)], args := [d1, d2, d3, d4] }
  | _ => none }
def ShapeFuelWrongFalsely : Prop := shapeFuelRow.holds Tryz.pinned (OpenSpec.ofChange shapeFuelWrong)

/-- 'assizelaw15.EnvTyped': WHATEVER THE INPUT: true; the input reads as it did. -/
def envTypedSpec : ChangeSpec := { name := "envTyped", fn := fun _ => fun
  | [d] => { results := [.lit (.bool true)], args := [d] }
  | _ => none }
def envTypedRow : OpenClaim := { program := "ythekpkcmlndcmaagreat", sum := "b4e09868cfb65ebf0e30a95fd18f04409f45e223871684d6a6918ccfbc5036a3", func := "assize/assizelaw15.EnvTyped", spec := "envTyped", unfollowed := true, recurses := true, loops := true, apart := false }
def EnvTypedSaid : Prop := envTypedRow.holds Tryz.pinned (OpenSpec.ofChange envTypedSpec)

/-- ITS FALSE NEIGHBOUR: 'it returns false'. Refute it at one input. -/
def envTypedWrong : ChangeSpec := { name := "envTyped", fn := fun _ => fun
  | [d] => { results := [.lit (.bool false)], args := [d] }
  | _ => none }
def EnvTypedWrongFalsely : Prop := envTypedRow.holds Tryz.pinned (OpenSpec.ofChange envTypedWrong)

/-- 'assizelaw15.EnvForks': WHATEVER THE INPUT: true; the input reads as it did. -/
def envForksSpec : ChangeSpec := { name := "envForks", fn := fun _ => fun
  | [d1, d2, d3] => { results := [.lit (.bool true)], args := [d1, d2, d3] }
  | _ => none }
def envForksRow : OpenClaim := { program := "ythekpkcmlndcmaagreat", sum := "b4e09868cfb65ebf0e30a95fd18f04409f45e223871684d6a6918ccfbc5036a3", func := "assize/assizelaw15.EnvForks", spec := "envForks", unfollowed := true, recurses := true, loops := true, apart := false }
def EnvForksSaid : Prop := envForksRow.holds Tryz.pinned (OpenSpec.ofChange envForksSpec)

/-- ITS FALSE NEIGHBOUR: 'it returns false'. Refute it at one input. -/
def envForksWrong : ChangeSpec := { name := "envForks", fn := fun _ => fun
  | [d1, d2, d3] => { results := [.lit (.bool false)], args := [d1, d2, d3] }
  | _ => none }
def EnvForksWrongFalsely : Prop := envForksRow.holds Tryz.pinned (OpenSpec.ofChange envForksWrong)

/-- 'assizelaw15.EnvWhole': WHATEVER THE INPUT: true; the input reads as it did. -/
def envWholeSpec : ChangeSpec := { name := "envWhole", fn := fun _ => fun
  | [d1, d2] => { results := [.lit (.bool true)], args := [d1, d2] }
  | _ => none }
def envWholeRow : OpenClaim := { program := "ythekpkcmlndcmaagreat", sum := "b4e09868cfb65ebf0e30a95fd18f04409f45e223871684d6a6918ccfbc5036a3", func := "assize/assizelaw15.EnvWhole", spec := "envWhole", unfollowed := true, recurses := true, loops := true, apart := false }
def EnvWholeSaid : Prop := envWholeRow.holds Tryz.pinned (OpenSpec.ofChange envWholeSpec)

/-- ITS FALSE NEIGHBOUR: 'it returns false'. Refute it at one input. -/
def envWholeWrong : ChangeSpec := { name := "envWhole", fn := fun _ => fun
  | [d1, d2] => { results := [.lit (.bool false)], args := [d1, d2] }
  | _ => none }
def EnvWholeWrongFalsely : Prop := envWholeRow.holds Tryz.pinned (OpenSpec.ofChange envWholeWrong)

/-- 'assizelaw15.EnvAgain': WHATEVER THE INPUT: true; the input reads as it did. -/
def envAgainSpec : ChangeSpec := { name := "envAgain", fn := fun _ => fun
  | [d] => { results := [.lit (.bool true)], args := [d] }
  | _ => none }
def envAgainRow : OpenClaim := { program := "ythekpkcmlndcmaagreat", sum := "b4e09868cfb65ebf0e30a95fd18f04409f45e223871684d6a6918ccfbc5036a3", func := "assize/assizelaw15.EnvAgain", spec := "envAgain", unfollowed := true, recurses := true, loops := true, apart := false }
def EnvAgainSaid : Prop := envAgainRow.holds Tryz.pinned (OpenSpec.ofChange envAgainSpec)

/-- ITS FALSE NEIGHBOUR: 'it returns false'. Refute it at one input. -/
def envAgainWrong : ChangeSpec := { name := "envAgain", fn := fun _ => fun
  | [d] => { results := [.lit (.bool false)], args := [d] }
  | _ => none }
def EnvAgainWrongFalsely : Prop := envAgainRow.holds Tryz.pinned (OpenSpec.ofChange envAgainWrong)

/-- 'assizelaw15.EnvNil': WHATEVER THE INPUT: true; the input reads as it did. -/
def envNilSpec : ChangeSpec := { name := "envNil", fn := fun _ => fun
  | [d1, d2, d3] => { results := [.lit (.bool true)], args := [d1, d2, d3] }
  | _ => none }
def envNilRow : OpenClaim := { program := "ythekpkcmlndcmaagreat", sum := "b4e09868cfb65ebf0e30a95fd18f04409f45e223871684d6a6918ccfbc5036a3", func := "assize/assizelaw15.EnvNil", spec := "envNil", unfollowed := true, recurses := true, loops := true, apart := false }
def EnvNilSaid : Prop := envNilRow.holds Tryz.pinned (OpenSpec.ofChange envNilSpec)

/-- ITS FALSE NEIGHBOUR: 'it returns false'. Refute it at one input. -/
def envNilWrong : ChangeSpec := { name := "envNil", fn := fun _ => fun
  | [d1, d2, d3] => { results := [.lit (.bool false)], args := [d1, d2, d3] }
  | _ => none }
def EnvNilWrongFalsely : Prop := envNilRow.holds Tryz.pinned (OpenSpec.ofChange envNilWrong)

/- THE SECOND FORM. 'bulk': how many values and letters a reading holds, each counted each time it is reached (what is shared counts as often as it is met; a slice's spare places count too). A statement '..UptoSaid' is the law's where the arguments, and the package variables that the reading takes, are together of bulk at most 1048576: NARROWER than '..Said'. Prove '..Said' where nothing that the law and all that it calls make is longer than what came in: it says more and counts as full. Else prove '..UptoSaid'. A law counts once. -/
mutual
def uptoBulk {H : Type} : DataW H → Nat
  | .lit (.string bytes) => bytes.length + 1
  | .lit _ => 1
  | .nil => 1
  | .ptr d => uptoBulk d + 1
  | .slice elems spare => uptoBulkAll elems + uptoBulkAll spare + 1
  | .agg parts => uptoBulkAll parts + 1
  | .iface _ d => uptoBulk d + 1
  | .map entries => uptoBulkEntries entries + 1
  | .held _ => 1
def uptoBulkAll {H : Type} : List (DataW H) → Nat
  | [] => 0
  | d :: r => uptoBulk d + uptoBulkAll r
def uptoBulkEntries {H : Type} : List (Lit × DataW H) → Nat
  | [] => 0
  | x :: r => uptoBulkEntry x + uptoBulkEntries r
def uptoBulkEntry {H : Type} : Lit × DataW H → Nat
  | (.string bytes, d) => bytes.length + uptoBulk d + 1
  | (_, d) => uptoBulk d + 1
 end
def uptoSmall : (H : Type) → List (DataW H) → Bool := fun _ ds => decide (uptoBulkAll ds ≤ 1048576)
def OpenSpec.upto (s : _root_.Go.ChangeSpec) : _root_.Go.OpenSpec := { _root_.Go.OpenSpec.ofChange s with cond := some uptoSmall }

/-- 'assizelaw12.InferChecked', WHERE WHAT IT READS IS OF BULK AT MOST 1048576: true; the input reads as it did. -/
def inferCheckedUptoRow : OpenClaim := { program := "ythekpkcmlndcmaagreat", sum := "b4e09868cfb65ebf0e30a95fd18f04409f45e223871684d6a6918ccfbc5036a3", func := "assize/assizelaw12.InferChecked", spec := "inferChecked", unfollowed := true, recurses := true, loops := true, apart := false, narrowed := true }
def InferCheckedUptoSaid : Prop := inferCheckedUptoRow.holds Tryz.pinned (OpenSpec.upto inferCheckedSpec)

/-- 'assizelaw12.InferLams', WHERE WHAT IT READS IS OF BULK AT MOST 1048576: true; the input reads as it did. -/
def inferLamsUptoRow : OpenClaim := { program := "ythekpkcmlndcmaagreat", sum := "b4e09868cfb65ebf0e30a95fd18f04409f45e223871684d6a6918ccfbc5036a3", func := "assize/assizelaw12.InferLams", spec := "inferLams", unfollowed := true, recurses := true, loops := true, apart := false, narrowed := true }
def InferLamsUptoSaid : Prop := inferLamsUptoRow.holds Tryz.pinned (OpenSpec.upto inferLamsSpec)

/-- 'assizelaw14.RecTurns', WHERE WHAT IT READS IS OF BULK AT MOST 1048576: true; the input reads as it did. -/
def recTurnsUptoRow : OpenClaim := { program := "ythekpkcmlndcmaagreat", sum := "b4e09868cfb65ebf0e30a95fd18f04409f45e223871684d6a6918ccfbc5036a3", func := "assize/assizelaw14.RecTurns", spec := "recTurns", unfollowed := true, recurses := true, apart := false, narrowed := true }
def RecTurnsUptoSaid : Prop := recTurnsUptoRow.holds Tryz.pinned (OpenSpec.upto recTurnsSpec)

/-- 'assizelaw13.ShapeFuel', WHERE WHAT IT READS IS OF BULK AT MOST 1048576: true; the input reads as it did. -/
def shapeFuelUptoRow : OpenClaim := { program := "ythekpkcmlndcmaagreat", sum := "b4e09868cfb65ebf0e30a95fd18f04409f45e223871684d6a6918ccfbc5036a3", func := "assize/assizelaw13.ShapeFuel", spec := "shapeFuel", unfollowed := true, recurses := true, loops := true, apart := false, narrowed := true }
def ShapeFuelUptoSaid : Prop := shapeFuelUptoRow.holds Tryz.pinned (OpenSpec.upto shapeFuelSpec)

/-- 'assizelaw15.EnvTyped', WHERE WHAT IT READS IS OF BULK AT MOST 1048576: true; the input reads as it did. -/
def envTypedUptoRow : OpenClaim := { program := "ythekpkcmlndcmaagreat", sum := "b4e09868cfb65ebf0e30a95fd18f04409f45e223871684d6a6918ccfbc5036a3", func := "assize/assizelaw15.EnvTyped", spec := "envTyped", unfollowed := true, recurses := true, loops := true, apart := false, narrowed := true }
def EnvTypedUptoSaid : Prop := envTypedUptoRow.holds Tryz.pinned (OpenSpec.upto envTypedSpec)

/-- 'assizelaw15.EnvForks', WHERE WHAT IT READS IS OF BULK AT MOST 1048576: true; the input reads as it did. -/
def envForksUptoRow : OpenClaim := { program := "ythekpkcmlndcmaagreat", sum := "b4e09868cfb65ebf0e30a95fd18f04409f45e223871684d6a6918ccfbc5036a3", func := "assize/assizelaw15.EnvForks", spec := "envForks", unfollowed := true, recurses := true, loops := true, apart := false, narrowed := true }
def EnvForksUptoSaid : Prop := envForksUptoRow.holds Tryz.pinned (OpenSpec.upto envForksSpec)

/-- 'assizelaw15.EnvWhole', WHERE WHAT IT READS IS OF BULK AT MOST 1048576: true; the input reads as it did. -/
def envWholeUptoRow : OpenClaim := { program := "ythekpkcmlndcmaagreat", sum := "b4e09868cfb65ebf0e30a95fd18f04409f45e223871684d6a6918ccfbc5036a3", func := "assize/assizelaw15.EnvWhole", spec := "envWhole", unfollowed := true, recurses := true, loops := true, apart := false, narrowed := true }
def EnvWholeUptoSaid : Prop := envWholeUptoRow.holds Tryz.pinned (OpenSpec.upto envWholeSpec)

/-- 'assizelaw15.EnvAgain', WHERE WHAT IT READS IS OF BULK AT MOST 1048576: true; the input reads as it did. -/
def envAgainUptoRow : OpenClaim := { program := "ythekpkcmlndcmaagreat", sum := "b4e09868cfb65ebf0e30a95fd18f04409f45e223871684d6a6918ccfbc5036a3", func := "assize/assizelaw15.EnvAgain", spec := "envAgain", unfollowed := true, recurses := true, loops := true, apart := false, narrowed := true }
def EnvAgainUptoSaid : Prop := envAgainUptoRow.holds Tryz.pinned (OpenSpec.upto envAgainSpec)

/-- 'assizelaw15.EnvNil', WHERE WHAT IT READS IS OF BULK AT MOST 1048576: true; the input reads as it did. -/
def envNilUptoRow : OpenClaim := { program := "ythekpkcmlndcmaagreat", sum := "b4e09868cfb65ebf0e30a95fd18f04409f45e223871684d6a6918ccfbc5036a3", func := "assize/assizelaw15.EnvNil", spec := "envNil", unfollowed := true, recurses := true, loops := true, apart := false, narrowed := true }
def EnvNilUptoSaid : Prop := envNilUptoRow.holds Tryz.pinned (OpenSpec.upto envNilSpec)

end Rows
end Go.Proofs.YthekpkcmlndcmaaGreat
