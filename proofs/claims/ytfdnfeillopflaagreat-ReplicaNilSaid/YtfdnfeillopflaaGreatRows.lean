/-
  NARROWER THAN 'FOR EVERY INPUT', by the rows' own cells (each row's printed sentence says how): ReplicaForeign: loops · ReplicaTwice: loops · ReplicaNil: loops.
  DERIVED. THE GIVEN ROWS OF THIS SEAT. 7 by the template 'for every input the law returns true; each argument reads behind the call as it read before'; 0 by the template 'total and deterministic' (their statements: YtfdnfeillopflaaGreatTotals.lean).
  GIVEN WITH THE SEED: the statements are not yours to turn. If you find one false, say at which input.
  Laid BY PROGRAM, IN A SANDBOX (cutbox-rows.mjs): the forced cells as the released guide's own fill.sh prints them over the translation b5fbdd1f0fd7adc8… (all of the seat's roots in one cut). By AI agents, Wed Nov 11 2026. No macro, syntax, notation, axiom, sorry.
-/
import Derived.Test.YtfdnfeillopflaaGreatChecked
import GoSem.Claim
import GoSem.ClaimJoined
import GoSem.ClaimMapViews
import Derived.JoinedTies
import Derived.KernelRfl
namespace Go.Proofs.YtfdnfeillopflaaGreat
/- THE CELL 'sum', in the pinned program and in every row, IS THE sha256 OF THE DUMP (.gsa) THAT YtfdnfeillopflaaGreatProg.lean LOADS. Nothing in Lean hashes anything: it is a label: what it is worth is what the hold of that sum in a sandbox is worth. -/
noncomputable def Tryz.pinned : Pinned := { name := "ytfdnfeillopflaagreat", sum := "b5fbdd1f0fd7adc82a1ab4a8f153c878c186a7c64ec3609ee99367ee1cd20b42", checked := Tryz.checked }
namespace Rows
def none {H : Type} : Left H := { results := [], args := [] }

/-- 'assizelaw21.ReplicaOffers': WHATEVER THE INPUT: true; the input reads as it did. -/
def replicaOffersSpec : ChangeSpec := { name := "replicaOffers", fn := fun _ => fun
  | [d] => { results := [.lit (.bool true)], args := [d] }
  | _ => none }
def replicaOffersRow : OpenClaim := { program := "ytfdnfeillopflaagreat", sum := "b5fbdd1f0fd7adc82a1ab4a8f153c878c186a7c64ec3609ee99367ee1cd20b42", func := "assize/assizelaw21.ReplicaOffers", spec := "replicaOffers", inPlace := ["maps.clone"], unfollowed := true, recurses := true, apart := false }
def ReplicaOffersSaid : Prop := replicaOffersRow.holds Tryz.pinned (OpenSpec.ofChange replicaOffersSpec)

/-- ITS FALSE NEIGHBOUR: 'it returns false'. Refute it at one input. -/
def replicaOffersWrong : ChangeSpec := { name := "replicaOffers", fn := fun _ => fun
  | [d] => { results := [.lit (.bool false)], args := [d] }
  | _ => none }
def ReplicaOffersWrongFalsely : Prop := replicaOffersRow.holds Tryz.pinned (OpenSpec.ofChange replicaOffersWrong)

/-- 'assizelaw21.ReplicaFull': WHATEVER THE INPUT: true; the input reads as it did. -/
def replicaFullSpec : ChangeSpec := { name := "replicaFull", fn := fun _ => fun
  | [d1, d2] => { results := [.lit (.bool true)], args := [d1, d2] }
  | _ => none }
def replicaFullRow : OpenClaim := { program := "ytfdnfeillopflaagreat", sum := "b5fbdd1f0fd7adc82a1ab4a8f153c878c186a7c64ec3609ee99367ee1cd20b42", func := "assize/assizelaw21.ReplicaFull", spec := "replicaFull", inPlace := ["maps.clone"], unfollowed := true, recurses := true, apart := false }
def ReplicaFullSaid : Prop := replicaFullRow.holds Tryz.pinned (OpenSpec.ofChange replicaFullSpec)

/-- ITS FALSE NEIGHBOUR: 'it returns false'. Refute it at one input. -/
def replicaFullWrong : ChangeSpec := { name := "replicaFull", fn := fun _ => fun
  | [d1, d2] => { results := [.lit (.bool false)], args := [d1, d2] }
  | _ => none }
def ReplicaFullWrongFalsely : Prop := replicaFullRow.holds Tryz.pinned (OpenSpec.ofChange replicaFullWrong)

/-- 'assizelaw21.ReplicaPatience': WHATEVER THE INPUT: true; the input reads as it did. -/
def replicaPatienceSpec : ChangeSpec := { name := "replicaPatience", fn := fun _ => fun
  | [d1, d2, d3] => { results := [.lit (.bool true)], args := [d1, d2, d3] }
  | _ => none }
def replicaPatienceRow : OpenClaim := { program := "ytfdnfeillopflaagreat", sum := "b5fbdd1f0fd7adc82a1ab4a8f153c878c186a7c64ec3609ee99367ee1cd20b42", func := "assize/assizelaw21.ReplicaPatience", spec := "replicaPatience", inPlace := ["maps.clone"], unfollowed := true, recurses := true, apart := false }
def ReplicaPatienceSaid : Prop := replicaPatienceRow.holds Tryz.pinned (OpenSpec.ofChange replicaPatienceSpec)

/-- ITS FALSE NEIGHBOUR: 'it returns false'. Refute it at one input. -/
def replicaPatienceWrong : ChangeSpec := { name := "replicaPatience", fn := fun _ => fun
  | [d1, d2, d3] => { results := [.lit (.bool false)], args := [d1, d2, d3] }
  | _ => none }
def ReplicaPatienceWrongFalsely : Prop := replicaPatienceRow.holds Tryz.pinned (OpenSpec.ofChange replicaPatienceWrong)

/-- 'assizelaw21.ReplicaForeign': WHATEVER THE INPUT: true; the input reads as it did. -/
def replicaForeignSpec : ChangeSpec := { name := "replicaForeign", fn := fun _ => fun
  | [d1, d2, d3, d4] => { results := [.lit (.bool true)], args := [d1, d2, d3, d4] }
  | _ => none }
def replicaForeignRow : OpenClaim := { program := "ytfdnfeillopflaagreat", sum := "b5fbdd1f0fd7adc82a1ab4a8f153c878c186a7c64ec3609ee99367ee1cd20b42", func := "assize/assizelaw21.ReplicaForeign", spec := "replicaForeign", inPlace := ["maps.clone"], unfollowed := true, recurses := true, loops := true, apart := false }
def ReplicaForeignSaid : Prop := replicaForeignRow.holds Tryz.pinned (OpenSpec.ofChange replicaForeignSpec)

/-- ITS FALSE NEIGHBOUR: 'it returns false'. Refute it at one input. -/
def replicaForeignWrong : ChangeSpec := { name := "replicaForeign", fn := fun _ => fun
  | [d1, d2, d3, d4] => { results := [.lit (.bool false)], args := [d1, d2, d3, d4] }
  | _ => none }
def ReplicaForeignWrongFalsely : Prop := replicaForeignRow.holds Tryz.pinned (OpenSpec.ofChange replicaForeignWrong)

/-- 'assizelaw21.ReplicaNew': WHATEVER THE INPUT: true; the input reads as it did. -/
def replicaNewSpec : ChangeSpec := { name := "replicaNew", fn := fun _ => fun
  | [d1, d2] => { results := [.lit (.bool true)], args := [d1, d2] }
  | _ => none }
def replicaNewRow : OpenClaim := { program := "ytfdnfeillopflaagreat", sum := "b5fbdd1f0fd7adc82a1ab4a8f153c878c186a7c64ec3609ee99367ee1cd20b42", func := "assize/assizelaw21.ReplicaNew", spec := "replicaNew", inPlace := ["maps.clone"], unfollowed := true, recurses := true, apart := false }
def ReplicaNewSaid : Prop := replicaNewRow.holds Tryz.pinned (OpenSpec.ofChange replicaNewSpec)

/-- ITS FALSE NEIGHBOUR: 'it returns false'. Refute it at one input. -/
def replicaNewWrong : ChangeSpec := { name := "replicaNew", fn := fun _ => fun
  | [d1, d2] => { results := [.lit (.bool false)], args := [d1, d2] }
  | _ => none }
def ReplicaNewWrongFalsely : Prop := replicaNewRow.holds Tryz.pinned (OpenSpec.ofChange replicaNewWrong)

/-- 'assizelaw21.ReplicaTwice': WHATEVER THE INPUT: true; the input reads as it did. -/
def replicaTwiceSpec : ChangeSpec := { name := "replicaTwice", fn := fun _ => fun
  | [d1, d2, d3] => { results := [.lit (.bool true)], args := [d1, d2, d3] }
  | _ => none }
def replicaTwiceRow : OpenClaim := { program := "ytfdnfeillopflaagreat", sum := "b5fbdd1f0fd7adc82a1ab4a8f153c878c186a7c64ec3609ee99367ee1cd20b42", func := "assize/assizelaw21.ReplicaTwice", spec := "replicaTwice", inPlace := ["maps.clone"], unfollowed := true, recurses := true, loops := true, apart := false }
def ReplicaTwiceSaid : Prop := replicaTwiceRow.holds Tryz.pinned (OpenSpec.ofChange replicaTwiceSpec)

/-- ITS FALSE NEIGHBOUR: 'it returns false'. Refute it at one input. -/
def replicaTwiceWrong : ChangeSpec := { name := "replicaTwice", fn := fun _ => fun
  | [d1, d2, d3] => { results := [.lit (.bool false)], args := [d1, d2, d3] }
  | _ => none }
def ReplicaTwiceWrongFalsely : Prop := replicaTwiceRow.holds Tryz.pinned (OpenSpec.ofChange replicaTwiceWrong)

/-- 'assizelaw21.ReplicaNil': WHATEVER THE INPUT: true; the input reads as it did. -/
def replicaNilSpec : ChangeSpec := { name := "replicaNil", fn := fun _ => fun
  | [d1, d2] => { results := [.lit (.bool true)], args := [d1, d2] }
  | _ => none }
def replicaNilRow : OpenClaim := { program := "ytfdnfeillopflaagreat", sum := "b5fbdd1f0fd7adc82a1ab4a8f153c878c186a7c64ec3609ee99367ee1cd20b42", func := "assize/assizelaw21.ReplicaNil", spec := "replicaNil", inPlace := ["maps.clone"], unfollowed := true, recurses := true, loops := true, apart := false }
def ReplicaNilSaid : Prop := replicaNilRow.holds Tryz.pinned (OpenSpec.ofChange replicaNilSpec)

/-- ITS FALSE NEIGHBOUR: 'it returns false'. Refute it at one input. -/
def replicaNilWrong : ChangeSpec := { name := "replicaNil", fn := fun _ => fun
  | [d1, d2] => { results := [.lit (.bool false)], args := [d1, d2] }
  | _ => none }
def ReplicaNilWrongFalsely : Prop := replicaNilRow.holds Tryz.pinned (OpenSpec.ofChange replicaNilWrong)

/- THE SECOND FORM. 'bulk': how many values and letters a reading holds, each counted each time it is reached (what is shared counts as often as it is met; a slice's spare places count too). A statement '..UptoSaid' is the law's where the arguments, and the package variables that the reading takes, are together of bulk at most 1048576: NARROWER than '..Said'. Prove '..Said' where nothing that the law and all that it calls make is longer than what came in: it says more and counts as full. Else prove '..UptoSaid'. A law counts once. -/
mutual
def uptoBulk {H : Type} : DataW H → Nat
  | .lit (.string bytes) => bytes.length + 1
  | .lit _ => 1
  | .nil => 1
  | .ptr d => uptoBulk d + 1
  | .slice elems spare => uptoBulkAll elems + uptoBulkAll spare + 1
  | .agg parts => uptoBulkAll parts + 1
  | .iface _ d => uptoBulk d + 1
  | .map entries => uptoBulkEntries entries + 1
  | .held _ => 1
def uptoBulkAll {H : Type} : List (DataW H) → Nat
  | [] => 0
  | d :: r => uptoBulk d + uptoBulkAll r
def uptoBulkEntries {H : Type} : List (Lit × DataW H) → Nat
  | [] => 0
  | x :: r => uptoBulkEntry x + uptoBulkEntries r
def uptoBulkEntry {H : Type} : Lit × DataW H → Nat
  | (.string bytes, d) => bytes.length + uptoBulk d + 1
  | (_, d) => uptoBulk d + 1
 end
def uptoSmall : (H : Type) → List (DataW H) → Bool := fun _ ds => decide (uptoBulkAll ds ≤ 1048576)
def OpenSpec.upto (s : _root_.Go.ChangeSpec) : _root_.Go.OpenSpec := { _root_.Go.OpenSpec.ofChange s with cond := some uptoSmall }

/-- 'assizelaw21.ReplicaOffers', WHERE WHAT IT READS IS OF BULK AT MOST 1048576: true; the input reads as it did. -/
def replicaOffersUptoRow : OpenClaim := { program := "ytfdnfeillopflaagreat", sum := "b5fbdd1f0fd7adc82a1ab4a8f153c878c186a7c64ec3609ee99367ee1cd20b42", func := "assize/assizelaw21.ReplicaOffers", spec := "replicaOffers", inPlace := ["maps.clone"], unfollowed := true, recurses := true, apart := false, narrowed := true }
def ReplicaOffersUptoSaid : Prop := replicaOffersUptoRow.holds Tryz.pinned (OpenSpec.upto replicaOffersSpec)

/-- 'assizelaw21.ReplicaFull', WHERE WHAT IT READS IS OF BULK AT MOST 1048576: true; the input reads as it did. -/
def replicaFullUptoRow : OpenClaim := { program := "ytfdnfeillopflaagreat", sum := "b5fbdd1f0fd7adc82a1ab4a8f153c878c186a7c64ec3609ee99367ee1cd20b42", func := "assize/assizelaw21.ReplicaFull", spec := "replicaFull", inPlace := ["maps.clone"], unfollowed := true, recurses := true, apart := false, narrowed := true }
def ReplicaFullUptoSaid : Prop := replicaFullUptoRow.holds Tryz.pinned (OpenSpec.upto replicaFullSpec)

/-- 'assizelaw21.ReplicaPatience', WHERE WHAT IT READS IS OF BULK AT MOST 1048576: true; the input reads as it did. -/
def replicaPatienceUptoRow : OpenClaim := { program := "ytfdnfeillopflaagreat", sum := "b5fbdd1f0fd7adc82a1ab4a8f153c878c186a7c64ec3609ee99367ee1cd20b42", func := "assize/assizelaw21.ReplicaPatience", spec := "replicaPatience", inPlace := ["maps.clone"], unfollowed := true, recurses := true, apart := false, narrowed := true }
def ReplicaPatienceUptoSaid : Prop := replicaPatienceUptoRow.holds Tryz.pinned (OpenSpec.upto replicaPatienceSpec)

/-- 'assizelaw21.ReplicaForeign', WHERE WHAT IT READS IS OF BULK AT MOST 1048576: true; the input reads as it did. -/
def replicaForeignUptoRow : OpenClaim := { program := "ytfdnfeillopflaagreat", sum := "b5fbdd1f0fd7adc82a1ab4a8f153c878c186a7c64ec3609ee99367ee1cd20b42", func := "assize/assizelaw21.ReplicaForeign", spec := "replicaForeign", inPlace := ["maps.clone"], unfollowed := true, recurses := true, loops := true, apart := false, narrowed := true }
def ReplicaForeignUptoSaid : Prop := replicaForeignUptoRow.holds Tryz.pinned (OpenSpec.upto replicaForeignSpec)

/-- 'assizelaw21.ReplicaNew', WHERE WHAT IT READS IS OF BULK AT MOST 1048576: true; the input reads as it did. -/
def replicaNewUptoRow : OpenClaim := { program := "ytfdnfeillopflaagreat", sum := "b5fbdd1f0fd7adc82a1ab4a8f153c878c186a7c64ec3609ee99367ee1cd20b42", func := "assize/assizelaw21.ReplicaNew", spec := "replicaNew", inPlace := ["maps.clone"], unfollowed := true, recurses := true, apart := false, narrowed := true }
def ReplicaNewUptoSaid : Prop := replicaNewUptoRow.holds Tryz.pinned (OpenSpec.upto replicaNewSpec)

/-- 'assizelaw21.ReplicaTwice', WHERE WHAT IT READS IS OF BULK AT MOST 1048576: true; the input reads as it did. -/
def replicaTwiceUptoRow : OpenClaim := { program := "ytfdnfeillopflaagreat", sum := "b5fbdd1f0fd7adc82a1ab4a8f153c878c186a7c64ec3609ee99367ee1cd20b42", func := "assize/assizelaw21.ReplicaTwice", spec := "replicaTwice", inPlace := ["maps.clone"], unfollowed := true, recurses := true, loops := true, apart := false, narrowed := true }
def ReplicaTwiceUptoSaid : Prop := replicaTwiceUptoRow.holds Tryz.pinned (OpenSpec.upto replicaTwiceSpec)

/-- 'assizelaw21.ReplicaNil', WHERE WHAT IT READS IS OF BULK AT MOST 1048576: true; the input reads as it did. -/
def replicaNilUptoRow : OpenClaim := { program := "ytfdnfeillopflaagreat", sum := "b5fbdd1f0fd7adc82a1ab4a8f153c878c186a7c64ec3609ee99367ee1cd20b42", func := "assize/assizelaw21.ReplicaNil", spec := "replicaNil", inPlace := ["maps.clone"], unfollowed := true, recurses := true, loops := true, apart := false, narrowed := true }
def ReplicaNilUptoSaid : Prop := replicaNilUptoRow.holds Tryz.pinned (OpenSpec.upto replicaNilSpec)

end Rows
end Go.Proofs.YtfdnfeillopflaaGreat
