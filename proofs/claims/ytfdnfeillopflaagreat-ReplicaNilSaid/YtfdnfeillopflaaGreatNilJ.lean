/- The closed facts of a row, each a theorem of its own. -/
import Derived.Test.YtfdnfeillopflaaGreatMj
import Derived.Test.YtfdnfeillopflaaGreatRows
import Derived.ProofKit
namespace Go.Proofs.YtfdnfeillopflaaGreat
open Go
theorem rnil_k1 : Rows.replicaNilRow.wf (OpenSpec.ofChange Rows.replicaNilSpec) = true := by kernel_rfl
theorem rnil_k2 : laidOutB Tryz.prog = true := by kernel_rfl
theorem rnil_k3 : mapsRowed Tryz.prog = true := by kernel_rfl
theorem rnil_k4 : Tryz.f9.params.all (Tryz.prog.readableRec ·) = true := by kernel_rfl
theorem rnil_k5 : namedTie Tryz.prog Rows.replicaNilRow.named Rows.replicaNilSpec.vars = true := by kernel_rfl
theorem rnil_k6 : (Rows.replicaNilRow.stops == []) = true := by kernel_rfl
theorem rnil_k7 : (Tryz.prog.stops == []) = true := by kernel_rfl
theorem rnil_k8 : (Rows.replicaNilRow.knobs == []) = true := by kernel_rfl
theorem rnil_k9 : (Tryz.prog.stopKnobs == []) = true := by kernel_rfl
theorem rnil_k10 : (Rows.replicaNilRow.inPlace == Tryz.prog.inPlace 9) = true := by kernel_rfl
theorem rnil_k11 : (Rows.replicaNilRow.unfollowed == Tryz.prog.unfollowed 9) = true := by kernel_rfl
theorem rnil_k12 : (Rows.replicaNilRow.recurses == Tryz.prog.recurses 9) = true := by kernel_rfl
theorem rnil_k13 : (Rows.replicaNilRow.named == Tryz.prog.varsNamed 9) = true := by kernel_rfl
theorem rnil_k14 : (Rows.replicaNilRow.maps == (Tryz.f9.params.toList ++ Rows.replicaNilSpec.plain.varTypes Tryz.prog).any (Tryz.prog.mapsRec ·)) = true := by kernel_rfl
theorem rnil_k15 : (Rows.replicaNilRow.ifaces == (Tryz.f9.params.toList ++ Rows.replicaNilSpec.plain.varTypes Tryz.prog).any (Tryz.prog.ifacesRec ·)) = true := by kernel_rfl
theorem rnil_k16 : (Rows.replicaNilRow.mapsOut == Tryz.prog.mapsAmong Tryz.f9.resultTypes.toList) = true := by kernel_rfl
theorem rnil_k17 : (Rows.replicaNilRow.loops == (Tryz.f9.params.toList ++ Rows.replicaNilSpec.plain.varTypes Tryz.prog).any (Tryz.prog.loopsFrom ·)) = true := by kernel_rfl
theorem rnil_k17b : (Rows.replicaNilRow.wideKeys == (Tryz.f9.params.toList ++ Rows.replicaNilSpec.plain.varTypes Tryz.prog ++ Tryz.f9.resultTypes.toList).any (Tryz.prog.wideKeysFrom ·)) = true := by kernel_rfl
theorem rnil_k18 : Rows.replicaNilSpec.vars.all (Tryz.prog.varReadable ·) = true := by kernel_rfl
theorem rnil_k19 : Tryz.f9.resultTypes.all (fun t => Tryz.prog.readableRec t && decide (t < Tryz.prog.types.size)) = true := by kernel_rfl
theorem rnil_k20 : (Rows.replicaNilRow.ifacesOut == Tryz.f9.resultTypes.toList.any (Tryz.prog.ifacesRec ·)) = true := by kernel_rfl
theorem rnil_k21 : (Rows.replicaNilRow.loopsOut == Tryz.f9.resultTypes.toList.any (Tryz.prog.loopsFrom ·)) = true := by kernel_rfl
theorem rnil_k22 : (Rows.replicaNilRow.plainKeys == Tryz.prog.plainKeys) = true := by kernel_rfl
theorem rnil_k23 : Rows.replicaNilRow.shortTexts.isNone = true := by kernel_rfl
theorem rnil_k23b : Tryz.prog.stopsHeard = true := by kernel_rfl
theorem rnil_k24 : Tryz.prog.mayEnter = true := by kernel_rfl
theorem rnil_k24b : (Rows.replicaNilRow.lifted == Tryz.prog.liftsFinal) = true := by kernel_rfl
theorem rnil_k24c : (Tryz.prog.make == some Rows.replicaNilRow.make) = true := by kernel_rfl
theorem rnil_k25 : Go.Ab.kindsOk Tryz.prog Tryz.f9 Rows.replicaNilRow = true := by kernel_rfl
theorem rnil_k26 : (Rows.replicaNilRow.pinned == Rows.replicaNilRow.pinnedBy) = true := by kernel_rfl
theorem rnil_k27 : (Rows.replicaNilRow.veiled == (Tryz.f9.params.toList ++ Rows.replicaNilSpec.plain.varTypes Tryz.prog ++ Tryz.f9.resultTypes.toList).any (Tryz.prog.veiledRec ·)) = true := by kernel_rfl
theorem rnil_k28 : Rows.replicaNilRow.veiledFits Tryz.prog Tryz.f9.params.toList (Tryz.f9.params.toList ++ Rows.replicaNilSpec.plain.varTypes Tryz.prog ++ Tryz.f9.resultTypes.toList) = true := by kernel_rfl
set_option maxRecDepth 100000 in
theorem rnil_joined : joinedFacts Tryz.prog 9 Tryz.f9 Rows.replicaNilSpec Rows.replicaNilRow = true :=
  @Go.Ab.joined_of Tryz.prog 9 Tryz.f9 Rows.replicaNilSpec Rows.replicaNilRow rnil_k1 rnil_k2 rnil_k3 rnil_k4 rnil_k5 rnil_k6 rnil_k7 rnil_k8 rnil_k9 rnil_k10 rnil_k11 rnil_k12 rnil_k13 rnil_k14 rnil_k15 rnil_k16 rnil_k17 rnil_k17b rnil_k18 rnil_k19 rnil_k20 rnil_k21 rnil_k22 rnil_k23 rnil_k23b rnil_k24 rnil_k24b rnil_k24c rnil_k25 rnil_k26 rnil_k27 rnil_k28
end Go.Proofs.YtfdnfeillopflaaGreat
