/- The closed facts of a row, each a theorem of its own. -/
import Derived.Test.YthekpkcmlndcmaaGreatAbJ
import Derived.Test.YthekpkcmlndcmaaGreatRows
import Derived.ProofKit
namespace Go.Proofs.YthekpkcmlndcmaaGreat
open Go
theorem nil_k1 : Rows.envNilRow.wf (OpenSpec.ofChange Rows.envNilSpec) = true := by kernel_rfl
theorem nil_k2 : laidOutB Tryz.prog = true := by kernel_rfl
theorem nil_k3 : mapsRowed Tryz.prog = true := by kernel_rfl
theorem nil_k4 : Tryz.f11.params.all (Tryz.prog.readableRec ·) = true := by kernel_rfl
theorem nil_k5 : namedTie Tryz.prog Rows.envNilRow.named Rows.envNilSpec.vars = true := by kernel_rfl
theorem nil_k6 : (Rows.envNilRow.stops == []) = true := by kernel_rfl
theorem nil_k7 : (Tryz.prog.stops == []) = true := by kernel_rfl
theorem nil_k8 : (Rows.envNilRow.knobs == []) = true := by kernel_rfl
theorem nil_k9 : (Tryz.prog.stopKnobs == []) = true := by kernel_rfl
theorem nil_k10 : (Rows.envNilRow.inPlace == Tryz.prog.inPlace 11) = true := by kernel_rfl
theorem nil_k11 : (Rows.envNilRow.unfollowed == Tryz.prog.unfollowed 11) = true := by kernel_rfl
theorem nil_k12 : (Rows.envNilRow.recurses == Tryz.prog.recurses 11) = true := by kernel_rfl
theorem nil_k13 : (Rows.envNilRow.named == Tryz.prog.varsNamed 11) = true := by kernel_rfl
theorem nil_k14 : (Rows.envNilRow.maps == (Tryz.f11.params.toList ++ Rows.envNilSpec.plain.varTypes Tryz.prog).any (Tryz.prog.mapsRec ·)) = true := by kernel_rfl
theorem nil_k15 : (Rows.envNilRow.ifaces == (Tryz.f11.params.toList ++ Rows.envNilSpec.plain.varTypes Tryz.prog).any (Tryz.prog.ifacesRec ·)) = true := by kernel_rfl
theorem nil_k16 : (Rows.envNilRow.mapsOut == Tryz.prog.mapsAmong Tryz.f11.resultTypes.toList) = true := by kernel_rfl
theorem nil_k17 : (Rows.envNilRow.loops == (Tryz.f11.params.toList ++ Rows.envNilSpec.plain.varTypes Tryz.prog).any (Tryz.prog.loopsFrom ·)) = true := by kernel_rfl
theorem nil_k17b : (Rows.envNilRow.wideKeys == (Tryz.f11.params.toList ++ Rows.envNilSpec.plain.varTypes Tryz.prog ++ Tryz.f11.resultTypes.toList).any (Tryz.prog.wideKeysFrom ·)) = true := by kernel_rfl
theorem nil_k18 : Rows.envNilSpec.vars.all (Tryz.prog.varReadable ·) = true := by kernel_rfl
theorem nil_k19 : Tryz.f11.resultTypes.all (fun t => Tryz.prog.readableRec t && decide (t < Tryz.prog.types.size)) = true := by kernel_rfl
theorem nil_k20 : (Rows.envNilRow.ifacesOut == Tryz.f11.resultTypes.toList.any (Tryz.prog.ifacesRec ·)) = true := by kernel_rfl
theorem nil_k21 : (Rows.envNilRow.loopsOut == Tryz.f11.resultTypes.toList.any (Tryz.prog.loopsFrom ·)) = true := by kernel_rfl
theorem nil_k22 : (Rows.envNilRow.plainKeys == Tryz.prog.plainKeys) = true := by kernel_rfl
theorem nil_k23 : Rows.envNilRow.shortTexts.isNone = true := by kernel_rfl
theorem nil_k23b : Tryz.prog.stopsHeard = true := by kernel_rfl
theorem nil_k24 : Tryz.prog.mayEnter = true := by kernel_rfl
theorem nil_k24b : (Rows.envNilRow.lifted == Tryz.prog.liftsFinal) = true := by kernel_rfl
theorem nil_k24c : (Tryz.prog.make == some Rows.envNilRow.make) = true := by kernel_rfl
theorem nil_k25 : Go.Ab.kindsOk Tryz.prog Tryz.f11 Rows.envNilRow = true := by kernel_rfl
theorem nil_k26 : (Rows.envNilRow.pinned == Rows.envNilRow.pinnedBy) = true := by kernel_rfl
theorem nil_k27 : (Rows.envNilRow.veiled == (Tryz.f11.params.toList ++ Rows.envNilSpec.plain.varTypes Tryz.prog ++ Tryz.f11.resultTypes.toList).any (Tryz.prog.veiledRec ·)) = true := by kernel_rfl
theorem nil_k28 : Rows.envNilRow.veiledFits Tryz.prog Tryz.f11.params.toList (Tryz.f11.params.toList ++ Rows.envNilSpec.plain.varTypes Tryz.prog ++ Tryz.f11.resultTypes.toList) = true := by kernel_rfl
set_option maxRecDepth 100000 in
theorem nil_joined : joinedFacts Tryz.prog 11 Tryz.f11 Rows.envNilSpec Rows.envNilRow = true :=
  @Go.Ab.joined_of Tryz.prog 11 Tryz.f11 Rows.envNilSpec Rows.envNilRow nil_k1 nil_k2 nil_k3 nil_k4 nil_k5 nil_k6 nil_k7 nil_k8 nil_k9 nil_k10 nil_k11 nil_k12 nil_k13 nil_k14 nil_k15 nil_k16 nil_k17 nil_k17b nil_k18 nil_k19 nil_k20 nil_k21 nil_k22 nil_k23 nil_k23b nil_k24 nil_k24b nil_k24c nil_k25 nil_k26 nil_k27 nil_k28
end Go.Proofs.YthekpkcmlndcmaaGreat
