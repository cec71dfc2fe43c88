/- EnvNil: the evaluator's run, of arguments that are not looked into. -/
import Derived.Test.YthekpkcmlndcmaaGreatTabOk
namespace Go.Ab.T
open Go Go.Ab
theorem run : isT (evCall2 E0 tab 100000 (99999 + 1) (.fn 11 [] []) [.agg (opqs 21 0), .opq 21, .agg (opqs 8 22)] AS.empty) = true := by kernel_rfl
end Go.Ab.T
