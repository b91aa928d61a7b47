/-
  StagedKinds: the abstract machine runs the law, at every order of every map: it says true.
-/
import Derived.Test.YtpleghnncpefoaaStagedKindsTab
namespace Go.Proofs.Ytpleghnncpefoaa.stagedKinds
open Go.Ab

set_option maxRecDepth 1000000 in
theorem run : callN (envT tbl) 200 (.func 5) [] AHeap.empty (fun v _ => isTrue v) = true := by kernel_rfl

end Go.Proofs.Ytpleghnncpefoaa.stagedKinds
