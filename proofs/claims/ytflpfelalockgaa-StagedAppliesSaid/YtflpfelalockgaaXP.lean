/-
  Functions that are not walked: slices.SortFunc.
-/
import Derived.Test.YtflpfelalockgaaAbSort
import Derived.Test.YtflpfelalockgaaXS0
namespace Go.Proofs.Ytflpfelalockgaa
open Go.Ab

noncomputable def prims : List (Nat × Prim) := [(28, sortP [29])]
theorem prims_le : AllMono prims := ⟨sortP_mono _, trivial⟩
end Go.Proofs.Ytflpfelalockgaa
