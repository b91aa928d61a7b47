/-
  Functions that are not walked: slices.SortFunc; wakes.
-/
import Derived.Test.YtbamgdknkhhikaaAbSort
import Derived.Test.YtbamgdknkhhikaaAbSays
import Derived.Test.YtbamgdknkhhikaaXS0
namespace Go.Proofs.Ytbamgdknkhhikaa
open Go.Ab

noncomputable def prims : List (Nat × Prim) := [(51, sortP [52]), (7, saysT)]
theorem prims_le : AllMono prims := ⟨sortP_mono _, saysT_mono, trivial⟩
end Go.Proofs.Ytbamgdknkhhikaa
