/-
  The functions of the seat that are not walked.
-/
import Derived.Test.YtajjclkdggoobaaAbPrim
namespace Go.Proofs.Ytajjclkdggoobaa
open Go.Ab

def prims : List (Nat × Prim) := [(34, noEsc), (35, idxByte)]
theorem prims_le : AllMono prims := ⟨noEsc_mono, idxByte_mono, trivial⟩
end Go.Proofs.Ytajjclkdggoobaa
