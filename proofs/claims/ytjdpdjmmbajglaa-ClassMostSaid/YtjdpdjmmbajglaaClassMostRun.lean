/-
  ClassMost: the functions of Lean say true, at every order of every map.
-/
import Derived.Test.YtjdpdjmmbajglaaClassMostT
import Derived.Test.YtjdpdjmmbajglaaAbBridge
import Derived.KernelRfl
namespace Go.Proofs.Ytjdpdjmmbajglaa.classMost
open Go.Ab

set_option maxRecDepth 1000000 in
theorem runS : callS tab 200 (.func 6) [] AHeap.empty (fun v _ => isTrue v) = true := by kernel_rfl

end Go.Proofs.Ytjdpdjmmbajglaa.classMost
