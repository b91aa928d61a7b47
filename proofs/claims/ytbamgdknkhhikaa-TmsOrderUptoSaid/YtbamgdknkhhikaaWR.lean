/-
  The law's small fixed case says true, at every order of every map.
-/
import Derived.Test.YtbamgdknkhhikaaXC0
import Derived.Test.YtbamgdknkhhikaaWC0
import Derived.Test.YtbamgdknkhhikaaAbBridge
import Derived.KernelRfl
namespace Go.Proofs.Ytbamgdknkhhikaa
open Go.Ab

def tblW : List (Nat × AFun) := [(7, A7), (8, A8), (10, A10), (13, A13), (19, A19), (21, A21), (23, A23), (24, A24), (33, A33), (35, A35), (36, A36), (37, A37), (38, A38), (39, A39), (40, A40), (41, A41), (46, A46), (47, A47), (48, A48), (51, A51), (52, A52), (55, A55), (56, A56), (57, A57), (58, A58), (59, A59), (60, A60), (61, A61), (63, A63), (64, A64), (65, A65), (66, A66), (67, A67), (68, A68), (69, A69), (70, A70), (78, A78), (79, A79), (80, A80), (88, A88), (89, A89)]
set_option maxRecDepth 1000000 in
theorem runW : callN (envT tblW) 300 (.func 7) [] AHeap.empty (fun v _ => isTrue v) = true := by kernel_rfl
end Go.Proofs.Ytbamgdknkhhikaa
