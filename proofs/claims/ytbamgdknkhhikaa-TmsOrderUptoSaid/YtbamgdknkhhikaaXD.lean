/-
  The environment of the seat's functions; a call of each comes down to the function of Lean that stands for it (printed by wip/tools/gend.py).
-/
import Derived.Test.YtbamgdknkhhikaaXS0
import Derived.Test.YtbamgdknkhhikaaAbBridge
import Derived.Test.YtbamgdknkhhikaaXP
namespace Go.Proofs.Ytbamgdknkhhikaa
open Go.Ab

def tbl : List (Nat × AFun) := [(4, A4), (6, A6), (8, A8), (10, A10), (19, A19), (21, A21), (28, A28), (29, A29), (32, A32), (35, A35), (36, A36), (37, A37), (38, A38), (39, A39), (40, A40), (41, A41), (48, A48), (52, A52), (54, A54), (55, A55), (56, A56), (57, A57), (58, A58), (59, A59), (60, A60), (61, A61), (66, A66), (67, A67), (68, A68), (69, A69), (88, A88), (89, A89)]
noncomputable def E : Env := envP tbl prims
theorem primle : PrimLe E := envP_le prims_le

theorem d4 {n : Nat} {x0 : AV} {h : AHeap} {K : Kont} (s : s4 (callN E n) n x0 h K = true) : callN E (n + 1) (.func 4) [x0] h K = true := down primle rfl (w4_ok rfl) s
theorem d6 {n : Nat} {x0 : AV} {h : AHeap} {K : Kont} (s : s6 (callN E n) n x0 h K = true) : callN E (n + 1) (.func 6) [x0] h K = true := down primle rfl (w6_ok rfl) s
theorem d8 {n : Nat} {h : AHeap} {K : Kont} (s : s8 (callN E n) n  h K = true) : callN E (n + 1) (.func 8) [] h K = true := down primle rfl (w8_ok rfl) s
theorem d10 {n : Nat} {x0 x1 x2 : AV} {h : AHeap} {K : Kont} (s : s10 (callN E n) n x0 x1 x2 h K = true) : callN E (n + 1) (.func 10) [x0, x1, x2] h K = true := down primle rfl (w10_ok rfl) s
theorem d19 {n : Nat} {x0 x1 : AV} {h : AHeap} {K : Kont} (s : s19 (callN E n) n x0 x1 h K = true) : callN E (n + 1) (.func 19) [x0, x1] h K = true := down primle rfl (w19_ok rfl) s
theorem d21 {n : Nat} {x0 : AV} {h : AHeap} {K : Kont} (s : s21 (callN E n) n x0 h K = true) : callN E (n + 1) (.func 21) [x0] h K = true := down primle rfl (w21_ok rfl) s
theorem d28 {n : Nat} {x0 : AV} {h : AHeap} {K : Kont} (s : s28 (callN E n) n x0 h K = true) : callN E (n + 1) (.func 28) [x0] h K = true := down primle rfl (w28_ok rfl) s
theorem d29 {n : Nat} {x0 x1 : AV} {h : AHeap} {K : Kont} (s : s29 (callN E n) n x0 x1 h K = true) : callN E (n + 1) (.func 29) [x0, x1] h K = true := down primle rfl (w29_ok rfl) s
theorem d32 {n : Nat} {x0 : AV} {h : AHeap} {K : Kont} (s : s32 (callN E n) n x0 h K = true) : callN E (n + 1) (.func 32) [x0] h K = true := down primle rfl (w32_ok rfl) s
theorem d35 {n : Nat} {x0 : AV} {h : AHeap} {K : Kont} (s : s35 (callN E n) n x0 h K = true) : callN E (n + 1) (.func 35) [x0] h K = true := down primle rfl (w35_ok rfl) s
theorem d36 {n : Nat} {x0 x1 : AV} {h : AHeap} {K : Kont} (s : s36 (callN E n) n x0 x1 h K = true) : callN E (n + 1) (.func 36) [x0, x1] h K = true := down primle rfl (w36_ok rfl) s
theorem d37 {n : Nat} {x0 : AV} {h : AHeap} {K : Kont} (s : s37 (callN E n) n x0 h K = true) : callN E (n + 1) (.func 37) [x0] h K = true := down primle rfl (w37_ok rfl) s
theorem d38 {n : Nat} {x0 : AV} {h : AHeap} {K : Kont} (s : s38 (callN E n) n x0 h K = true) : callN E (n + 1) (.func 38) [x0] h K = true := down primle rfl (w38_ok rfl) s
theorem d39 {n : Nat} {x0 : AV} {h : AHeap} {K : Kont} (s : s39 (callN E n) n x0 h K = true) : callN E (n + 1) (.func 39) [x0] h K = true := down primle rfl (w39_ok rfl) s
theorem d40 {n : Nat} {x0 : AV} {h : AHeap} {K : Kont} (s : s40 (callN E n) n x0 h K = true) : callN E (n + 1) (.func 40) [x0] h K = true := down primle rfl (w40_ok rfl) s
theorem d41 {n : Nat} {x0 : AV} {h : AHeap} {K : Kont} (s : s41 (callN E n) n x0 h K = true) : callN E (n + 1) (.func 41) [x0] h K = true := down primle rfl (w41_ok rfl) s
theorem d48 {n : Nat} {x0 x1 x2 : AV} {h : AHeap} {K : Kont} (s : s48 (callN E n) n x0 x1 x2 h K = true) : callN E (n + 1) (.func 48) [x0, x1, x2] h K = true := down primle rfl (w48_ok rfl) s
theorem d52 {n : Nat} {x0 x1 : AV} {h : AHeap} {K : Kont} (s : s52 (callN E n) n x0 x1 h K = true) : callN E (n + 1) (.func 52) [x0, x1] h K = true := down primle rfl (w52_ok rfl) s
theorem d54 {n : Nat} {x0 x1 : AV} {h : AHeap} {K : Kont} (s : s54 (callN E n) n x0 x1 h K = true) : callN E (n + 1) (.func 54) [x0, x1] h K = true := down primle rfl (w54_ok rfl) s
theorem d55 {n : Nat} {x0 x1 : AV} {h : AHeap} {K : Kont} (s : s55 (callN E n) n x0 x1 h K = true) : callN E (n + 1) (.func 55) [x0, x1] h K = true := down primle rfl (w55_ok rfl) s
theorem d56 {n : Nat} {x0 : AV} {h : AHeap} {K : Kont} (s : s56 (callN E n) n x0 h K = true) : callN E (n + 1) (.func 56) [x0] h K = true := down primle rfl (w56_ok rfl) s
theorem d57 {n : Nat} {x0 : AV} {h : AHeap} {K : Kont} (s : s57 (callN E n) n x0 h K = true) : callN E (n + 1) (.func 57) [x0] h K = true := down primle rfl (w57_ok rfl) s
theorem d58 {n : Nat} {x0 x1 : AV} {h : AHeap} {K : Kont} (s : s58 (callN E n) n x0 x1 h K = true) : callN E (n + 1) (.func 58) [x0, x1] h K = true := down primle rfl (w58_ok rfl) s
theorem d59 {n : Nat} {x0 : AV} {h : AHeap} {K : Kont} (s : s59 (callN E n) n x0 h K = true) : callN E (n + 1) (.func 59) [x0] h K = true := down primle rfl (w59_ok rfl) s
theorem d60 {n : Nat} {x0 : AV} {h : AHeap} {K : Kont} (s : s60 (callN E n) n x0 h K = true) : callN E (n + 1) (.func 60) [x0] h K = true := down primle rfl (w60_ok rfl) s
theorem d61 {n : Nat} {x0 : AV} {h : AHeap} {K : Kont} (s : s61 (callN E n) n x0 h K = true) : callN E (n + 1) (.func 61) [x0] h K = true := down primle rfl (w61_ok rfl) s
theorem d66 {n : Nat} {x0 x1 : AV} {h : AHeap} {K : Kont} (s : s66 (callN E n) n x0 x1 h K = true) : callN E (n + 1) (.func 66) [x0, x1] h K = true := down primle rfl (w66_ok rfl) s
theorem d67 {n : Nat} {x0 x1 : AV} {h : AHeap} {K : Kont} (s : s67 (callN E n) n x0 x1 h K = true) : callN E (n + 1) (.func 67) [x0, x1] h K = true := down primle rfl (w67_ok rfl) s
theorem d68 {n : Nat} {x0 x1 : AV} {h : AHeap} {K : Kont} (s : s68 (callN E n) n x0 x1 h K = true) : callN E (n + 1) (.func 68) [x0, x1] h K = true := down primle rfl (w68_ok rfl) s
theorem d69 {n : Nat} {x0 x1 : AV} {h : AHeap} {K : Kont} (s : s69 (callN E n) n x0 x1 h K = true) : callN E (n + 1) (.func 69) [x0, x1] h K = true := down primle rfl (w69_ok rfl) s
theorem d88 {n : Nat} {x0 : AV} {h : AHeap} {K : Kont} (s : s88 (callN E n) n x0 h K = true) : callN E (n + 1) (.func 88) [x0] h K = true := down primle rfl (w88_ok rfl) s
theorem d89 {n : Nat} {x0 x1 x2 : AV} {h : AHeap} {K : Kont} (s : s89 (callN E n) n x0 x1 x2 h K = true) : callN E (n + 1) (.func 89) [x0, x1, x2] h K = true := down primle rfl (w89_ok rfl) s

end Go.Proofs.Ytbamgdknkhhikaa
