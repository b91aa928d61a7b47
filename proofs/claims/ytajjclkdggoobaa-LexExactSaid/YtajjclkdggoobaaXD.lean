/-
  The environment of the seat's functions; a call of each comes down to the function of Lean that stands for it (printed by wip/tools/gend.py).
-/
import Derived.Test.YtajjclkdggoobaaXS0
import Derived.Test.YtajjclkdggoobaaXS1
import Derived.Test.YtajjclkdggoobaaAbBridge
import Derived.Test.YtajjclkdggoobaaXP
namespace Go.Proofs.Ytajjclkdggoobaa
open Go.Ab

def tbl : List (Nat × AFun) := [(3, A3), (4, A4), (5, A5), (6, A6), (7, A7), (8, A8), (9, A9), (10, A10), (11, A11), (12, A12), (13, A13), (14, A14), (15, A15), (16, A16), (17, A17), (18, A18), (19, A19), (20, A20), (21, A21), (22, A22), (23, A23), (24, A24), (25, A25), (26, A26), (27, A27), (28, A28), (29, A29), (30, A30), (31, A31), (32, A32), (33, A33), (36, A36), (37, A37), (38, A38), (39, A39), (40, A40), (41, A41), (42, A42), (43, A43), (44, A44), (45, A45), (46, A46)]
def E : Env := envP tbl prims
theorem primle : PrimLe E := envP_le prims_le

theorem d3 {n : Nat} {x0 : AV} {h : AHeap} {K : Kont} (s : s3 (callN E n) n x0 h K = true) : callN E (n + 1) (.func 3) [x0] h K = true := down primle rfl (w3_ok rfl) s
theorem d4 {n : Nat} {x0 : AV} {h : AHeap} {K : Kont} (s : s4 (callN E n) n x0 h K = true) : callN E (n + 1) (.func 4) [x0] h K = true := down primle rfl (w4_ok rfl) s
theorem d5 {n : Nat} {x0 : AV} {h : AHeap} {K : Kont} (s : s5 (callN E n) n x0 h K = true) : callN E (n + 1) (.func 5) [x0] h K = true := down primle rfl (w5_ok rfl) s
theorem d6 {n : Nat} {x0 : AV} {h : AHeap} {K : Kont} (s : s6 (callN E n) n x0 h K = true) : callN E (n + 1) (.func 6) [x0] h K = true := down primle rfl (w6_ok rfl) s
theorem d7 {n : Nat} {h : AHeap} {K : Kont} (s : s7 (callN E n) n  h K = true) : callN E (n + 1) (.func 7) [] h K = true := down primle rfl (w7_ok rfl) s
theorem d8 {n : Nat} {x0 : AV} {h : AHeap} {K : Kont} (s : s8 (callN E n) n x0 h K = true) : callN E (n + 1) (.func 8) [x0] h K = true := down primle rfl (w8_ok rfl) s
theorem d9 {n : Nat} {x0 : AV} {h : AHeap} {K : Kont} (s : s9 (callN E n) n x0 h K = true) : callN E (n + 1) (.func 9) [x0] h K = true := down primle rfl (w9_ok rfl) s
theorem d10 {n : Nat} {x0 : AV} {h : AHeap} {K : Kont} (s : s10 (callN E n) n x0 h K = true) : callN E (n + 1) (.func 10) [x0] h K = true := down primle rfl (w10_ok rfl) s
theorem d11 {n : Nat} {x0 : AV} {h : AHeap} {K : Kont} (s : s11 (callN E n) n x0 h K = true) : callN E (n + 1) (.func 11) [x0] h K = true := down primle rfl (w11_ok rfl) s
theorem d12 {n : Nat} {x0 : AV} {h : AHeap} {K : Kont} (s : s12 (callN E n) n x0 h K = true) : callN E (n + 1) (.func 12) [x0] h K = true := down primle rfl (w12_ok rfl) s
theorem d13 {n : Nat} {x0 : AV} {h : AHeap} {K : Kont} (s : s13 (callN E n) n x0 h K = true) : callN E (n + 1) (.func 13) [x0] h K = true := down primle rfl (w13_ok rfl) s
theorem d14 {n : Nat} {h : AHeap} {K : Kont} (s : s14 (callN E n) n  h K = true) : callN E (n + 1) (.func 14) [] h K = true := down primle rfl (w14_ok rfl) s
theorem d15 {n : Nat} {x0 : AV} {h : AHeap} {K : Kont} (s : s15 (callN E n) n x0 h K = true) : callN E (n + 1) (.func 15) [x0] h K = true := down primle rfl (w15_ok rfl) s
theorem d16 {n : Nat} {x0 : AV} {h : AHeap} {K : Kont} (s : s16 (callN E n) n x0 h K = true) : callN E (n + 1) (.func 16) [x0] h K = true := down primle rfl (w16_ok rfl) s
theorem d17 {n : Nat} {x0 : AV} {h : AHeap} {K : Kont} (s : s17 (callN E n) n x0 h K = true) : callN E (n + 1) (.func 17) [x0] h K = true := down primle rfl (w17_ok rfl) s
theorem d18 {n : Nat} {x0 x1 : AV} {h : AHeap} {K : Kont} (s : s18 (callN E n) n x0 x1 h K = true) : callN E (n + 1) (.func 18) [x0, x1] h K = true := down primle rfl (w18_ok rfl) s
theorem d19 {n : Nat} {x0 x1 : AV} {h : AHeap} {K : Kont} (s : s19 (callN E n) n x0 x1 h K = true) : callN E (n + 1) (.func 19) [x0, x1] h K = true := down primle rfl (w19_ok rfl) s
theorem d20 {n : Nat} {x0 x1 : AV} {h : AHeap} {K : Kont} (s : s20 (callN E n) n x0 x1 h K = true) : callN E (n + 1) (.func 20) [x0, x1] h K = true := down primle rfl (w20_ok rfl) s
theorem d21 {n : Nat} {x0 : AV} {h : AHeap} {K : Kont} (s : s21 (callN E n) n x0 h K = true) : callN E (n + 1) (.func 21) [x0] h K = true := down primle rfl (w21_ok rfl) s
theorem d22 {n : Nat} {x0 : AV} {h : AHeap} {K : Kont} (s : s22 (callN E n) n x0 h K = true) : callN E (n + 1) (.func 22) [x0] h K = true := down primle rfl (w22_ok rfl) s
theorem d23 {n : Nat} {x0 x1 : AV} {h : AHeap} {K : Kont} (s : s23 (callN E n) n x0 x1 h K = true) : callN E (n + 1) (.func 23) [x0, x1] h K = true := down primle rfl (w23_ok rfl) s
theorem d24 {n : Nat} {x0 x1 : AV} {h : AHeap} {K : Kont} (s : s24 (callN E n) n x0 x1 h K = true) : callN E (n + 1) (.func 24) [x0, x1] h K = true := down primle rfl (w24_ok rfl) s
theorem d25 {n : Nat} {x0 : AV} {h : AHeap} {K : Kont} (s : s25 (callN E n) n x0 h K = true) : callN E (n + 1) (.func 25) [x0] h K = true := down primle rfl (w25_ok rfl) s
theorem d26 {n : Nat} {x0 x1 : AV} {h : AHeap} {K : Kont} (s : s26 (callN E n) n x0 x1 h K = true) : callN E (n + 1) (.func 26) [x0, x1] h K = true := down primle rfl (w26_ok rfl) s
theorem d27 {n : Nat} {x0 x1 : AV} {h : AHeap} {K : Kont} (s : s27 (callN E n) n x0 x1 h K = true) : callN E (n + 1) (.func 27) [x0, x1] h K = true := down primle rfl (w27_ok rfl) s
theorem d28 {n : Nat} {x0 : AV} {h : AHeap} {K : Kont} (s : s28 (callN E n) n x0 h K = true) : callN E (n + 1) (.func 28) [x0] h K = true := down primle rfl (w28_ok rfl) s
theorem d29 {n : Nat} {x0 : AV} {h : AHeap} {K : Kont} (s : s29 (callN E n) n x0 h K = true) : callN E (n + 1) (.func 29) [x0] h K = true := down primle rfl (w29_ok rfl) s
theorem d30 {n : Nat} {x0 : AV} {h : AHeap} {K : Kont} (s : s30 (callN E n) n x0 h K = true) : callN E (n + 1) (.func 30) [x0] h K = true := down primle rfl (w30_ok rfl) s
theorem d31 {n : Nat} {x0 x1 : AV} {h : AHeap} {K : Kont} (s : s31 (callN E n) n x0 x1 h K = true) : callN E (n + 1) (.func 31) [x0, x1] h K = true := down primle rfl (w31_ok rfl) s
theorem d32 {n : Nat} {x0 : AV} {h : AHeap} {K : Kont} (s : s32 (callN E n) n x0 h K = true) : callN E (n + 1) (.func 32) [x0] h K = true := down primle rfl (w32_ok rfl) s
theorem d33 {n : Nat} {x0 x1 : AV} {h : AHeap} {K : Kont} (s : s33 (callN E n) n x0 x1 h K = true) : callN E (n + 1) (.func 33) [x0, x1] h K = true := down primle rfl (w33_ok rfl) s
theorem d36 {n : Nat} {x0 x1 : AV} {h : AHeap} {K : Kont} (s : s36 (callN E n) n x0 x1 h K = true) : callN E (n + 1) (.func 36) [x0, x1] h K = true := down primle rfl (w36_ok rfl) s
theorem d37 {n : Nat} {x0 x1 x2 : AV} {h : AHeap} {K : Kont} (s : s37 (callN E n) n x0 x1 x2 h K = true) : callN E (n + 1) (.func 37) [x0, x1, x2] h K = true := down primle rfl (w37_ok rfl) s
theorem d38 {n : Nat} {x0 : AV} {h : AHeap} {K : Kont} (s : s38 (callN E n) n x0 h K = true) : callN E (n + 1) (.func 38) [x0] h K = true := down primle rfl (w38_ok rfl) s
theorem d39 {n : Nat} {x0 x1 : AV} {h : AHeap} {K : Kont} (s : s39 (callN E n) n x0 x1 h K = true) : callN E (n + 1) (.func 39) [x0, x1] h K = true := down primle rfl (w39_ok rfl) s
theorem d40 {n : Nat} {x0 : AV} {h : AHeap} {K : Kont} (s : s40 (callN E n) n x0 h K = true) : callN E (n + 1) (.func 40) [x0] h K = true := down primle rfl (w40_ok rfl) s
theorem d41 {n : Nat} {x0 x1 x2 : AV} {h : AHeap} {K : Kont} (s : s41 (callN E n) n x0 x1 x2 h K = true) : callN E (n + 1) (.func 41) [x0, x1, x2] h K = true := down primle rfl (w41_ok rfl) s
theorem d42 {n : Nat} {x0 : AV} {h : AHeap} {K : Kont} (s : s42 (callN E n) n x0 h K = true) : callN E (n + 1) (.func 42) [x0] h K = true := down primle rfl (w42_ok rfl) s
theorem d43 {n : Nat} {x0 : AV} {h : AHeap} {K : Kont} (s : s43 (callN E n) n x0 h K = true) : callN E (n + 1) (.func 43) [x0] h K = true := down primle rfl (w43_ok rfl) s
theorem d44 {n : Nat} {x0 : AV} {h : AHeap} {K : Kont} (s : s44 (callN E n) n x0 h K = true) : callN E (n + 1) (.func 44) [x0] h K = true := down primle rfl (w44_ok rfl) s
theorem d45 {n : Nat} {x0 x1 : AV} {h : AHeap} {K : Kont} (s : s45 (callN E n) n x0 x1 h K = true) : callN E (n + 1) (.func 45) [x0, x1] h K = true := down primle rfl (w45_ok rfl) s
theorem d46 {n : Nat} {x0 x1 : AV} {h : AHeap} {K : Kont} (s : s46 (callN E n) n x0 x1 h K = true) : callN E (n + 1) (.func 46) [x0, x1] h K = true := down primle rfl (w46_ok rfl) s

end Go.Proofs.Ytajjclkdggoobaa
