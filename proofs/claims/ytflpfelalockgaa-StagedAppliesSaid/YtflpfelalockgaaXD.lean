/-
  The environment of the seat's functions; a call of each comes down to the function of Lean that stands for it (printed by wip/tools/gend.py).
-/
import Derived.Test.YtflpfelalockgaaXS0
import Derived.Test.YtflpfelalockgaaAbBridge
import Derived.Test.YtflpfelalockgaaXP
namespace Go.Proofs.Ytflpfelalockgaa
open Go.Ab

def tbl : List (Nat × AFun) := [(3, A3), (4, A4), (5, A5), (6, A6), (7, A7), (8, A8), (9, A9), (10, A10), (11, A11), (12, A12), (13, A13), (14, A14), (15, A15), (16, A16), (17, A17), (18, A18), (19, A19), (20, A20), (21, A21), (22, A22), (23, A23), (24, A24), (25, A25), (26, A26), (27, A27), (29, A29)]
noncomputable def E : Env := envP tbl prims
theorem primle : PrimLe E := envP_le prims_le

theorem d3 {n : Nat} {x0 : AV} {h : AHeap} {K : Kont} (s : s3 (callN E n) n x0 h K = true) : callN E (n + 1) (.func 3) [x0] h K = true := down primle rfl (w3_ok rfl) s
theorem d4 {n : Nat} {x0 : AV} {h : AHeap} {K : Kont} (s : s4 (callN E n) n x0 h K = true) : callN E (n + 1) (.func 4) [x0] h K = true := down primle rfl (w4_ok rfl) s
theorem d5 {n : Nat} {x0 : AV} {h : AHeap} {K : Kont} (s : s5 (callN E n) n x0 h K = true) : callN E (n + 1) (.func 5) [x0] h K = true := down primle rfl (w5_ok rfl) s
theorem d6 {n : Nat} {h : AHeap} {K : Kont} (s : s6 (callN E n) n  h K = true) : callN E (n + 1) (.func 6) [] h K = true := down primle rfl (w6_ok rfl) s
theorem d7 {n : Nat} {x0 : AV} {h : AHeap} {K : Kont} (s : s7 (callN E n) n x0 h K = true) : callN E (n + 1) (.func 7) [x0] h K = true := down primle rfl (w7_ok rfl) s
theorem d8 {n : Nat} {x0 x1 : AV} {h : AHeap} {K : Kont} (s : s8 (callN E n) n x0 x1 h K = true) : callN E (n + 1) (.func 8) [x0, x1] h K = true := down primle rfl (w8_ok rfl) s
theorem d9 {n : Nat} {x0 : AV} {h : AHeap} {K : Kont} (s : s9 (callN E n) n x0 h K = true) : callN E (n + 1) (.func 9) [x0] h K = true := down primle rfl (w9_ok rfl) s
theorem d10 {n : Nat} {x0 x1 : AV} {h : AHeap} {K : Kont} (s : s10 (callN E n) n x0 x1 h K = true) : callN E (n + 1) (.func 10) [x0, x1] h K = true := down primle rfl (w10_ok rfl) s
theorem d11 {n : Nat} {h : AHeap} {K : Kont} (s : s11 (callN E n) n  h K = true) : callN E (n + 1) (.func 11) [] h K = true := down primle rfl (w11_ok rfl) s
theorem d12 {n : Nat} {x0 x1 x2 : AV} {h : AHeap} {K : Kont} (s : s12 (callN E n) n x0 x1 x2 h K = true) : callN E (n + 1) (.func 12) [x0, x1, x2] h K = true := down primle rfl (w12_ok rfl) s
theorem d13 {n : Nat} {x0 x1 : AV} {h : AHeap} {K : Kont} (s : s13 (callN E n) n x0 x1 h K = true) : callN E (n + 1) (.func 13) [x0, x1] h K = true := down primle rfl (w13_ok rfl) s
theorem d14 {n : Nat} {x0 x1 : AV} {h : AHeap} {K : Kont} (s : s14 (callN E n) n x0 x1 h K = true) : callN E (n + 1) (.func 14) [x0, x1] h K = true := down primle rfl (w14_ok rfl) s
theorem d15 {n : Nat} {x0 : AV} {h : AHeap} {K : Kont} (s : s15 (callN E n) n x0 h K = true) : callN E (n + 1) (.func 15) [x0] h K = true := down primle rfl (w15_ok rfl) s
theorem d16 {n : Nat} {x0 x1 : AV} {h : AHeap} {K : Kont} (s : s16 (callN E n) n x0 x1 h K = true) : callN E (n + 1) (.func 16) [x0, x1] h K = true := down primle rfl (w16_ok rfl) s
theorem d17 {n : Nat} {x0 x1 : AV} {h : AHeap} {K : Kont} (s : s17 (callN E n) n x0 x1 h K = true) : callN E (n + 1) (.func 17) [x0, x1] h K = true := down primle rfl (w17_ok rfl) s
theorem d18 {n : Nat} {x0 x1 : AV} {h : AHeap} {K : Kont} (s : s18 (callN E n) n x0 x1 h K = true) : callN E (n + 1) (.func 18) [x0, x1] h K = true := down primle rfl (w18_ok rfl) s
theorem d19 {n : Nat} {x0 x1 : AV} {h : AHeap} {K : Kont} (s : s19 (callN E n) n x0 x1 h K = true) : callN E (n + 1) (.func 19) [x0, x1] h K = true := down primle rfl (w19_ok rfl) s
theorem d20 {n : Nat} {x0 x1 : AV} {h : AHeap} {K : Kont} (s : s20 (callN E n) n x0 x1 h K = true) : callN E (n + 1) (.func 20) [x0, x1] h K = true := down primle rfl (w20_ok rfl) s
theorem d21 {n : Nat} {x0 x1 : AV} {h : AHeap} {K : Kont} (s : s21 (callN E n) n x0 x1 h K = true) : callN E (n + 1) (.func 21) [x0, x1] h K = true := down primle rfl (w21_ok rfl) s
theorem d22 {n : Nat} {x0 x1 : AV} {h : AHeap} {K : Kont} (s : s22 (callN E n) n x0 x1 h K = true) : callN E (n + 1) (.func 22) [x0, x1] h K = true := down primle rfl (w22_ok rfl) s
theorem d23 {n : Nat} {x0 : AV} {h : AHeap} {K : Kont} (s : s23 (callN E n) n x0 h K = true) : callN E (n + 1) (.func 23) [x0] h K = true := down primle rfl (w23_ok rfl) s
theorem d24 {n : Nat} {x0 x1 : AV} {h : AHeap} {K : Kont} (s : s24 (callN E n) n x0 x1 h K = true) : callN E (n + 1) (.func 24) [x0, x1] h K = true := down primle rfl (w24_ok rfl) s
theorem d25 {n : Nat} {x0 x1 : AV} {h : AHeap} {K : Kont} (s : s25 (callN E n) n x0 x1 h K = true) : callN E (n + 1) (.func 25) [x0, x1] h K = true := down primle rfl (w25_ok rfl) s
theorem d26 {n : Nat} {x0 x1 x2 : AV} {h : AHeap} {K : Kont} (s : s26 (callN E n) n x0 x1 x2 h K = true) : callN E (n + 1) (.func 26) [x0, x1, x2] h K = true := down primle rfl (w26_ok rfl) s
theorem d27 {n : Nat} {x0 : AV} {h : AHeap} {K : Kont} (s : s27 (callN E n) n x0 h K = true) : callN E (n + 1) (.func 27) [x0] h K = true := down primle rfl (w27_ok rfl) s
theorem d29 {n : Nat} {x0 x1 x2 : AV} {h : AHeap} {K : Kont} (s : s29 (callN E n) n x0 x1 x2 h K = true) : callN E (n + 1) (.func 29) [x0, x1, x2] h K = true := down primle rfl (w29_ok rfl) s

end Go.Proofs.Ytflpfelalockgaa
