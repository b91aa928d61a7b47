/-
  The environment of the seat's functions; a call of each comes down to the function of Lean that stands for it (printed by wip/tools/gend.py).
-/
import Derived.Test.YtjdpdjmmbajglaaXS0
import Derived.Test.YtjdpdjmmbajglaaXS1
import Derived.Test.YtjdpdjmmbajglaaAbBridge
namespace Go.Proofs.Ytjdpdjmmbajglaa
open Go.Ab

def tbl : List (Nat × AFun) := [(7, A7), (8, A8), (9, A9), (11, A11), (14, A14), (15, A15), (16, A16), (18, A18), (19, A19), (20, A20), (21, A21), (22, A22), (24, A24), (25, A25), (26, A26), (27, A27), (28, A28), (29, A29), (30, A30), (31, A31), (32, A32), (33, A33), (34, A34), (35, A35), (36, A36), (38, A38), (39, A39), (40, A40), (41, A41), (42, A42), (43, A43), (44, A44), (45, A45), (46, A46), (47, A47), (48, A48), (49, A49), (50, A50), (51, A51), (52, A52), (53, A53), (54, A54), (55, A55), (56, A56)]
def E : Env := envT tbl

theorem d7 {n : Nat} {x0 : AV} {h : AHeap} {K : Kont} (s : s7 (callN E n) n x0 h K = true) : callN E (n + 1) (.func 7) [x0] h K = true := down (fun _ => rfl) (w7_ok rfl) s
theorem d8 {n : Nat} {x0 : AV} {h : AHeap} {K : Kont} (s : s8 (callN E n) n x0 h K = true) : callN E (n + 1) (.func 8) [x0] h K = true := down (fun _ => rfl) (w8_ok rfl) s
theorem d9 {n : Nat} {h : AHeap} {K : Kont} (s : s9 (callN E n) n  h K = true) : callN E (n + 1) (.func 9) [] h K = true := down (fun _ => rfl) (w9_ok rfl) s
theorem d11 {n : Nat} {x0 : AV} {h : AHeap} {K : Kont} (s : s11 (callN E n) n x0 h K = true) : callN E (n + 1) (.func 11) [x0] h K = true := down (fun _ => rfl) (w11_ok rfl) s
theorem d14 {n : Nat} {x0 x1 x2 : AV} {h : AHeap} {K : Kont} (s : s14 (callN E n) n x0 x1 x2 h K = true) : callN E (n + 1) (.func 14) [x0, x1, x2] h K = true := down (fun _ => rfl) (w14_ok rfl) s
theorem d15 {n : Nat} {x0 x1 x2 : AV} {h : AHeap} {K : Kont} (s : s15 (callN E n) n x0 x1 x2 h K = true) : callN E (n + 1) (.func 15) [x0, x1, x2] h K = true := down (fun _ => rfl) (w15_ok rfl) s
theorem d16 {n : Nat} {x0 x1 : AV} {h : AHeap} {K : Kont} (s : s16 (callN E n) n x0 x1 h K = true) : callN E (n + 1) (.func 16) [x0, x1] h K = true := down (fun _ => rfl) (w16_ok rfl) s
theorem d18 {n : Nat} {x0 x1 x2 : AV} {h : AHeap} {K : Kont} (s : s18 (callN E n) n x0 x1 x2 h K = true) : callN E (n + 1) (.func 18) [x0, x1, x2] h K = true := down (fun _ => rfl) (w18_ok rfl) s
theorem d19 {n : Nat} {x0 x1 : AV} {h : AHeap} {K : Kont} (s : s19 (callN E n) n x0 x1 h K = true) : callN E (n + 1) (.func 19) [x0, x1] h K = true := down (fun _ => rfl) (w19_ok rfl) s
theorem d20 {n : Nat} {x0 x1 : AV} {h : AHeap} {K : Kont} (s : s20 (callN E n) n x0 x1 h K = true) : callN E (n + 1) (.func 20) [x0, x1] h K = true := down (fun _ => rfl) (w20_ok rfl) s
theorem d21 {n : Nat} {x0 x1 : AV} {h : AHeap} {K : Kont} (s : s21 (callN E n) n x0 x1 h K = true) : callN E (n + 1) (.func 21) [x0, x1] h K = true := down (fun _ => rfl) (w21_ok rfl) s
theorem d22 {n : Nat} {x0 x1 : AV} {h : AHeap} {K : Kont} (s : s22 (callN E n) n x0 x1 h K = true) : callN E (n + 1) (.func 22) [x0, x1] h K = true := down (fun _ => rfl) (w22_ok rfl) s
theorem d24 {n : Nat} {x0 : AV} {h : AHeap} {K : Kont} (s : s24 (callN E n) n x0 h K = true) : callN E (n + 1) (.func 24) [x0] h K = true := down (fun _ => rfl) (w24_ok rfl) s
theorem d25 {n : Nat} {x0 x1 : AV} {h : AHeap} {K : Kont} (s : s25 (callN E n) n x0 x1 h K = true) : callN E (n + 1) (.func 25) [x0, x1] h K = true := down (fun _ => rfl) (w25_ok rfl) s
theorem d26 {n : Nat} {x0 x1 : AV} {h : AHeap} {K : Kont} (s : s26 (callN E n) n x0 x1 h K = true) : callN E (n + 1) (.func 26) [x0, x1] h K = true := down (fun _ => rfl) (w26_ok rfl) s
theorem d27 {n : Nat} {x0 x1 x2 x3 : AV} {h : AHeap} {K : Kont} (s : s27 (callN E n) n x0 x1 x2 x3 h K = true) : callN E (n + 1) (.func 27) [x0, x1, x2, x3] h K = true := down (fun _ => rfl) (w27_ok rfl) s
theorem d28 {n : Nat} {x0 x1 x2 x3 : AV} {h : AHeap} {K : Kont} (s : s28 (callN E n) n x0 x1 x2 x3 h K = true) : callN E (n + 1) (.func 28) [x0, x1, x2, x3] h K = true := down (fun _ => rfl) (w28_ok rfl) s
theorem d29 {n : Nat} {h : AHeap} {K : Kont} (s : s29 (callN E n) n  h K = true) : callN E (n + 1) (.func 29) [] h K = true := down (fun _ => rfl) (w29_ok rfl) s
theorem d30 {n : Nat} {x0 x1 x2 : AV} {h : AHeap} {K : Kont} (s : s30 (callN E n) n x0 x1 x2 h K = true) : callN E (n + 1) (.func 30) [x0, x1, x2] h K = true := down (fun _ => rfl) (w30_ok rfl) s
theorem d31 {n : Nat} {x0 : AV} {h : AHeap} {K : Kont} (s : s31 (callN E n) n x0 h K = true) : callN E (n + 1) (.func 31) [x0] h K = true := down (fun _ => rfl) (w31_ok rfl) s
theorem d32 {n : Nat} {x0 : AV} {h : AHeap} {K : Kont} (s : s32 (callN E n) n x0 h K = true) : callN E (n + 1) (.func 32) [x0] h K = true := down (fun _ => rfl) (w32_ok rfl) s
theorem d33 {n : Nat} {x0 x1 : AV} {h : AHeap} {K : Kont} (s : s33 (callN E n) n x0 x1 h K = true) : callN E (n + 1) (.func 33) [x0, x1] h K = true := down (fun _ => rfl) (w33_ok rfl) s
theorem d34 {n : Nat} {x0 x1 : AV} {h : AHeap} {K : Kont} (s : s34 (callN E n) n x0 x1 h K = true) : callN E (n + 1) (.func 34) [x0, x1] h K = true := down (fun _ => rfl) (w34_ok rfl) s
theorem d35 {n : Nat} {x0 x1 : AV} {h : AHeap} {K : Kont} (s : s35 (callN E n) n x0 x1 h K = true) : callN E (n + 1) (.func 35) [x0, x1] h K = true := down (fun _ => rfl) (w35_ok rfl) s
theorem d36 {n : Nat} {x0 x1 x2 : AV} {h : AHeap} {K : Kont} (s : s36 (callN E n) n x0 x1 x2 h K = true) : callN E (n + 1) (.func 36) [x0, x1, x2] h K = true := down (fun _ => rfl) (w36_ok rfl) s
theorem d38 {n : Nat} {x0 x1 : AV} {h : AHeap} {K : Kont} (s : s38 (callN E n) n x0 x1 h K = true) : callN E (n + 1) (.func 38) [x0, x1] h K = true := down (fun _ => rfl) (w38_ok rfl) s
theorem d39 {n : Nat} {x0 : AV} {h : AHeap} {K : Kont} (s : s39 (callN E n) n x0 h K = true) : callN E (n + 1) (.func 39) [x0] h K = true := down (fun _ => rfl) (w39_ok rfl) s
theorem d40 {n : Nat} {x0 x1 : AV} {h : AHeap} {K : Kont} (s : s40 (callN E n) n x0 x1 h K = true) : callN E (n + 1) (.func 40) [x0, x1] h K = true := down (fun _ => rfl) (w40_ok rfl) s
theorem d41 {n : Nat} {x0 : AV} {h : AHeap} {K : Kont} (s : s41 (callN E n) n x0 h K = true) : callN E (n + 1) (.func 41) [x0] h K = true := down (fun _ => rfl) (w41_ok rfl) s
theorem d42 {n : Nat} {x0 : AV} {h : AHeap} {K : Kont} (s : s42 (callN E n) n x0 h K = true) : callN E (n + 1) (.func 42) [x0] h K = true := down (fun _ => rfl) (w42_ok rfl) s
theorem d43 {n : Nat} {x0 : AV} {h : AHeap} {K : Kont} (s : s43 (callN E n) n x0 h K = true) : callN E (n + 1) (.func 43) [x0] h K = true := down (fun _ => rfl) (w43_ok rfl) s
theorem d44 {n : Nat} {x0 x1 : AV} {h : AHeap} {K : Kont} (s : s44 (callN E n) n x0 x1 h K = true) : callN E (n + 1) (.func 44) [x0, x1] h K = true := down (fun _ => rfl) (w44_ok rfl) s
theorem d45 {n : Nat} {x0 x1 : AV} {h : AHeap} {K : Kont} (s : s45 (callN E n) n x0 x1 h K = true) : callN E (n + 1) (.func 45) [x0, x1] h K = true := down (fun _ => rfl) (w45_ok rfl) s
theorem d46 {n : Nat} {x0 : AV} {h : AHeap} {K : Kont} (s : s46 (callN E n) n x0 h K = true) : callN E (n + 1) (.func 46) [x0] h K = true := down (fun _ => rfl) (w46_ok rfl) s
theorem d47 {n : Nat} {x0 : AV} {h : AHeap} {K : Kont} (s : s47 (callN E n) n x0 h K = true) : callN E (n + 1) (.func 47) [x0] h K = true := down (fun _ => rfl) (w47_ok rfl) s
theorem d48 {n : Nat} {x0 x1 : AV} {h : AHeap} {K : Kont} (s : s48 (callN E n) n x0 x1 h K = true) : callN E (n + 1) (.func 48) [x0, x1] h K = true := down (fun _ => rfl) (w48_ok rfl) s
theorem d49 {n : Nat} {x0 x1 : AV} {h : AHeap} {K : Kont} (s : s49 (callN E n) n x0 x1 h K = true) : callN E (n + 1) (.func 49) [x0, x1] h K = true := down (fun _ => rfl) (w49_ok rfl) s
theorem d50 {n : Nat} {x0 x1 x2 : AV} {h : AHeap} {K : Kont} (s : s50 (callN E n) n x0 x1 x2 h K = true) : callN E (n + 1) (.func 50) [x0, x1, x2] h K = true := down (fun _ => rfl) (w50_ok rfl) s
theorem d51 {n : Nat} {x0 x1 : AV} {h : AHeap} {K : Kont} (s : s51 (callN E n) n x0 x1 h K = true) : callN E (n + 1) (.func 51) [x0, x1] h K = true := down (fun _ => rfl) (w51_ok rfl) s
theorem d52 {n : Nat} {x0 x1 : AV} {h : AHeap} {K : Kont} (s : s52 (callN E n) n x0 x1 h K = true) : callN E (n + 1) (.func 52) [x0, x1] h K = true := down (fun _ => rfl) (w52_ok rfl) s
theorem d53 {n : Nat} {x0 x1 : AV} {h : AHeap} {K : Kont} (s : s53 (callN E n) n x0 x1 h K = true) : callN E (n + 1) (.func 53) [x0, x1] h K = true := down (fun _ => rfl) (w53_ok rfl) s
theorem d54 {n : Nat} {x0 : AV} {h : AHeap} {K : Kont} (s : s54 (callN E n) n x0 h K = true) : callN E (n + 1) (.func 54) [x0] h K = true := down (fun _ => rfl) (w54_ok rfl) s
theorem d55 {n : Nat} {x0 x1 : AV} {h : AHeap} {K : Kont} (s : s55 (callN E n) n x0 x1 h K = true) : callN E (n + 1) (.func 55) [x0, x1] h K = true := down (fun _ => rfl) (w55_ok rfl) s
theorem d56 {n : Nat} {x0 : AV} {h : AHeap} {K : Kont} (s : s56 (callN E n) n x0 h K = true) : callN E (n + 1) (.func 56) [x0] h K = true := down (fun _ => rfl) (w56_ok rfl) s

end Go.Proofs.Ytjdpdjmmbajglaa
