/-
  The functions say no more than the code: so the kernel finds (printed by wip/tools/gen2.py).
-/
import Derived.Test.YtjfhlmakfgbcoaaGreatDoorXS1
import Derived.Test.YtjfhlmakfgbcoaaGreatDoorAbDn
import Derived.Test.YtjfhlmakfgbcoaaGreatDoorProg
import Derived.KernelRfl
namespace Go.Proofs.YtjfhlmakfgbcoaaGreatDoor
open Go.Ab
set_option linter.unusedVariables false

noncomputable def T3 (call : CallFn) (n : Nat) (K : Kont) : Sp := {
  pt := fun β j => ifF j 4001 (pA1 (p3_4001 call n) K) <| ifF j 6001 (pA1 (p3_6001 call n) K) <| ifF j 16001 (pA3 (p3_16001 call n) K) <| ifF j 18001 (pA3 (p3_18001 call n) K) <| ifF j 28001 (pA2 (p3_28001 call n) K) <| ifF j 30001 (pA3 (p3_30001 call n) K) <| ifF j 33001 (pA4 (p3_33001 call n) K) <| ifF j 33002 (pA3 (p3_33002 call n) K) <| ifF j 42001 (pA2 (p3_42001 call n) K) <| ifF j 44001 (pA3 (p3_44001 call n) K) <| ifF j 44002 (pA2 (p3_44002 call n) K) <| ifF j 44003 (pA2 (p3_44003 call n) K) <| noP
  fs := fun β j => noP
  rd := fun β j => noP
  lp := fun β j m => noP }
@[irreducible] noncomputable def A3 : AFun := (compFn Tryz.prog Tryz.f3).getD ⟨0, [], .skip⟩
noncomputable def w3 : Sh := shW 0 fun call n K => pA0 (s3 call n) K
theorem w3_ok {E : Env} (e : E.code 3 = some A3) (hp : E.prim 3 = none) : ShOK E 3 w3 := shW_ok (A := { pts := [], lps := [], cuts := [(3, [(1, 4001, [12])]), (5, [(2, 6001, [18])]), (15, [(2, 16001, [4, 27, 28])]), (17, [(2, 18001, [4, 33, 34])]), (27, [(2, 28001, [4, 48])]), (29, [(2, 30001, [4, 6, 52])]), (32, [(14, 33001, [4, 7, 66, 68]), (7, 33002, [4, 72, 75])]), (41, [(2, 42001, [4, 82])]), (43, [(9, 44001, [4, 91, 93]), (6, 44002, [97, 99]), (6, 44003, [104, 105])])] }) (S := T3) e hp (by kernel_rfl) (by kernel_rfl) (by kernel_rfl)

noncomputable def T4 (call : CallFn) (n : Nat) (K : Kont) : Sp := {
  pt := fun β j => ifF j 4001 (pA1 (p4_4001 call n) K) <| ifF j 6001 (pA1 (p4_6001 call n) K) <| ifF j 18001 (pA4 (p4_18001 call n) K) <| ifF j 22001 (pA3 (p4_22001 call n) K) <| ifF j 26001 (pA4 (p4_26001 call n) K) <| ifF j 28001 (pA3 (p4_28001 call n) K) <| ifF j 32001 (pA5 (p4_32001 call n) K) <| ifF j 34001 (pA4 (p4_34001 call n) K) <| ifF j 38001 (pA6 (p4_38001 call n) K) <| ifF j 40001 (pA5 (p4_40001 call n) K) <| ifF j 44001 (pA7 (p4_44001 call n) K) <| ifF j 46001 (pA6 (p4_46001 call n) K) <| ifF j 50001 (pA7 (p4_50001 call n) K) <| ifF j 54001 (pA6 (p4_54001 call n) K) <| ifF j 58001 (pA7 (p4_58001 call n) K) <| ifF j 60001 (pA3 (p4_60001 call n) K) <| ifF j 60002 (pA3 (p4_60002 call n) K) <| ifF j 60003 (pA2 (p4_60003 call n) K) <| ifF j 60004 (pA2 (p4_60004 call n) K) <| ifF j 60005 (pA2 (p4_60005 call n) K) <| noP
  fs := fun β j => noP
  rd := fun β j => noP
  lp := fun β j m => noP }
@[irreducible] noncomputable def A4 : AFun := (compFn Tryz.prog Tryz.f4).getD ⟨0, [], .skip⟩
noncomputable def w4 : Sh := shW 0 fun call n K => pA0 (s4 call n) K
theorem w4_ok {E : Env} (e : E.code 4 = some A4) (hp : E.prim 4 = none) : ShOK E 4 w4 := shW_ok (A := { pts := [], lps := [], cuts := [(3, [(1, 4001, [18])]), (5, [(2, 6001, [24])]), (17, [(3, 18001, [4, 6, 33, 35])]), (21, [(2, 22001, [4, 6, 41])]), (25, [(3, 26001, [4, 6, 47, 49])]), (27, [(2, 28001, [4, 6, 52])]), (31, [(3, 32001, [4, 6, 9, 56, 58])]), (33, [(2, 34001, [4, 6, 9, 61])]), (37, [(3, 38001, [4, 6, 9, 10, 65, 67])]), (39, [(2, 40001, [4, 6, 9, 10, 70])]), (43, [(3, 44001, [4, 6, 9, 10, 11, 74, 76])]), (45, [(2, 46001, [4, 6, 9, 10, 11, 79])]), (49, [(3, 50001, [4, 9, 10, 11, 12, 83, 85])]), (53, [(2, 54001, [4, 9, 10, 11, 12, 91])]), (57, [(2, 58001, [4, 9, 10, 11, 12, 14, 98])]), (59, [(29, 60001, [4, 127, 129]), (2, 60002, [4, 127, 131]), (4, 60003, [133, 135]), (2, 60004, [133, 137]), (3, 60005, [139, 140])])] }) (S := T4) e hp (by kernel_rfl) (by kernel_rfl) (by kernel_rfl)

noncomputable def T5 (call : CallFn) (n : Nat) (K : Kont) : Sp := {
  pt := fun β j => ifF j 6001 (pA3 (p5_6001 call n) K) <| noP
  fs := fun β j => noP
  rd := fun β j => noP
  lp := fun β j m => noP }
@[irreducible] noncomputable def A5 : AFun := (compFn Tryz.prog Tryz.f5).getD ⟨0, [], .skip⟩
noncomputable def w5 : Sh := shW 1 fun call n K => pA1 (s5 call n) K
theorem w5_ok {E : Env} (e : E.code 5 = some A5) (hp : E.prim 5 = none) : ShOK E 5 w5 := shW_ok (A := { pts := [], lps := [], cuts := [(5, [(3, 6001, [2, 5, 11])])] }) (S := T5) e hp (by kernel_rfl) (by kernel_rfl) (by kernel_rfl)

noncomputable def T6 (call : CallFn) (n : Nat) (K : Kont) : Sp := {
  pt := fun β j => ifF j 4001 (pA2 (p6_4001 call n) K) <| noP
  fs := fun β j => noP
  rd := fun β j => noP
  lp := fun β j m => noP }
@[irreducible] noncomputable def A6 : AFun := (compFn Tryz.prog Tryz.f6).getD ⟨0, [], .skip⟩
noncomputable def w6 : Sh := shW 1 fun call n K => pA1 (s6 call n) K
theorem w6_ok {E : Env} (e : E.code 6 = some A6) (hp : E.prim 6 = none) : ShOK E 6 w6 := shW_ok (A := { pts := [], lps := [], cuts := [(3, [(2, 4001, [1, 8])])] }) (S := T6) e hp (by kernel_rfl) (by kernel_rfl) (by kernel_rfl)

noncomputable def T7 (call : CallFn) (n : Nat) (K : Kont) : Sp := {
  pt := fun β j => ifF j 10 (pA3 (p7_10 call n) K) <| ifF j 56 (pA7 (p7_56 call n (pF7 (pB 0 β))) K) <| ifF j 57 (pA3 (p7_57 call n) K) <| ifF j 14001 (pA5 (p7_14001 call n) K) <| ifF j 34001 (pA10 (p7_34001 call n (pF7 (pB 0 β))) K) <| ifF j 55001 (pA10 (p7_55001 call n (pF7 (pB 0 β))) K) <| noP
  fs := fun β j => noP
  rd := fun β j => ifF j 20 (pA7 (b7_20 call n (pF7 (pB 0 β))) K) <| noP
  lp := fun β j m => ifL j 20 (pC7 (l7_20 call n m) K) <| noP }
@[irreducible] noncomputable def A7 : AFun := (compFn Tryz.prog Tryz.f7).getD ⟨0, [], .skip⟩
noncomputable def w7 : Sh := shW 3 fun call n K => pA3 (s7 call n) K
theorem w7_ok {E : Env} (e : E.code 7 = some A7) (hp : E.prim 7 = none) : ShOK E 7 w7 := shW_ok (A := { pts := [(10, [0, 1, 2]), (56, [0, 1, 7, 9, 63, 64, 65]), (57, [0, 1, 7])], lps := [(20, [0, 1, 7, 9, 63, 64, 65])], cuts := [(13, [(3, 14001, [0, 1, 2, 7, 27])]), (33, [(7, 34001, [0, 1, 7, 9, 11, 63, 64, 65, 73, 75])]), (54, [(4, 55001, [0, 1, 7, 9, 63, 64, 65, 99, 100, 102])])] }) (S := T7) e hp (by kernel_rfl) (by kernel_rfl) (by kernel_rfl)

@[irreducible] noncomputable def A8 : AFun := (compFn Tryz.prog Tryz.f8).getD ⟨0, [], .skip⟩
noncomputable def w8 : Sh := shW 2 fun call n K => pA2 (s8 call n) K
theorem w8_ok {E : Env} (e : E.code 8 = some A8) (hp : E.prim 8 = none) : ShOK E 8 w8 := shW_ok (A := { pts := [], lps := [] }) (S := noS) e hp (by kernel_rfl) (by kernel_rfl) (by kernel_rfl)

noncomputable def T9 (call : CallFn) (n : Nat) (K : Kont) : Sp := {
  pt := fun β j => ifF j 2001 (pA3 (p9_2001 call n) K) <| noP
  fs := fun β j => noP
  rd := fun β j => noP
  lp := fun β j m => noP }
@[irreducible] noncomputable def A9 : AFun := (compFn Tryz.prog Tryz.f9).getD ⟨0, [], .skip⟩
noncomputable def w9 : Sh := shW 2 fun call n K => pA2 (s9 call n) K
theorem w9_ok {E : Env} (e : E.code 9 = some A9) (hp : E.prim 9 = none) : ShOK E 9 w9 := shW_ok (A := { pts := [], lps := [], cuts := [(1, [(2, 2001, [0, 1, 5])])] }) (S := T9) e hp (by kernel_rfl) (by kernel_rfl) (by kernel_rfl)

@[irreducible] noncomputable def A10 : AFun := (compFn Tryz.prog Tryz.f10).getD ⟨0, [], .skip⟩
noncomputable def w10 : Sh := shW 1 fun call n K => pA1 (s10 call n) K
theorem w10_ok {E : Env} (e : E.code 10 = some A10) (hp : E.prim 10 = none) : ShOK E 10 w10 := shW_ok (A := { pts := [], lps := [] }) (S := noS) e hp (by kernel_rfl) (by kernel_rfl) (by kernel_rfl)

noncomputable def T11 (call : CallFn) (n : Nat) (K : Kont) : Sp := {
  pt := fun β j => ifF j 30 (pA2 (p11_30 call n (pF2 (pB 0 β))) K) <| ifF j 8001 (pA4 (p11_8001 call n (pF2 (pB 0 β))) K) <| ifF j 19001 (pA4 (p11_19001 call n (pF2 (pB 1 β)) (pF3 (pB 0 β))) K) <| ifF j 21001 (pA5 (p11_21001 call n (pF2 (pB 1 β)) (pF3 (pB 0 β))) K) <| ifF j 28001 (pA2 (p11_28001 call n (pF2 (pB 1 β)) (pF3 (pB 0 β))) K) <| noP
  fs := fun β j => noP
  rd := fun β j => ifF j 3 (pA2 (b11_3 call n (pF2 (pB 0 β))) K) <| ifF j 9 (pA3 (b11_9 call n (pF2 (pB 1 β)) (pF3 (pB 0 β))) K) <| noP
  lp := fun β j m => ifL j 3 (pC2 (l11_3 call n m) K) <| ifL j 9 (pC3 (l11_9 call n (pF2 (pB 0 β)) m) K) <| noP }
@[irreducible] noncomputable def A11 : AFun := (compFn Tryz.prog Tryz.f11).getD ⟨0, [], .skip⟩
noncomputable def w11 : Sh := shW 1 fun call n K => pA1 (s11 call n) K
theorem w11_ok {E : Env} (e : E.code 11 = some A11) (hp : E.prim 11 = none) : ShOK E 11 w11 := shW_ok (A := { pts := [(30, [0, 2])], lps := [(3, [0, 2]), (9, [0, 2, 4])], cuts := [(7, [(3, 8001, [0, 2, 9, 11])]), (18, [(2, 19001, [0, 2, 4, 20])]), (20, [(4, 21001, [0, 2, 4, 5, 24])]), (27, [(2, 28001, [2, 41])])] }) (S := T11) e hp (by kernel_rfl) (by kernel_rfl) (by kernel_rfl)

@[irreducible] noncomputable def A12 : AFun := (compFn Tryz.prog Tryz.f12).getD ⟨0, [], .skip⟩
noncomputable def w12 : Sh := shW 2 fun call n K => pA2 (s12 call n) K
theorem w12_ok {E : Env} (e : E.code 12 = some A12) (hp : E.prim 12 = none) : ShOK E 12 w12 := shW_ok (A := { pts := [], lps := [] }) (S := noS) e hp (by kernel_rfl) (by kernel_rfl) (by kernel_rfl)

@[irreducible] noncomputable def A13 : AFun := (compFn Tryz.prog Tryz.f13).getD ⟨0, [], .skip⟩
noncomputable def w13 : Sh := shW 1 fun call n K => pA1 (s13 call n) K
theorem w13_ok {E : Env} (e : E.code 13 = some A13) (hp : E.prim 13 = none) : ShOK E 13 w13 := shW_ok (A := { pts := [], lps := [] }) (S := noS) e hp (by kernel_rfl) (by kernel_rfl) (by kernel_rfl)

noncomputable def T14 (call : CallFn) (n : Nat) (K : Kont) : Sp := {
  pt := fun β j => ifF j 4001 (pA1 (p14_4001 call n) K) <| ifF j 6001 (pA1 (p14_6001 call n) K) <| ifF j 16001 (pA2 (p14_16001 call n) K) <| ifF j 18001 (pA3 (p14_18001 call n) K) <| ifF j 20001 (pA4 (p14_20001 call n) K) <| ifF j 23001 (pA4 (p14_23001 call n) K) <| ifF j 23002 (pA3 (p14_23002 call n) K) <| ifF j 30001 (pA2 (p14_30001 call n) K) <| ifF j 36001 (pA5 (p14_36001 call n) K) <| ifF j 38001 (pA3 (p14_38001 call n) K) <| ifF j 38002 (pA3 (p14_38002 call n) K) <| ifF j 38003 (pA2 (p14_38003 call n) K) <| noP
  fs := fun β j => noP
  rd := fun β j => noP
  lp := fun β j m => noP }
@[irreducible] noncomputable def A14 : AFun := (compFn Tryz.prog Tryz.f14).getD ⟨0, [], .skip⟩
noncomputable def w14 : Sh := shW 0 fun call n K => pA0 (s14 call n) K
theorem w14_ok {E : Env} (e : E.code 14 = some A14) (hp : E.prim 14 = none) : ShOK E 14 w14 := shW_ok (A := { pts := [], lps := [], cuts := [(3, [(1, 4001, [15])]), (5, [(2, 6001, [21])]), (15, [(1, 16001, [4, 30])]), (17, [(1, 18001, [4, 6, 33])]), (19, [(1, 20001, [4, 6, 7, 36])]), (22, [(4, 23001, [4, 7, 8, 42]), (7, 23002, [4, 44, 49])]), (29, [(2, 30001, [4, 54])]), (35, [(2, 36001, [4, 9, 10, 11, 64])]), (37, [(24, 38001, [4, 88, 90]), (2, 38002, [4, 88, 92]), (4, 38003, [94, 96])])] }) (S := T14) e hp (by kernel_rfl) (by kernel_rfl) (by kernel_rfl)

noncomputable def T15 (call : CallFn) (n : Nat) (K : Kont) : Sp := {
  pt := fun β j => ifF j 4001 (pA2 (p15_4001 call n) K) <| noP
  fs := fun β j => noP
  rd := fun β j => noP
  lp := fun β j m => noP }
@[irreducible] noncomputable def A15 : AFun := (compFn Tryz.prog Tryz.f15).getD ⟨0, [], .skip⟩
noncomputable def w15 : Sh := shW 2 fun call n K => pA2 (s15 call n) K
theorem w15_ok {E : Env} (e : E.code 15 = some A15) (hp : E.prim 15 = none) : ShOK E 15 w15 := shW_ok (A := { pts := [], lps := [], cuts := [(3, [(4, 4001, [5, 8])])] }) (S := T15) e hp (by kernel_rfl) (by kernel_rfl) (by kernel_rfl)

@[irreducible] noncomputable def A16 : AFun := (compFn Tryz.prog Tryz.f16).getD ⟨0, [], .skip⟩
noncomputable def w16 : Sh := shW 1 fun call n K => pA1 (s16 call n) K
theorem w16_ok {E : Env} (e : E.code 16 = some A16) (hp : E.prim 16 = none) : ShOK E 16 w16 := shW_ok (A := { pts := [], lps := [] }) (S := noS) e hp (by kernel_rfl) (by kernel_rfl) (by kernel_rfl)

noncomputable def T17 (call : CallFn) (n : Nat) (K : Kont) : Sp := {
  pt := fun β j => ifF j 17001 (pA3 (p17_17001 call n (pF2 (pB 0 β))) K) <| ifF j 17002 (pA3 (p17_17002 call n (pF2 (pB 0 β))) K) <| noP
  fs := fun β j => noP
  rd := fun β j => ifF j 8 (pA2 (b17_8 call n (pF2 (pB 0 β))) K) <| noP
  lp := fun β j m => ifL j 8 (pC2 (l17_8 call n m) K) <| noP }
@[irreducible] noncomputable def A17 : AFun := (compFn Tryz.prog Tryz.f17).getD ⟨0, [], .skip⟩
noncomputable def w17 : Sh := shW 2 fun call n K => pA2 (s17 call n) K
theorem w17_ok {E : Env} (e : E.code 17 = some A17) (hp : E.prim 17 = none) : ShOK E 17 w17 := shW_ok (A := { pts := [], lps := [(8, [5, 6])], cuts := [(16, [(3, 17001, [6, 16, 18]), (1, 17002, [6, 16, 19])])] }) (S := T17) e hp (by kernel_rfl) (by kernel_rfl) (by kernel_rfl)

@[irreducible] noncomputable def A18 : AFun := (compFn Tryz.prog Tryz.f18).getD ⟨0, [], .skip⟩
noncomputable def w18 : Sh := shW 1 fun call n K => pA1 (s18 call n) K
theorem w18_ok {E : Env} (e : E.code 18 = some A18) (hp : E.prim 18 = none) : ShOK E 18 w18 := shW_ok (A := { pts := [], lps := [] }) (S := noS) e hp (by kernel_rfl) (by kernel_rfl) (by kernel_rfl)

@[irreducible] noncomputable def A19 : AFun := (compFn Tryz.prog Tryz.f19).getD ⟨0, [], .skip⟩
noncomputable def w19 : Sh := shW 3 fun call n K => pA3 (s19 call n) K
theorem w19_ok {E : Env} (e : E.code 19 = some A19) (hp : E.prim 19 = none) : ShOK E 19 w19 := shW_ok (A := { pts := [], lps := [] }) (S := noS) e hp (by kernel_rfl) (by kernel_rfl) (by kernel_rfl)

noncomputable def T20 (call : CallFn) (n : Nat) (K : Kont) : Sp := {
  pt := fun β j => ifF j 10 (pA2 (p20_10 call n) K) <| noP
  fs := fun β j => noP
  rd := fun β j => ifF j 14 (pA3 (b20_14 call n (pF3 (pB 0 β))) K) <| noP
  lp := fun β j m => ifL j 14 (pC3 (l20_14 call n m) K) <| noP }
@[irreducible] noncomputable def A20 : AFun := (compFn Tryz.prog Tryz.f20).getD ⟨0, [], .skip⟩
noncomputable def w20 : Sh := shW 2 fun call n K => pA2 (s20 call n) K
theorem w20_ok {E : Env} (e : E.code 20 = some A20) (hp : E.prim 20 = none) : ShOK E 20 w20 := shW_ok (A := { pts := [(10, [0, 1])], lps := [(14, [0, 1, 5])] }) (S := T20) e hp (by kernel_rfl) (by kernel_rfl) (by kernel_rfl)

noncomputable def T21 (call : CallFn) (n : Nat) (K : Kont) : Sp := {
  pt := fun β j => ifF j 19 (pA1 (p21_19 call n) K) <| noP
  fs := fun β j => noP
  rd := fun β j => ifF j 8 (pA2 (b21_8 call n (pF2 (pB 0 β))) K) <| noP
  lp := fun β j m => ifL j 8 (pC2 (l21_8 call n m) K) <| noP }
@[irreducible] noncomputable def A21 : AFun := (compFn Tryz.prog Tryz.f21).getD ⟨0, [], .skip⟩
noncomputable def w21 : Sh := shW 1 fun call n K => pA1 (s21 call n) K
theorem w21_ok {E : Env} (e : E.code 21 = some A21) (hp : E.prim 21 = none) : ShOK E 21 w21 := shW_ok (A := { pts := [(19, [3])], lps := [(8, [3, 9])] }) (S := T21) e hp (by kernel_rfl) (by kernel_rfl) (by kernel_rfl)

noncomputable def T22 (call : CallFn) (n : Nat) (K : Kont) : Sp := {
  pt := fun β j => ifF j 4001 (pA3 (p22_4001 call n) K) <| ifF j 14001 (pA1 (p22_14001 call n) K) <| noP
  fs := fun β j => noP
  rd := fun β j => noP
  lp := fun β j m => noP }
@[irreducible] noncomputable def A22 : AFun := (compFn Tryz.prog Tryz.f22).getD ⟨0, [], .skip⟩
noncomputable def w22 : Sh := shW 2 fun call n K => pA2 (s22 call n) K
theorem w22_ok {E : Env} (e : E.code 22 = some A22) (hp : E.prim 22 = none) : ShOK E 22 w22 := shW_ok (A := { pts := [], lps := [], cuts := [(3, [(2, 4001, [0, 1, 9])]), (13, [(5, 14001, [21])])] }) (S := T22) e hp (by kernel_rfl) (by kernel_rfl) (by kernel_rfl)

noncomputable def T23 (call : CallFn) (n : Nat) (K : Kont) : Sp := {
  pt := fun β j => ifF j 1001 (pA2 (p23_1001 call n) K) <| noP
  fs := fun β j => noP
  rd := fun β j => noP
  lp := fun β j m => noP }
@[irreducible] noncomputable def A23 : AFun := (compFn Tryz.prog Tryz.f23).getD ⟨0, [], .skip⟩
noncomputable def w23 : Sh := shW 2 fun call n K => pA2 (s23 call n) K
theorem w23_ok {E : Env} (e : E.code 23 = some A23) (hp : E.prim 23 = none) : ShOK E 23 w23 := shW_ok (A := { pts := [], lps := [], cuts := [(0, [(2, 1001, [1, 4])])] }) (S := T23) e hp (by kernel_rfl) (by kernel_rfl) (by kernel_rfl)

noncomputable def T24 (call : CallFn) (n : Nat) (K : Kont) : Sp := {
  pt := fun β j => ifF j 26 (pA2 (p24_26 call n) K) <| noP
  fs := fun β j => noP
  rd := fun β j => ifF j 6 (pA3 (b24_6 call n (pF3 (pB 0 β))) K) <| noP
  lp := fun β j m => ifL j 6 (pC3 (l24_6 call n m) K) <| noP }
@[irreducible] noncomputable def A24 : AFun := (compFn Tryz.prog Tryz.f24).getD ⟨0, [], .skip⟩
noncomputable def w24 : Sh := shW 1 fun call n K => pA1 (s24 call n) K
theorem w24_ok {E : Env} (e : E.code 24 = some A24) (hp : E.prim 24 = none) : ShOK E 24 w24 := shW_ok (A := { pts := [(26, [2, 3])], lps := [(6, [0, 2, 3])] }) (S := T24) e hp (by kernel_rfl) (by kernel_rfl) (by kernel_rfl)

noncomputable def T25 (call : CallFn) (n : Nat) (K : Kont) : Sp := {
  pt := fun β j => ifF j 12 (pA1 (p25_12 call n) K) <| ifF j 25 (pA4 (p25_25 call n (pF4 (pB 0 β))) K) <| ifF j 39 (pA6 (p25_39 call n (pF4 (pB 0 β))) K) <| ifF j 55 (pA4 (p25_55 call n (pF4 (pB 0 β))) K) <| ifF j 56 (pA1 (p25_56 call n) K) <| ifF j 5001 (pA2 (p25_5001 call n) K) <| ifF j 31001 (pA6 (p25_31001 call n (pF4 (pB 0 β))) K) <| noP
  fs := fun β j => noP
  rd := fun β j => ifF j 18 (pA4 (b25_18 call n (pF4 (pB 0 β))) K) <| ifF j 42 (pA8 (b25_42 call n (pF4 (pB 1 β)) (pF8 (pB 0 β))) K) <| noP
  lp := fun β j m => ifL j 18 (pC4 (l25_18 call n m) K) <| ifL j 42 (pC8 (l25_42 call n (pF4 (pB 0 β)) m) K) <| noP }
@[irreducible] noncomputable def A25 : AFun := (compFn Tryz.prog Tryz.f25).getD ⟨0, [], .skip⟩
noncomputable def w25 : Sh := shW 1 fun call n K => pA1 (s25 call n) K
theorem w25_ok {E : Env} (e : E.code 25 = some A25) (hp : E.prim 25 = none) : ShOK E 25 w25 := shW_ok (A := { pts := [(12, [1]), (25, [6, 22, 23, 24]), (39, [6, 7, 9, 22, 23, 24]), (55, [6, 22, 23, 24]), (56, [6])], lps := [(18, [6, 22, 23, 24]), (42, [6, 7, 22, 23, 24, 37, 38, 39])], cuts := [(4, [(2, 5001, [1, 15])]), (30, [(3, 31001, [6, 7, 22, 23, 24, 32])])] }) (S := T25) e hp (by kernel_rfl) (by kernel_rfl) (by kernel_rfl)

noncomputable def T26 (call : CallFn) (n : Nat) (K : Kont) : Sp := {
  pt := fun β j => ifF j 4001 (pA2 (p26_4001 call n) K) <| noP
  fs := fun β j => noP
  rd := fun β j => ifF j 8 (pA3 (b26_8 call n (pF3 (pB 0 β))) K) <| noP
  lp := fun β j m => ifL j 8 (pC3 (l26_8 call n m) K) <| noP }
@[irreducible] noncomputable def A26 : AFun := (compFn Tryz.prog Tryz.f26).getD ⟨0, [], .skip⟩
noncomputable def w26 : Sh := shW 2 fun call n K => pA2 (s26 call n) K
theorem w26_ok {E : Env} (e : E.code 26 = some A26) (hp : E.prim 26 = none) : ShOK E 26 w26 := shW_ok (A := { pts := [], lps := [(8, [5, 15, 16])], cuts := [(3, [(3, 4001, [1, 8])])] }) (S := T26) e hp (by kernel_rfl) (by kernel_rfl) (by kernel_rfl)

@[irreducible] noncomputable def A27 : AFun := (compFn Tryz.prog Tryz.f27).getD ⟨0, [], .skip⟩
noncomputable def w27 : Sh := shW 2 fun call n K => pA2 (s27 call n) K
theorem w27_ok {E : Env} (e : E.code 27 = some A27) (hp : E.prim 27 = none) : ShOK E 27 w27 := shW_ok (A := { pts := [], lps := [] }) (S := noS) e hp (by kernel_rfl) (by kernel_rfl) (by kernel_rfl)

noncomputable def T28 (call : CallFn) (n : Nat) (K : Kont) : Sp := {
  pt := fun β j => ifF j 4001 (pA1 (p28_4001 call n) K) <| noP
  fs := fun β j => noP
  rd := fun β j => noP
  lp := fun β j m => noP }
@[irreducible] noncomputable def A28 : AFun := (compFn Tryz.prog Tryz.f28).getD ⟨0, [], .skip⟩
noncomputable def w28 : Sh := shW 2 fun call n K => pA2 (s28 call n) K
theorem w28_ok {E : Env} (e : E.code 28 = some A28) (hp : E.prim 28 = none) : ShOK E 28 w28 := shW_ok (A := { pts := [], lps := [], cuts := [(3, [(3, 4001, [7])])] }) (S := T28) e hp (by kernel_rfl) (by kernel_rfl) (by kernel_rfl)

@[irreducible] noncomputable def A29 : AFun := (compFn Tryz.prog Tryz.f29).getD ⟨0, [], .skip⟩
noncomputable def w29 : Sh := shW 1 fun call n K => pA1 (s29 call n) K
theorem w29_ok {E : Env} (e : E.code 29 = some A29) (hp : E.prim 29 = none) : ShOK E 29 w29 := shW_ok (A := { pts := [], lps := [] }) (S := noS) e hp (by kernel_rfl) (by kernel_rfl) (by kernel_rfl)

noncomputable def T30 (call : CallFn) (n : Nat) (K : Kont) : Sp := {
  pt := fun β j => ifF j 4001 (pA1 (p30_4001 call n) K) <| noP
  fs := fun β j => noP
  rd := fun β j => noP
  lp := fun β j m => noP }
@[irreducible] noncomputable def A30 : AFun := (compFn Tryz.prog Tryz.f30).getD ⟨0, [], .skip⟩
noncomputable def w30 : Sh := shW 1 fun call n K => pA1 (s30 call n) K
theorem w30_ok {E : Env} (e : E.code 30 = some A30) (hp : E.prim 30 = none) : ShOK E 30 w30 := shW_ok (A := { pts := [], lps := [], cuts := [(3, [(3, 4001, [5])])] }) (S := T30) e hp (by kernel_rfl) (by kernel_rfl) (by kernel_rfl)

@[irreducible] noncomputable def A31 : AFun := (compFn Tryz.prog Tryz.f31).getD ⟨0, [], .skip⟩
noncomputable def w31 : Sh := shW 1 fun call n K => pA1 (s31 call n) K
theorem w31_ok {E : Env} (e : E.code 31 = some A31) (hp : E.prim 31 = none) : ShOK E 31 w31 := shW_ok (A := { pts := [], lps := [] }) (S := noS) e hp (by kernel_rfl) (by kernel_rfl) (by kernel_rfl)

noncomputable def T32 (call : CallFn) (n : Nat) (K : Kont) : Sp := {
  pt := fun β j => ifF j 15 (pA6 (p32_15 call n (pF6 (pB 0 β))) K) <| ifF j 40 (pA7 (p32_40 call n (pF6 (pB 0 β))) K) <| ifF j 41 (pA6 (p32_41 call n (pF6 (pB 0 β))) K) <| ifF j 42 (pA3 (p32_42 call n) K) <| ifF j 59 (pA2 (p32_59 call n) K) <| noP
  fs := fun β j => noP
  rd := fun β j => ifF j 8 (pA6 (b32_8 call n (pF6 (pB 0 β))) K) <| ifF j 27 (pA10 (b32_27 call n (pF6 (pB 1 β)) (pF10 (pB 0 β))) K) <| ifF j 46 (pA5 (b32_46 call n (pF5 (pB 0 β))) K) <| noP
  lp := fun β j m => ifL j 8 (pC6 (l32_8 call n m) K) <| ifL j 27 (pC10 (l32_27 call n (pF6 (pB 0 β)) m) K) <| ifL j 46 (pC5 (l32_46 call n m) K) <| noP }
@[irreducible] noncomputable def A32 : AFun := (compFn Tryz.prog Tryz.f32).getD ⟨0, [], .skip⟩
noncomputable def w32 : Sh := shW 1 fun call n K => pA1 (s32 call n) K
theorem w32_ok {E : Env} (e : E.code 32 = some A32) (hp : E.prim 32 = none) : ShOK E 32 w32 := shW_ok (A := { pts := [(15, [1, 2, 3, 15, 16, 17]), (40, [1, 2, 3, 5, 15, 16, 17]), (41, [1, 2, 3, 15, 16, 17]), (42, [1, 2, 3]), (59, [2, 3])], lps := [(8, [1, 2, 3, 15, 16, 17]), (27, [1, 2, 3, 5, 15, 16, 17, 24, 25, 26]), (46, [2, 3, 46, 47, 48])] }) (S := T32) e hp (by kernel_rfl) (by kernel_rfl) (by kernel_rfl)

@[irreducible] noncomputable def A33 : AFun := (compFn Tryz.prog Tryz.f33).getD ⟨0, [], .skip⟩
noncomputable def w33 : Sh := shW 1 fun call n K => pA1 (s33 call n) K
theorem w33_ok {E : Env} (e : E.code 33 = some A33) (hp : E.prim 33 = none) : ShOK E 33 w33 := shW_ok (A := { pts := [], lps := [] }) (S := noS) e hp (by kernel_rfl) (by kernel_rfl) (by kernel_rfl)

noncomputable def T34 (call : CallFn) (n : Nat) (K : Kont) : Sp := {
  pt := fun β j => ifF j 17 (pA6 (p34_17 call n (pF6 (pB 0 β))) K) <| ifF j 41 (pA6 (p34_41 call n (pF6 (pB 0 β))) K) <| ifF j 42 (pA2 (p34_42 call n) K) <| ifF j 23001 (pA9 (p34_23001 call n (pF6 (pB 0 β))) K) <| noP
  fs := fun β j => noP
  rd := fun β j => ifF j 10 (pA6 (b34_10 call n (pF6 (pB 0 β))) K) <| ifF j 26 (pA8 (b34_26 call n (pF6 (pB 1 β)) (pF8 (pB 0 β))) K) <| noP
  lp := fun β j m => ifL j 10 (pC6 (l34_10 call n m) K) <| ifL j 26 (pC8 (l34_26 call n (pF6 (pB 0 β)) m) K) <| noP }
@[irreducible] noncomputable def A34 : AFun := (compFn Tryz.prog Tryz.f34).getD ⟨0, [], .skip⟩
noncomputable def w34 : Sh := shW 2 fun call n K => pA2 (s34 call n) K
theorem w34_ok {E : Env} (e : E.code 34 = some A34) (hp : E.prim 34 = none) : ShOK E 34 w34 := shW_ok (A := { pts := [(17, [0, 1, 5, 21, 22, 23]), (41, [0, 1, 5, 21, 22, 23]), (42, [1, 5])], lps := [(10, [0, 1, 5, 21, 22, 23]), (26, [0, 1, 5, 8, 21, 22, 23, 34])], cuts := [(22, [(4, 23001, [0, 1, 5, 7, 21, 22, 23, 28, 31])])] }) (S := T34) e hp (by kernel_rfl) (by kernel_rfl) (by kernel_rfl)

noncomputable def T35 (call : CallFn) (n : Nat) (K : Kont) : Sp := {
  pt := fun β j => ifF j 33 (pA6 (p35_33 call n (pF4 (pB 1 β)) (pF6 (pB 0 β))) K) <| ifF j 34 (pA5 (p35_34 call n (pF4 (pB 0 β))) K) <| noP
  fs := fun β j => noP
  rd := fun β j => ifF j 11 (pA4 (b35_11 call n (pF4 (pB 0 β))) K) <| ifF j 19 (pA6 (b35_19 call n (pF4 (pB 1 β)) (pF6 (pB 0 β))) K) <| noP
  lp := fun β j m => ifL j 11 (pC4 (l35_11 call n m) K) <| ifL j 19 (pC6 (l35_19 call n (pF4 (pB 0 β)) m) K) <| noP }
@[irreducible] noncomputable def A35 : AFun := (compFn Tryz.prog Tryz.f35).getD ⟨0, [], .skip⟩
noncomputable def w35 : Sh := shW 1 fun call n K => pA1 (s35 call n) K
theorem w35_ok {E : Env} (e : E.code 35 = some A35) (hp : E.prim 35 = none) : ShOK E 35 w35 := shW_ok (A := { pts := [(33, [0, 2, 3, 5, 6, 7]), (34, [0, 2, 3, 5, 6])], lps := [(11, [0, 2, 3, 5]), (19, [0, 2, 3, 5, 6, 7])] }) (S := T35) e hp (by kernel_rfl) (by kernel_rfl) (by kernel_rfl)

@[irreducible] noncomputable def A36 : AFun := (compFn Tryz.prog Tryz.f36).getD ⟨0, [], .skip⟩
noncomputable def w36 : Sh := shW 2 fun call n K => pA2 (s36 call n) K
theorem w36_ok {E : Env} (e : E.code 36 = some A36) (hp : E.prim 36 = none) : ShOK E 36 w36 := shW_ok (A := { pts := [], lps := [] }) (S := noS) e hp (by kernel_rfl) (by kernel_rfl) (by kernel_rfl)

@[irreducible] noncomputable def A37 : AFun := (compFn Tryz.prog Tryz.f37).getD ⟨0, [], .skip⟩
noncomputable def w37 : Sh := shW 1 fun call n K => pA1 (s37 call n) K
theorem w37_ok {E : Env} (e : E.code 37 = some A37) (hp : E.prim 37 = none) : ShOK E 37 w37 := shW_ok (A := { pts := [], lps := [] }) (S := noS) e hp (by kernel_rfl) (by kernel_rfl) (by kernel_rfl)

noncomputable def T38 (call : CallFn) (n : Nat) (K : Kont) : Sp := {
  pt := fun β j => ifF j 3001 (pA3 (p38_3001 call n) K) <| noP
  fs := fun β j => noP
  rd := fun β j => noP
  lp := fun β j m => noP }
@[irreducible] noncomputable def A38 : AFun := (compFn Tryz.prog Tryz.f38).getD ⟨0, [], .skip⟩
noncomputable def w38 : Sh := shW 1 fun call n K => pA1 (s38 call n) K
theorem w38_ok {E : Env} (e : E.code 38 = some A38) (hp : E.prim 38 = none) : ShOK E 38 w38 := shW_ok (A := { pts := [], lps := [], cuts := [(2, [(5, 3001, [5, 6, 9])])] }) (S := T38) e hp (by kernel_rfl) (by kernel_rfl) (by kernel_rfl)

noncomputable def T39 (call : CallFn) (n : Nat) (K : Kont) : Sp := {
  pt := fun β j => ifF j 12001 (pA1 (p39_12001 call n) K) <| noP
  fs := fun β j => noP
  rd := fun β j => noP
  lp := fun β j m => noP }
@[irreducible] noncomputable def A39 : AFun := (compFn Tryz.prog Tryz.f39).getD ⟨0, [], .skip⟩
noncomputable def w39 : Sh := shW 1 fun call n K => pA1 (s39 call n) K
theorem w39_ok {E : Env} (e : E.code 39 = some A39) (hp : E.prim 39 = none) : ShOK E 39 w39 := shW_ok (A := { pts := [], lps := [], cuts := [(11, [(2, 12001, [9])])] }) (S := T39) e hp (by kernel_rfl) (by kernel_rfl) (by kernel_rfl)

noncomputable def T41 (call : CallFn) (n : Nat) (K : Kont) : Sp := {
  pt := fun β j => ifF j 5001 (pA2 (p41_5001 call n) K) <| noP
  fs := fun β j => noP
  rd := fun β j => noP
  lp := fun β j m => noP }
@[irreducible] noncomputable def A41 : AFun := (compFn Tryz.prog Tryz.f41).getD ⟨0, [], .skip⟩
noncomputable def w41 : Sh := shW 2 fun call n K => pA2 (s41 call n) K
theorem w41_ok {E : Env} (e : E.code 41 = some A41) (hp : E.prim 41 = none) : ShOK E 41 w41 := shW_ok (A := { pts := [], lps := [], cuts := [(4, [(3, 5001, [0, 7])])] }) (S := T41) e hp (by kernel_rfl) (by kernel_rfl) (by kernel_rfl)

noncomputable def T42 (call : CallFn) (n : Nat) (K : Kont) : Sp := {
  pt := fun β j => ifF j 10 (pA3 (p42_10 call n) K) <| ifF j 27 (pA3 (p42_27 call n) K) <| ifF j 4001 (pA3 (p42_4001 call n) K) <| ifF j 9001 (pA4 (p42_9001 call n) K) <| ifF j 20001 (pA6 (p42_20001 call n (pF4 (pB 0 β))) K) <| ifF j 20002 (pA6 (p42_20002 call n (pF4 (pB 0 β))) K) <| ifF j 20003 (pA7 (p42_20003 call n (pF4 (pB 0 β))) K) <| noP
  fs := fun β j => noP
  rd := fun β j => ifF j 16 (pA4 (b42_16 call n (pF4 (pB 0 β))) K) <| noP
  lp := fun β j m => ifL j 16 (pC4 (l42_16 call n m) K) <| noP }
@[irreducible] noncomputable def A42 : AFun := (compFn Tryz.prog Tryz.f42).getD ⟨0, [], .skip⟩
noncomputable def w42 : Sh := shW 1 fun call n K => pA1 (s42 call n) K
theorem w42_ok {E : Env} (e : E.code 42 = some A42) (hp : E.prim 42 = none) : ShOK E 42 w42 := shW_ok (A := { pts := [(10, [0, 2, 3]), (27, [0, 2, 3])], lps := [(16, [0, 2, 3, 4])], cuts := [(3, [(2, 4001, [0, 2, 6])]), (8, [(2, 9001, [0, 2, 3, 11])]), (19, [(4, 20001, [0, 2, 3, 4, 16, 18]), (8, 20002, [0, 2, 3, 21, 24, 26]), (3, 20003, [0, 2, 3, 21, 24, 27, 29])])] }) (S := T42) e hp (by kernel_rfl) (by kernel_rfl) (by kernel_rfl)

noncomputable def T43 (call : CallFn) (n : Nat) (K : Kont) : Sp := {
  pt := fun β j => ifF j 34 (pA3 (p43_34 call n) K) <| ifF j 49 (pA2 (p43_49 call n) K) <| ifF j 4001 (pA3 (p43_4001 call n) K) <| ifF j 10001 (pA4 (p43_10001 call n (pF3 (pB 0 β))) K) <| ifF j 19001 (pA4 (p43_19001 call n (pF3 (pB 0 β))) K) <| ifF j 23001 (pA4 (p43_23001 call n (pF3 (pB 0 β))) K) <| ifF j 27001 (pA4 (p43_27001 call n (pF3 (pB 0 β))) K) <| ifF j 36001 (pA4 (p43_36001 call n) K) <| ifF j 44001 (pA4 (p43_44001 call n (pF3 (pB 0 β))) K) <| noP
  fs := fun β j => noP
  rd := fun β j => ifF j 6 (pA3 (b43_6 call n (pF3 (pB 0 β))) K) <| ifF j 40 (pA3 (b43_40 call n (pF3 (pB 0 β))) K) <| noP
  lp := fun β j m => ifL j 6 (pC3 (l43_6 call n m) K) <| ifL j 40 (pC3 (l43_40 call n m) K) <| noP }
@[irreducible] noncomputable def A43 : AFun := (compFn Tryz.prog Tryz.f43).getD ⟨0, [], .skip⟩
noncomputable def w43 : Sh := shW 1 fun call n K => pA1 (s43 call n) K
theorem w43_ok {E : Env} (e : E.code 43 = some A43) (hp : E.prim 43 = none) : ShOK E 43 w43 := shW_ok (A := { pts := [(34, [0, 2, 3]), (49, [2, 3])], lps := [(6, [0, 2, 3]), (40, [0, 2, 3])], cuts := [(3, [(2, 4001, [0, 2, 5])]), (9, [(2, 10001, [0, 2, 3, 8])]), (18, [(2, 19001, [0, 2, 3, 18])]), (22, [(2, 23001, [0, 2, 3, 24])]), (26, [(2, 27001, [0, 2, 3, 30])]), (35, [(3, 36001, [0, 2, 3, 38])]), (43, [(2, 44001, [0, 2, 3, 44])])] }) (S := T43) e hp (by kernel_rfl) (by kernel_rfl) (by kernel_rfl)

noncomputable def T44 (call : CallFn) (n : Nat) (K : Kont) : Sp := {
  pt := fun β j => ifF j 15001 (pA6 (p44_15001 call n (pF4 (pB 0 β))) K) <| noP
  fs := fun β j => noP
  rd := fun β j => ifF j 3 (pA4 (b44_3 call n (pF4 (pB 0 β))) K) <| noP
  lp := fun β j m => ifL j 3 (pC4 (l44_3 call n m) K) <| noP }
@[irreducible] noncomputable def A44 : AFun := (compFn Tryz.prog Tryz.f44).getD ⟨0, [], .skip⟩
noncomputable def w44 : Sh := shW 2 fun call n K => pA2 (s44 call n) K
theorem w44_ok {E : Env} (e : E.code 44 = some A44) (hp : E.prim 44 = none) : ShOK E 44 w44 := shW_ok (A := { pts := [], lps := [(3, [0, 6, 7, 8])], cuts := [(14, [(4, 15001, [0, 6, 7, 8, 12, 15])])] }) (S := T44) e hp (by kernel_rfl) (by kernel_rfl) (by kernel_rfl)

noncomputable def T46 (call : CallFn) (n : Nat) (K : Kont) : Sp := {
  pt := fun β j => ifF j 12 (pA1 (p46_12 call n) K) <| ifF j 22 (pA2 (p46_22 call n) K) <| ifF j 5001 (pA2 (p46_5001 call n) K) <| ifF j 14001 (pA2 (p46_14001 call n) K) <| ifF j 41001 (pA4 (p46_41001 call n (pF3 (pB 0 β))) K) <| noP
  fs := fun β j => noP
  rd := fun β j => ifF j 28 (pA3 (b46_28 call n (pF3 (pB 0 β))) K) <| noP
  lp := fun β j m => ifL j 28 (pC3 (l46_28 call n m) K) <| noP }
@[irreducible] noncomputable def A46 : AFun := (compFn Tryz.prog Tryz.f46).getD ⟨0, [], .skip⟩
noncomputable def w46 : Sh := shW 1 fun call n K => pA1 (s46 call n) K
theorem w46_ok {E : Env} (e : E.code 46 = some A46) (hp : E.prim 46 = none) : ShOK E 46 w46 := shW_ok (A := { pts := [(12, [1]), (22, [1, 6])], lps := [(28, [41, 42, 43])], cuts := [(4, [(2, 5001, [1, 14])]), (13, [(3, 14001, [1, 22])]), (40, [(2, 41001, [41, 42, 43, 49])])] }) (S := T46) e hp (by kernel_rfl) (by kernel_rfl) (by kernel_rfl)

@[irreducible] noncomputable def A48 : AFun := (compFn Tryz.prog Tryz.f48).getD ⟨0, [], .skip⟩
noncomputable def w48 : Sh := shW 1 fun call n K => pA1 (s48 call n) K
theorem w48_ok {E : Env} (e : E.code 48 = some A48) (hp : E.prim 48 = none) : ShOK E 48 w48 := shW_ok (A := { pts := [], lps := [] }) (S := noS) e hp (by kernel_rfl) (by kernel_rfl) (by kernel_rfl)

noncomputable def T49 (call : CallFn) (n : Nat) (K : Kont) : Sp := {
  pt := fun β j => noP
  fs := fun β j => noP
  rd := fun β j => ifF j 8 (pA4 (b49_8 call n (pF4 (pB 0 β))) K) <| noP
  lp := fun β j m => ifL j 8 (pC4 (l49_8 call n m) K) <| noP }
@[irreducible] noncomputable def A49 : AFun := (compFn Tryz.prog Tryz.f49).getD ⟨0, [], .skip⟩
noncomputable def w49 : Sh := shW 1 fun call n K => pA1 (s49 call n) K
theorem w49_ok {E : Env} (e : E.code 49 = some A49) (hp : E.prim 49 = none) : ShOK E 49 w49 := shW_ok (A := { pts := [], lps := [(8, [3, 6, 7, 8])] }) (S := T49) e hp (by kernel_rfl) (by kernel_rfl) (by kernel_rfl)

noncomputable def T50 (call : CallFn) (n : Nat) (K : Kont) : Sp := {
  pt := fun β j => ifF j 4001 (pA1 (p50_4001 call n) K) <| noP
  fs := fun β j => noP
  rd := fun β j => noP
  lp := fun β j m => noP }
@[irreducible] noncomputable def A50 : AFun := (compFn Tryz.prog Tryz.f50).getD ⟨0, [], .skip⟩
noncomputable def w50 : Sh := shW 2 fun call n K => pA2 (s50 call n) K
theorem w50_ok {E : Env} (e : E.code 50 = some A50) (hp : E.prim 50 = none) : ShOK E 50 w50 := shW_ok (A := { pts := [], lps := [], cuts := [(3, [(3, 4001, [7])])] }) (S := T50) e hp (by kernel_rfl) (by kernel_rfl) (by kernel_rfl)

@[irreducible] noncomputable def A51 : AFun := (compFn Tryz.prog Tryz.f51).getD ⟨0, [], .skip⟩
noncomputable def w51 : Sh := shW 1 fun call n K => pA1 (s51 call n) K
theorem w51_ok {E : Env} (e : E.code 51 = some A51) (hp : E.prim 51 = none) : ShOK E 51 w51 := shW_ok (A := { pts := [], lps := [] }) (S := noS) e hp (by kernel_rfl) (by kernel_rfl) (by kernel_rfl)

noncomputable def T52 (call : CallFn) (n : Nat) (K : Kont) : Sp := {
  pt := fun β j => ifF j 4001 (pA1 (p52_4001 call n) K) <| noP
  fs := fun β j => noP
  rd := fun β j => noP
  lp := fun β j m => noP }
@[irreducible] noncomputable def A52 : AFun := (compFn Tryz.prog Tryz.f52).getD ⟨0, [], .skip⟩
noncomputable def w52 : Sh := shW 2 fun call n K => pA2 (s52 call n) K
theorem w52_ok {E : Env} (e : E.code 52 = some A52) (hp : E.prim 52 = none) : ShOK E 52 w52 := shW_ok (A := { pts := [], lps := [], cuts := [(3, [(3, 4001, [7])])] }) (S := T52) e hp (by kernel_rfl) (by kernel_rfl) (by kernel_rfl)

noncomputable def T55 (call : CallFn) (n : Nat) (K : Kont) : Sp := {
  pt := fun β j => ifF j 17 (pA5 (p55_17 call n (pF5 (pB 0 β))) K) <| ifF j 45 (pA5 (p55_45 call n (pF5 (pB 0 β))) K) <| ifF j 46 (pA1 (p55_46 call n) K) <| ifF j 43001 (pA9 (p55_43001 call n (pF5 (pB 1 β)) (pF8 (pB 0 β))) K) <| noP
  fs := fun β j => noP
  rd := fun β j => ifF j 10 (pA5 (b55_10 call n (pF5 (pB 0 β))) K) <| ifF j 30 (pA8 (b55_30 call n (pF5 (pB 1 β)) (pF8 (pB 0 β))) K) <| noP
  lp := fun β j m => ifL j 10 (pC5 (l55_10 call n m) K) <| ifL j 30 (pC8 (l55_30 call n (pF5 (pB 0 β)) m) K) <| noP }
@[irreducible] noncomputable def A55 : AFun := (compFn Tryz.prog Tryz.f55).getD ⟨0, [], .skip⟩
noncomputable def w55 : Sh := shW 1 fun call n K => pA1 (s55 call n) K
theorem w55_ok {E : Env} (e : E.code 55 = some A55) (hp : E.prim 55 = none) : ShOK E 55 w55 := shW_ok (A := { pts := [(17, [3, 4, 12, 13, 14]), (45, [3, 4, 12, 13, 14]), (46, [3])], lps := [(10, [3, 4, 12, 13, 14]), (30, [3, 4, 12, 13, 14, 32, 33, 34])], cuts := [(42, [(2, 43001, [3, 4, 12, 13, 14, 32, 33, 34, 40])])] }) (S := T55) e hp (by kernel_rfl) (by kernel_rfl) (by kernel_rfl)

@[irreducible] noncomputable def A57 : AFun := (compFn Tryz.prog Tryz.f57).getD ⟨0, [], .skip⟩
noncomputable def w57 : Sh := shW 3 fun call n K => pA3 (s57 call n) K
theorem w57_ok {E : Env} (e : E.code 57 = some A57) (hp : E.prim 57 = none) : ShOK E 57 w57 := shW_ok (A := { pts := [], lps := [] }) (S := noS) e hp (by kernel_rfl) (by kernel_rfl) (by kernel_rfl)

noncomputable def T58 (call : CallFn) (n : Nat) (K : Kont) : Sp := {
  pt := fun β j => noP
  fs := fun β j => noP
  rd := fun β j => ifF j 7 (pA2 (b58_7 call n (pF2 (pB 0 β))) K) <| noP
  lp := fun β j m => ifL j 7 (pC2 (l58_7 call n m) K) <| noP }
@[irreducible] noncomputable def A58 : AFun := (compFn Tryz.prog Tryz.f58).getD ⟨0, [], .skip⟩
noncomputable def w58 : Sh := shW 2 fun call n K => pA2 (s58 call n) K
theorem w58_ok {E : Env} (e : E.code 58 = some A58) (hp : E.prim 58 = none) : ShOK E 58 w58 := shW_ok (A := { pts := [], lps := [(7, [0, 4])] }) (S := T58) e hp (by kernel_rfl) (by kernel_rfl) (by kernel_rfl)

noncomputable def T59 (call : CallFn) (n : Nat) (K : Kont) : Sp := {
  pt := fun β j => ifF j 33 (pA7 (p59_33 call n (pF6 (pB 0 β))) K) <| ifF j 45 (pA9 (p59_45 call n (pF6 (pB 0 β))) K) <| ifF j 55 (pA8 (p59_55 call n (pF6 (pB 0 β))) K) <| ifF j 35001 (pA8 (p59_35001 call n (pF6 (pB 0 β))) K) <| ifF j 67001 (pA6 (p59_67001 call n (pF6 (pB 0 β))) K) <| noP
  fs := fun β j => noP
  rd := fun β j => ifF j 5 (pA6 (b59_5 call n (pF6 (pB 0 β))) K) <| noP
  lp := fun β j m => ifL j 5 (pC6 (l59_5 call n m) K) <| noP }
@[irreducible] noncomputable def A59 : AFun := (compFn Tryz.prog Tryz.f59).getD ⟨0, [], .skip⟩
noncomputable def w59 : Sh := shW 4 fun call n K => pA4 (s59 call n) K
theorem w59_ok {E : Env} (e : E.code 59 = some A59) (hp : E.prim 59 = none) : ShOK E 59 w59 := shW_ok (A := { pts := [(33, [0, 1, 2, 3, 8, 9, 10]), (45, [0, 1, 2, 3, 8, 9, 10, 11, 12]), (55, [0, 1, 2, 3, 8, 9, 10, 11])], lps := [(5, [0, 1, 2, 3, 8, 9])], cuts := [(34, [(4, 35001, [0, 1, 2, 3, 8, 9, 10, 46])]), (66, [(5, 67001, [0, 1, 2, 3, 10, 99])])] }) (S := T59) e hp (by kernel_rfl) (by kernel_rfl) (by kernel_rfl)

@[irreducible] noncomputable def A60 : AFun := (compFn Tryz.prog Tryz.f60).getD ⟨0, [], .skip⟩
noncomputable def w60 : Sh := shW 1 fun call n K => pA1 (s60 call n) K
theorem w60_ok {E : Env} (e : E.code 60 = some A60) (hp : E.prim 60 = none) : ShOK E 60 w60 := shW_ok (A := { pts := [], lps := [] }) (S := noS) e hp (by kernel_rfl) (by kernel_rfl) (by kernel_rfl)

@[irreducible] noncomputable def A63 : AFun := (compFn Tryz.prog Tryz.f63).getD ⟨0, [], .skip⟩
noncomputable def w63 : Sh := shW 0 fun call n K => pA0 (s63 call n) K
theorem w63_ok {E : Env} (e : E.code 63 = some A63) (hp : E.prim 63 = none) : ShOK E 63 w63 := shW_ok (A := { pts := [], lps := [] }) (S := noS) e hp (by kernel_rfl) (by kernel_rfl) (by kernel_rfl)

noncomputable def T64 (call : CallFn) (n : Nat) (K : Kont) : Sp := {
  pt := fun β j => ifF j 4001 (pA1 (p64_4001 call n) K) <| noP
  fs := fun β j => noP
  rd := fun β j => noP
  lp := fun β j m => noP }
@[irreducible] noncomputable def A64 : AFun := (compFn Tryz.prog Tryz.f64).getD ⟨0, [], .skip⟩
noncomputable def w64 : Sh := shW 2 fun call n K => pA2 (s64 call n) K
theorem w64_ok {E : Env} (e : E.code 64 = some A64) (hp : E.prim 64 = none) : ShOK E 64 w64 := shW_ok (A := { pts := [], lps := [], cuts := [(3, [(2, 4001, [7])])] }) (S := T64) e hp (by kernel_rfl) (by kernel_rfl) (by kernel_rfl)

noncomputable def T65 (call : CallFn) (n : Nat) (K : Kont) : Sp := {
  pt := fun β j => ifF j 4001 (pA2 (p65_4001 call n) K) <| ifF j 6001 (pA4 (p65_6001 call n) K) <| noP
  fs := fun β j => noP
  rd := fun β j => noP
  lp := fun β j m => noP }
@[irreducible] noncomputable def A65 : AFun := (compFn Tryz.prog Tryz.f65).getD ⟨0, [], .skip⟩
noncomputable def w65 : Sh := shW 3 fun call n K => pA3 (s65 call n) K
theorem w65_ok {E : Env} (e : E.code 65 = some A65) (hp : E.prim 65 = none) : ShOK E 65 w65 := shW_ok (A := { pts := [], lps := [], cuts := [(3, [(3, 4001, [2, 10])]), (5, [(15, 6001, [15, 19, 23, 25])])] }) (S := T65) e hp (by kernel_rfl) (by kernel_rfl) (by kernel_rfl)

noncomputable def T66 (call : CallFn) (n : Nat) (K : Kont) : Sp := {
  pt := fun β j => ifF j 4001 (pA3 (p66_4001 call n) K) <| ifF j 4002 (pA4 (p66_4002 call n) K) <| noP
  fs := fun β j => noP
  rd := fun β j => noP
  lp := fun β j m => noP }
@[irreducible] noncomputable def A66 : AFun := (compFn Tryz.prog Tryz.f66).getD ⟨0, [], .skip⟩
noncomputable def w66 : Sh := shW 1 fun call n K => pA1 (s66 call n) K
theorem w66_ok {E : Env} (e : E.code 66 = some A66) (hp : E.prim 66 = none) : ShOK E 66 w66 := shW_ok (A := { pts := [], lps := [], cuts := [(3, [(3, 4001, [0, 3, 5]), (3, 4002, [0, 3, 6, 8])])] }) (S := T66) e hp (by kernel_rfl) (by kernel_rfl) (by kernel_rfl)

@[irreducible] noncomputable def A67 : AFun := (compFn Tryz.prog Tryz.f67).getD ⟨0, [], .skip⟩
noncomputable def w67 : Sh := shW 2 fun call n K => pA2 (s67 call n) K
theorem w67_ok {E : Env} (e : E.code 67 = some A67) (hp : E.prim 67 = none) : ShOK E 67 w67 := shW_ok (A := { pts := [], lps := [] }) (S := noS) e hp (by kernel_rfl) (by kernel_rfl) (by kernel_rfl)

noncomputable def T68 (call : CallFn) (n : Nat) (K : Kont) : Sp := {
  pt := fun β j => ifF j 4001 (pA1 (p68_4001 call n) K) <| ifF j 6001 (pA2 (p68_6001 call n) K) <| noP
  fs := fun β j => noP
  rd := fun β j => noP
  lp := fun β j m => noP }
@[irreducible] noncomputable def A68 : AFun := (compFn Tryz.prog Tryz.f68).getD ⟨0, [], .skip⟩
noncomputable def w68 : Sh := shW 2 fun call n K => pA2 (s68 call n) K
theorem w68_ok {E : Env} (e : E.code 68 = some A68) (hp : E.prim 68 = none) : ShOK E 68 w68 := shW_ok (A := { pts := [], lps := [], cuts := [(3, [(3, 4001, [8])]), (5, [(7, 6001, [12, 15])])] }) (S := T68) e hp (by kernel_rfl) (by kernel_rfl) (by kernel_rfl)

@[irreducible] noncomputable def A70 : AFun := (compFn Tryz.prog Tryz.f70).getD ⟨0, [], .skip⟩
noncomputable def w70 : Sh := shW 2 fun call n K => pA2 (s70 call n) K
theorem w70_ok {E : Env} (e : E.code 70 = some A70) (hp : E.prim 70 = none) : ShOK E 70 w70 := shW_ok (A := { pts := [], lps := [] }) (S := noS) e hp (by kernel_rfl) (by kernel_rfl) (by kernel_rfl)

noncomputable def T71 (call : CallFn) (n : Nat) (K : Kont) : Sp := {
  pt := fun β j => ifF j 4001 (pA3 (p71_4001 call n) K) <| noP
  fs := fun β j => noP
  rd := fun β j => noP
  lp := fun β j m => noP }
@[irreducible] noncomputable def A71 : AFun := (compFn Tryz.prog Tryz.f71).getD ⟨0, [], .skip⟩
noncomputable def w71 : Sh := shW 1 fun call n K => pA1 (s71 call n) K
theorem w71_ok {E : Env} (e : E.code 71 = some A71) (hp : E.prim 71 = none) : ShOK E 71 w71 := shW_ok (A := { pts := [], lps := [], cuts := [(3, [(3, 4001, [0, 3, 5])])] }) (S := T71) e hp (by kernel_rfl) (by kernel_rfl) (by kernel_rfl)

noncomputable def T72 (call : CallFn) (n : Nat) (K : Kont) : Sp := {
  pt := fun β j => ifF j 6001 (pA4 (p72_6001 call n) K) <| ifF j 8001 (pA3 (p72_8001 call n) K) <| ifF j 8002 (pA3 (p72_8002 call n) K) <| noP
  fs := fun β j => noP
  rd := fun β j => noP
  lp := fun β j m => noP }
@[irreducible] noncomputable def A72 : AFun := (compFn Tryz.prog Tryz.f72).getD ⟨0, [], .skip⟩
noncomputable def w72 : Sh := shW 1 fun call n K => pA1 (s72 call n) K
theorem w72_ok {E : Env} (e : E.code 72 = some A72) (hp : E.prim 72 = none) : ShOK E 72 w72 := shW_ok (A := { pts := [], lps := [], cuts := [(5, [(3, 6001, [0, 3, 8, 10])]), (7, [(2, 8001, [0, 3, 14]), (2, 8002, [0, 3, 16])])] }) (S := T72) e hp (by kernel_rfl) (by kernel_rfl) (by kernel_rfl)

noncomputable def T73 (call : CallFn) (n : Nat) (K : Kont) : Sp := {
  pt := fun β j => ifF j 30 (pA3 (p73_30 call n (pF3 (pB 0 β))) K) <| ifF j 31001 (pA4 (p73_31001 call n (pF3 (pB 0 β))) K) <| noP
  fs := fun β j => noP
  rd := fun β j => ifF j 5 (pA3 (b73_5 call n (pF3 (pB 0 β))) K) <| ifF j 11 (pA6 (b73_11 call n (pF3 (pB 1 β)) (pF6 (pB 0 β))) K) <| noP
  lp := fun β j m => ifL j 5 (pC3 (l73_5 call n m) K) <| ifL j 11 (pC6 (l73_11 call n (pF3 (pB 0 β)) m) K) <| noP }
@[irreducible] noncomputable def A73 : AFun := (compFn Tryz.prog Tryz.f73).getD ⟨0, [], .skip⟩
noncomputable def w73 : Sh := shW 2 fun call n K => pA2 (s73 call n) K
theorem w73_ok {E : Env} (e : E.code 73 = some A73) (hp : E.prim 73 = none) : ShOK E 73 w73 := shW_ok (A := { pts := [(30, [0, 1, 5])], lps := [(5, [0, 1, 5]), (11, [0, 1, 5, 8, 9, 10])], cuts := [(30, [(3, 31001, [0, 1, 19, 21])])] }) (S := T73) e hp (by kernel_rfl) (by kernel_rfl) (by kernel_rfl)

noncomputable def T75 (call : CallFn) (n : Nat) (K : Kont) : Sp := {
  pt := fun β j => ifF j 15 (pA2 (p75_15 call n) K) <| ifF j 8001 (pA6 (p75_8001 call n (pF4 (pB 0 β))) K) <| ifF j 8002 (pA6 (p75_8002 call n (pF4 (pB 0 β))) K) <| noP
  fs := fun β j => noP
  rd := fun β j => ifF j 4 (pA4 (b75_4 call n (pF4 (pB 0 β))) K) <| noP
  lp := fun β j m => ifL j 4 (pC4 (l75_4 call n m) K) <| noP }
@[irreducible] noncomputable def A75 : AFun := (compFn Tryz.prog Tryz.f75).getD ⟨0, [], .skip⟩
noncomputable def w75 : Sh := shW 3 fun call n K => pA3 (s75 call n) K
theorem w75_ok {E : Env} (e : E.code 75 = some A75) (hp : E.prim 75 = none) : ShOK E 75 w75 := shW_ok (A := { pts := [(15, [0, 1])], lps := [(4, [0, 1, 2, 6])], cuts := [(7, [(5, 8001, [0, 1, 2, 6, 8, 11]), (8, 8002, [0, 1, 2, 14, 17, 19])])] }) (S := T75) e hp (by kernel_rfl) (by kernel_rfl) (by kernel_rfl)

noncomputable def T78 (call : CallFn) (n : Nat) (K : Kont) : Sp := {
  pt := fun β j => ifF j 4001 (pA2 (p78_4001 call n) K) <| ifF j 15001 (pA3 (p78_15001 call n) K) <| ifF j 17001 (pA3 (p78_17001 call n) K) <| ifF j 24001 (pA1 (p78_24001 call n) K) <| noP
  fs := fun β j => noP
  rd := fun β j => noP
  lp := fun β j m => noP }
@[irreducible] noncomputable def A78 : AFun := (compFn Tryz.prog Tryz.f78).getD ⟨0, [], .skip⟩
noncomputable def w78 : Sh := shW 1 fun call n K => pA1 (s78 call n) K
theorem w78_ok {E : Env} (e : E.code 78 = some A78) (hp : E.prim 78 = none) : ShOK E 78 w78 := shW_ok (A := { pts := [], lps := [], cuts := [(3, [(2, 4001, [1, 10])]), (14, [(2, 15001, [1, 4, 17])]), (16, [(6, 17001, [4, 22, 25])]), (23, [(2, 24001, [29])])] }) (S := T78) e hp (by kernel_rfl) (by kernel_rfl) (by kernel_rfl)

noncomputable def T79 (call : CallFn) (n : Nat) (K : Kont) : Sp := {
  pt := fun β j => ifF j 12 (pA2 (p79_12 call n) K) <| ifF j 30001 (pA8 (p79_30001 call n (pF5 (pB 0 β))) K) <| ifF j 39001 (pA7 (p79_39001 call n (pF5 (pB 0 β))) K) <| noP
  fs := fun β j => noP
  rd := fun β j => ifF j 16 (pA5 (b79_16 call n (pF5 (pB 0 β))) K) <| noP
  lp := fun β j m => ifL j 16 (pC5 (l79_16 call n m) K) <| noP }
@[irreducible] noncomputable def A79 : AFun := (compFn Tryz.prog Tryz.f79).getD ⟨0, [], .skip⟩
noncomputable def w79 : Sh := shW 1 fun call n K => pA1 (s79 call n) K
theorem w79_ok {E : Env} (e : E.code 79 = some A79) (hp : E.prim 79 = none) : ShOK E 79 w79 := shW_ok (A := { pts := [(12, [0, 4])], lps := [(16, [0, 4, 13, 14, 15])], cuts := [(29, [(9, 30001, [0, 4, 6, 13, 14, 15, 23, 27])]), (38, [(3, 39001, [0, 4, 6, 13, 14, 15, 43])])] }) (S := T79) e hp (by kernel_rfl) (by kernel_rfl) (by kernel_rfl)

noncomputable def T80 (call : CallFn) (n : Nat) (K : Kont) : Sp := {
  pt := fun β j => ifF j 16 (pA3 (p80_16 call n) K) <| ifF j 10001 (pA3 (p80_10001 call n) K) <| ifF j 15001 (pA2 (p80_15001 call n) K) <| noP
  fs := fun β j => noP
  rd := fun β j => noP
  lp := fun β j m => noP }
@[irreducible] noncomputable def A80 : AFun := (compFn Tryz.prog Tryz.f80).getD ⟨0, [], .skip⟩
noncomputable def w80 : Sh := shW 1 fun call n K => pA1 (s80 call n) K
theorem w80_ok {E : Env} (e : E.code 80 = some A80) (hp : E.prim 80 = none) : ShOK E 80 w80 := shW_ok (A := { pts := [(16, [0, 8, 9])], lps := [], cuts := [(9, [(4, 10001, [0, 7, 16])]), (14, [(3, 15001, [0, 23])])] }) (S := T80) e hp (by kernel_rfl) (by kernel_rfl) (by kernel_rfl)

noncomputable def T81 (call : CallFn) (n : Nat) (K : Kont) : Sp := {
  pt := fun β j => ifF j 4001 (pA1 (p81_4001 call n) K) <| noP
  fs := fun β j => noP
  rd := fun β j => noP
  lp := fun β j m => noP }
@[irreducible] noncomputable def A81 : AFun := (compFn Tryz.prog Tryz.f81).getD ⟨0, [], .skip⟩
noncomputable def w81 : Sh := shW 1 fun call n K => pA1 (s81 call n) K
theorem w81_ok {E : Env} (e : E.code 81 = some A81) (hp : E.prim 81 = none) : ShOK E 81 w81 := shW_ok (A := { pts := [], lps := [], cuts := [(3, [(4, 4001, [7])])] }) (S := T81) e hp (by kernel_rfl) (by kernel_rfl) (by kernel_rfl)

noncomputable def T82 (call : CallFn) (n : Nat) (K : Kont) : Sp := {
  pt := fun β j => ifF j 4001 (pA1 (p82_4001 call n) K) <| noP
  fs := fun β j => noP
  rd := fun β j => noP
  lp := fun β j m => noP }
@[irreducible] noncomputable def A82 : AFun := (compFn Tryz.prog Tryz.f82).getD ⟨0, [], .skip⟩
noncomputable def w82 : Sh := shW 1 fun call n K => pA1 (s82 call n) K
theorem w82_ok {E : Env} (e : E.code 82 = some A82) (hp : E.prim 82 = none) : ShOK E 82 w82 := shW_ok (A := { pts := [], lps := [], cuts := [(3, [(3, 4001, [6])])] }) (S := T82) e hp (by kernel_rfl) (by kernel_rfl) (by kernel_rfl)

noncomputable def T83 (call : CallFn) (n : Nat) (K : Kont) : Sp := {
  pt := fun β j => ifF j 29 (pA4 (p83_29 call n) K) <| ifF j 40 (pA4 (p83_40 call n (pF5 (pB 0 β))) K) <| ifF j 53 (pA8 (p83_53 call n (pF5 (pB 1 β)) (pF8 (pB 0 β))) K) <| ifF j 76 (pA11 (p83_76 call n (pF5 (pB 2 β)) (pF8 (pB 1 β)) (pF11 (pB 0 β))) K) <| ifF j 77 (pA8 (p83_77 call n (pF5 (pB 1 β)) (pF8 (pB 0 β))) K) <| ifF j 78 (pA3 (p83_78 call n) K) <| ifF j 82001 (pA1 (p83_82001 call n) K) <| noP
  fs := fun β j => noP
  rd := fun β j => ifF j 12 (pA7 (b83_12 call n (pF7 (pB 0 β))) K) <| ifF j 33 (pA5 (b83_33 call n (pF5 (pB 0 β))) K) <| ifF j 46 (pA8 (b83_46 call n (pF5 (pB 1 β)) (pF8 (pB 0 β))) K) <| ifF j 60 (pA11 (b83_60 call n (pF5 (pB 2 β)) (pF8 (pB 1 β)) (pF11 (pB 0 β))) K) <| noP
  lp := fun β j m => ifL j 12 (pC7 (l83_12 call n m) K) <| ifL j 33 (pC5 (l83_33 call n m) K) <| ifL j 46 (pC8 (l83_46 call n (pF5 (pB 0 β)) m) K) <| ifL j 60 (pC11 (l83_60 call n (pF5 (pB 1 β)) (pF8 (pB 0 β)) m) K) <| noP }
@[irreducible] noncomputable def A83 : AFun := (compFn Tryz.prog Tryz.f83).getD ⟨0, [], .skip⟩
noncomputable def w83 : Sh := shW 1 fun call n K => pA1 (s83 call n) K
theorem w83_ok {E : Env} (e : E.code 83 = some A83) (hp : E.prim 83 = none) : ShOK E 83 w83 := shW_ok (A := { pts := [(29, [1, 4, 5, 6]), (40, [1, 4, 5, 6]), (53, [1, 4, 5, 6, 9, 50, 51, 52]), (76, [1, 4, 5, 6, 9, 11, 50, 51, 52, 56, 57]), (77, [1, 4, 5, 6, 9, 50, 51, 52]), (78, [1, 4, 6])], lps := [(12, [1, 4, 5, 6, 26, 27, 28]), (33, [1, 4, 5, 6, 9]), (46, [1, 4, 5, 6, 9, 50, 51, 52]), (60, [1, 4, 5, 6, 9, 11, 50, 51, 52, 56, 57])], cuts := [(81, [(3, 82001, [90])])] }) (S := T83) e hp (by kernel_rfl) (by kernel_rfl) (by kernel_rfl)

noncomputable def T84 (call : CallFn) (n : Nat) (K : Kont) : Sp := {
  pt := fun β j => ifF j 6001 (pA2 (p84_6001 call n) K) <| noP
  fs := fun β j => noP
  rd := fun β j => noP
  lp := fun β j m => noP }
@[irreducible] noncomputable def A84 : AFun := (compFn Tryz.prog Tryz.f84).getD ⟨0, [], .skip⟩
noncomputable def w84 : Sh := shW 1 fun call n K => pA1 (s84 call n) K
theorem w84_ok {E : Env} (e : E.code 84 = some A84) (hp : E.prim 84 = none) : ShOK E 84 w84 := shW_ok (A := { pts := [], lps := [], cuts := [(5, [(3, 6001, [4, 10])])] }) (S := T84) e hp (by kernel_rfl) (by kernel_rfl) (by kernel_rfl)

@[irreducible] noncomputable def A86 : AFun := (compFn Tryz.prog Tryz.f86).getD ⟨0, [], .skip⟩
noncomputable def w86 : Sh := shW 1 fun call n K => pA1 (s86 call n) K
theorem w86_ok {E : Env} (e : E.code 86 = some A86) (hp : E.prim 86 = none) : ShOK E 86 w86 := shW_ok (A := { pts := [], lps := [] }) (S := noS) e hp (by kernel_rfl) (by kernel_rfl) (by kernel_rfl)

noncomputable def T87 (call : CallFn) (n : Nat) (K : Kont) : Sp := {
  pt := fun β j => ifF j 12001 (pA1 (p87_12001 call n) K) <| noP
  fs := fun β j => noP
  rd := fun β j => noP
  lp := fun β j m => noP }
@[irreducible] noncomputable def A87 : AFun := (compFn Tryz.prog Tryz.f87).getD ⟨0, [], .skip⟩
noncomputable def w87 : Sh := shW 2 fun call n K => pA2 (s87 call n) K
theorem w87_ok {E : Env} (e : E.code 87 = some A87) (hp : E.prim 87 = none) : ShOK E 87 w87 := shW_ok (A := { pts := [], lps := [], cuts := [(11, [(3, 12001, [14])])] }) (S := T87) e hp (by kernel_rfl) (by kernel_rfl) (by kernel_rfl)

noncomputable def T88 (call : CallFn) (n : Nat) (K : Kont) : Sp := {
  pt := fun β j => ifF j 27 (pA1 (p88_27 call n) K) <| noP
  fs := fun β j => noP
  rd := fun β j => ifF j 10 (pA5 (b88_10 call n (pF5 (pB 0 β))) K) <| noP
  lp := fun β j m => ifL j 10 (pC5 (l88_10 call n m) K) <| noP }
@[irreducible] noncomputable def A88 : AFun := (compFn Tryz.prog Tryz.f88).getD ⟨0, [], .skip⟩
noncomputable def w88 : Sh := shW 1 fun call n K => pA1 (s88 call n) K
theorem w88_ok {E : Env} (e : E.code 88 = some A88) (hp : E.prim 88 = none) : ShOK E 88 w88 := shW_ok (A := { pts := [(27, [3])], lps := [(10, [3, 4, 9, 10, 11])] }) (S := T88) e hp (by kernel_rfl) (by kernel_rfl) (by kernel_rfl)

noncomputable def T89 (call : CallFn) (n : Nat) (K : Kont) : Sp := {
  pt := fun β j => ifF j 20001 (pA5 (p89_20001 call n (pF4 (pB 0 β))) K) <| noP
  fs := fun β j => noP
  rd := fun β j => ifF j 8 (pA4 (b89_8 call n (pF4 (pB 0 β))) K) <| noP
  lp := fun β j m => ifL j 8 (pC4 (l89_8 call n m) K) <| noP }
@[irreducible] noncomputable def A89 : AFun := (compFn Tryz.prog Tryz.f89).getD ⟨0, [], .skip⟩
noncomputable def w89 : Sh := shW 1 fun call n K => pA1 (s89 call n) K
theorem w89_ok {E : Env} (e : E.code 89 = some A89) (hp : E.prim 89 = none) : ShOK E 89 w89 := shW_ok (A := { pts := [], lps := [(8, [3, 6, 7, 8])], cuts := [(19, [(3, 20001, [6, 7, 8, 12, 14])])] }) (S := T89) e hp (by kernel_rfl) (by kernel_rfl) (by kernel_rfl)

noncomputable def T90 (call : CallFn) (n : Nat) (K : Kont) : Sp := {
  pt := fun β j => noP
  fs := fun β j => noP
  rd := fun β j => ifF j 6 (pA4 (b90_6 call n (pF4 (pB 0 β))) K) <| noP
  lp := fun β j m => ifL j 6 (pC4 (l90_6 call n m) K) <| noP }
@[irreducible] noncomputable def A90 : AFun := (compFn Tryz.prog Tryz.f90).getD ⟨0, [], .skip⟩
noncomputable def w90 : Sh := shW 2 fun call n K => pA2 (s90 call n) K
theorem w90_ok {E : Env} (e : E.code 90 = some A90) (hp : E.prim 90 = none) : ShOK E 90 w90 := shW_ok (A := { pts := [], lps := [(6, [0, 1, 7, 8])] }) (S := T90) e hp (by kernel_rfl) (by kernel_rfl) (by kernel_rfl)

noncomputable def T91 (call : CallFn) (n : Nat) (K : Kont) : Sp := {
  pt := fun β j => noP
  fs := fun β j => noP
  rd := fun β j => ifF j 6 (pA4 (b91_6 call n (pF4 (pB 0 β))) K) <| noP
  lp := fun β j m => ifL j 6 (pC4 (l91_6 call n m) K) <| noP }
@[irreducible] noncomputable def A91 : AFun := (compFn Tryz.prog Tryz.f91).getD ⟨0, [], .skip⟩
noncomputable def w91 : Sh := shW 2 fun call n K => pA2 (s91 call n) K
theorem w91_ok {E : Env} (e : E.code 91 = some A91) (hp : E.prim 91 = none) : ShOK E 91 w91 := shW_ok (A := { pts := [], lps := [(6, [0, 1, 7, 8])] }) (S := T91) e hp (by kernel_rfl) (by kernel_rfl) (by kernel_rfl)

noncomputable def T93 (call : CallFn) (n : Nat) (K : Kont) : Sp := {
  pt := fun β j => noP
  fs := fun β j => noP
  rd := fun β j => ifF j 3 (pA3 (b93_3 call n (pF3 (pB 0 β))) K) <| noP
  lp := fun β j m => ifL j 3 (pC3 (l93_3 call n m) K) <| noP }
@[irreducible] noncomputable def A93 : AFun := (compFn Tryz.prog Tryz.f93).getD ⟨0, [], .skip⟩
noncomputable def w93 : Sh := shW 2 fun call n K => pA2 (s93 call n) K
theorem w93_ok {E : Env} (e : E.code 93 = some A93) (hp : E.prim 93 = none) : ShOK E 93 w93 := shW_ok (A := { pts := [], lps := [(3, [0, 1, 3])] }) (S := T93) e hp (by kernel_rfl) (by kernel_rfl) (by kernel_rfl)

noncomputable def T95 (call : CallFn) (n : Nat) (K : Kont) : Sp := {
  pt := fun β j => noP
  fs := fun β j => noP
  rd := fun β j => ifF j 8 (pA4 (b95_8 call n (pF4 (pB 0 β))) K) <| noP
  lp := fun β j m => ifL j 8 (pC4 (l95_8 call n m) K) <| noP }
@[irreducible] noncomputable def A95 : AFun := (compFn Tryz.prog Tryz.f95).getD ⟨0, [], .skip⟩
noncomputable def w95 : Sh := shW 1 fun call n K => pA1 (s95 call n) K
theorem w95_ok {E : Env} (e : E.code 95 = some A95) (hp : E.prim 95 = none) : ShOK E 95 w95 := shW_ok (A := { pts := [], lps := [(8, [3, 6, 7, 8])] }) (S := T95) e hp (by kernel_rfl) (by kernel_rfl) (by kernel_rfl)

@[irreducible] noncomputable def A96 : AFun := (compFn Tryz.prog Tryz.f96).getD ⟨0, [], .skip⟩
noncomputable def w96 : Sh := shW 2 fun call n K => pA2 (s96 call n) K
theorem w96_ok {E : Env} (e : E.code 96 = some A96) (hp : E.prim 96 = none) : ShOK E 96 w96 := shW_ok (A := { pts := [], lps := [] }) (S := noS) e hp (by kernel_rfl) (by kernel_rfl) (by kernel_rfl)

@[irreducible] noncomputable def A97 : AFun := (compFn Tryz.prog Tryz.f97).getD ⟨0, [], .skip⟩
noncomputable def w97 : Sh := shW 2 fun call n K => pA2 (s97 call n) K
theorem w97_ok {E : Env} (e : E.code 97 = some A97) (hp : E.prim 97 = none) : ShOK E 97 w97 := shW_ok (A := { pts := [], lps := [] }) (S := noS) e hp (by kernel_rfl) (by kernel_rfl) (by kernel_rfl)

noncomputable def T98 (call : CallFn) (n : Nat) (K : Kont) : Sp := {
  pt := fun β j => ifF j 10 (pA4 (p98_10 call n (pF4 (pB 0 β))) K) <| ifF j 26 (pA4 (p98_26 call n (pF4 (pB 0 β))) K) <| noP
  fs := fun β j => noP
  rd := fun β j => ifF j 3 (pA4 (b98_3 call n (pF4 (pB 0 β))) K) <| ifF j 15 (pA5 (b98_15 call n (pF4 (pB 1 β)) (pF5 (pB 0 β))) K) <| noP
  lp := fun β j m => ifL j 3 (pC4 (l98_3 call n m) K) <| ifL j 15 (pC5 (l98_15 call n (pF4 (pB 0 β)) m) K) <| noP }
@[irreducible] noncomputable def A98 : AFun := (compFn Tryz.prog Tryz.f98).getD ⟨0, [], .skip⟩
noncomputable def w98 : Sh := shW 3 fun call n K => pA3 (s98 call n) K
theorem w98_ok {E : Env} (e : E.code 98 = some A98) (hp : E.prim 98 = none) : ShOK E 98 w98 := shW_ok (A := { pts := [(10, [0, 1, 2, 6]), (26, [0, 1, 2, 6])], lps := [(3, [0, 1, 2, 6]), (15, [0, 1, 2, 6, 7])] }) (S := T98) e hp (by kernel_rfl) (by kernel_rfl) (by kernel_rfl)

noncomputable def T108 (call : CallFn) (n : Nat) (K : Kont) : Sp := {
  pt := fun β j => ifF j 10 (pA2 (p108_10 call n) K) <| ifF j 18 (pA2 (p108_18 call n) K) <| ifF j 26 (pA2 (p108_26 call n) K) <| noP
  fs := fun β j => noP
  rd := fun β j => noP
  lp := fun β j m => noP }
@[irreducible] noncomputable def A108 : AFun := (compFn Tryz.prog Tryz.f108).getD ⟨0, [], .skip⟩
noncomputable def w108 : Sh := shW 1 fun call n K => pA1 (s108 call n) K
theorem w108_ok {E : Env} (e : E.code 108 = some A108) (hp : E.prim 108 = none) : ShOK E 108 w108 := shW_ok (A := { pts := [(10, [0, 2]), (18, [0, 2]), (26, [0, 2])], lps := [] }) (S := T108) e hp (by kernel_rfl) (by kernel_rfl) (by kernel_rfl)

@[irreducible] noncomputable def A109 : AFun := (compFn Tryz.prog Tryz.f109).getD ⟨0, [], .skip⟩
noncomputable def w109 : Sh := shW 1 fun call n K => pA1 (s109 call n) K
theorem w109_ok {E : Env} (e : E.code 109 = some A109) (hp : E.prim 109 = none) : ShOK E 109 w109 := shW_ok (A := { pts := [], lps := [] }) (S := noS) e hp (by kernel_rfl) (by kernel_rfl) (by kernel_rfl)

@[irreducible] noncomputable def A111 : AFun := (compFn Tryz.prog Tryz.f111).getD ⟨0, [], .skip⟩
noncomputable def w111 : Sh := shW 1 fun call n K => pA1 (s111 call n) K
theorem w111_ok {E : Env} (e : E.code 111 = some A111) (hp : E.prim 111 = none) : ShOK E 111 w111 := shW_ok (A := { pts := [], lps := [] }) (S := noS) e hp (by kernel_rfl) (by kernel_rfl) (by kernel_rfl)

@[irreducible] noncomputable def A112 : AFun := (compFn Tryz.prog Tryz.f112).getD ⟨0, [], .skip⟩
noncomputable def w112 : Sh := shW 2 fun call n K => pA2 (s112 call n) K
theorem w112_ok {E : Env} (e : E.code 112 = some A112) (hp : E.prim 112 = none) : ShOK E 112 w112 := shW_ok (A := { pts := [], lps := [] }) (S := noS) e hp (by kernel_rfl) (by kernel_rfl) (by kernel_rfl)

noncomputable def T113 (call : CallFn) (n : Nat) (K : Kont) : Sp := {
  pt := fun β j => ifF j 156 (pA1 (p113_156 call n) K) <| noP
  fs := fun β j => noP
  rd := fun β j => noP
  lp := fun β j m => noP }
@[irreducible] noncomputable def A113 : AFun := (compFn Tryz.prog Tryz.f113).getD ⟨0, [], .skip⟩
noncomputable def w113 : Sh := shW 1 fun call n K => pA1 (s113 call n) K
theorem w113_ok {E : Env} (e : E.code 113 = some A113) (hp : E.prim 113 = none) : ShOK E 113 w113 := shW_ok (A := { pts := [(156, [4])], lps := [] }) (S := T113) e hp (by kernel_rfl) (by kernel_rfl) (by kernel_rfl)

@[irreducible] noncomputable def A114 : AFun := (compFn Tryz.prog Tryz.f114).getD ⟨0, [], .skip⟩
noncomputable def w114 : Sh := shW 1 fun call n K => pA1 (s114 call n) K
theorem w114_ok {E : Env} (e : E.code 114 = some A114) (hp : E.prim 114 = none) : ShOK E 114 w114 := shW_ok (A := { pts := [], lps := [] }) (S := noS) e hp (by kernel_rfl) (by kernel_rfl) (by kernel_rfl)

@[irreducible] noncomputable def A115 : AFun := (compFn Tryz.prog Tryz.f115).getD ⟨0, [], .skip⟩
noncomputable def w115 : Sh := shW 2 fun call n K => pA2 (s115 call n) K
theorem w115_ok {E : Env} (e : E.code 115 = some A115) (hp : E.prim 115 = none) : ShOK E 115 w115 := shW_ok (A := { pts := [], lps := [] }) (S := noS) e hp (by kernel_rfl) (by kernel_rfl) (by kernel_rfl)

noncomputable def T116 (call : CallFn) (n : Nat) (K : Kont) : Sp := {
  pt := fun β j => ifF j 4001 (pA2 (p116_4001 call n) K) <| noP
  fs := fun β j => noP
  rd := fun β j => noP
  lp := fun β j m => noP }
@[irreducible] noncomputable def A116 : AFun := (compFn Tryz.prog Tryz.f116).getD ⟨0, [], .skip⟩
noncomputable def w116 : Sh := shW 2 fun call n K => pA2 (s116 call n) K
theorem w116_ok {E : Env} (e : E.code 116 = some A116) (hp : E.prim 116 = none) : ShOK E 116 w116 := shW_ok (A := { pts := [], lps := [], cuts := [(3, [(2, 4001, [1, 6])])] }) (S := T116) e hp (by kernel_rfl) (by kernel_rfl) (by kernel_rfl)

noncomputable def T118 (call : CallFn) (n : Nat) (K : Kont) : Sp := {
  pt := fun β j => ifF j 9001 (pA2 (p118_9001 call n) K) <| ifF j 15001 (pA2 (p118_15001 call n) K) <| ifF j 23001 (pA3 (p118_23001 call n) K) <| ifF j 27001 (pA4 (p118_27001 call n) K) <| ifF j 37001 (pA2 (p118_37001 call n) K) <| ifF j 45001 (pA3 (p118_45001 call n) K) <| ifF j 55001 (pA2 (p118_55001 call n) K) <| ifF j 61001 (pA2 (p118_61001 call n) K) <| ifF j 64001 (pA3 (p118_64001 call n) K) <| ifF j 64002 (pA4 (p118_64002 call n) K) <| ifF j 67001 (pA3 (p118_67001 call n) K) <| ifF j 71001 (pA3 (p118_71001 call n) K) <| ifF j 77001 (pA2 (p118_77001 call n) K) <| noP
  fs := fun β j => noP
  rd := fun β j => noP
  lp := fun β j m => noP }
@[irreducible] noncomputable def A118 : AFun := (compFn Tryz.prog Tryz.f118).getD ⟨0, [], .skip⟩
noncomputable def w118 : Sh := shW 1 fun call n K => pA1 (s118 call n) K
theorem w118_ok {E : Env} (e : E.code 118 = some A118) (hp : E.prim 118 = none) : ShOK E 118 w118 := shW_ok (A := { pts := [], lps := [], cuts := [(8, [(2, 9001, [2, 10])]), (14, [(2, 15001, [2, 16])]), (22, [(3, 23001, [0, 2, 25])]), (26, [(3, 27001, [0, 2, 3, 32])]), (36, [(2, 37001, [2, 41])]), (44, [(2, 45001, [0, 2, 48])]), (54, [(2, 55001, [2, 57])]), (60, [(2, 61001, [2, 62])]), (63, [(2, 64001, [0, 2, 65]), (3, 64002, [0, 2, 66, 68])]), (66, [(2, 67001, [0, 2, 72])]), (70, [(2, 71001, [2, 5, 78])]), (76, [(2, 77001, [2, 82])])] }) (S := T118) e hp (by kernel_rfl) (by kernel_rfl) (by kernel_rfl)

@[irreducible] noncomputable def A122 : AFun := (compFn Tryz.prog Tryz.f122).getD ⟨0, [], .skip⟩
noncomputable def w122 : Sh := shW 2 fun call n K => pA2 (s122 call n) K
theorem w122_ok {E : Env} (e : E.code 122 = some A122) (hp : E.prim 122 = none) : ShOK E 122 w122 := shW_ok (A := { pts := [], lps := [] }) (S := noS) e hp (by kernel_rfl) (by kernel_rfl) (by kernel_rfl)

noncomputable def T123 (call : CallFn) (n : Nat) (K : Kont) : Sp := {
  pt := fun β j => ifF j 19 (pA2 (p123_19 call n) K) <| ifF j 36 (pA2 (p123_36 call n) K) <| noP
  fs := fun β j => noP
  rd := fun β j => ifF j 6 (pA5 (b123_6 call n (pF5 (pB 0 β))) K) <| ifF j 23 (pA5 (b123_23 call n (pF5 (pB 0 β))) K) <| ifF j 39 (pA4 (b123_39 call n (pF4 (pB 0 β))) K) <| noP
  lp := fun β j m => ifL j 6 (pC5 (l123_6 call n m) K) <| ifL j 23 (pC5 (l123_23 call n m) K) <| ifL j 39 (pC4 (l123_39 call n m) K) <| noP }
@[irreducible] noncomputable def A123 : AFun := (compFn Tryz.prog Tryz.f123).getD ⟨0, [], .skip⟩
noncomputable def w123 : Sh := shW 2 fun call n K => pA2 (s123 call n) K
theorem w123_ok {E : Env} (e : E.code 123 = some A123) (hp : E.prim 123 = none) : ShOK E 123 w123 := shW_ok (A := { pts := [(19, [0, 3]), (36, [0, 3])], lps := [(6, [0, 3, 11, 12, 13]), (23, [0, 3, 22, 23, 24]), (39, [0, 33, 34, 35])] }) (S := T123) e hp (by kernel_rfl) (by kernel_rfl) (by kernel_rfl)

noncomputable def T124 (call : CallFn) (n : Nat) (K : Kont) : Sp := {
  pt := fun β j => ifF j 4001 (pA3 (p124_4001 call n) K) <| ifF j 16001 (pA3 (p124_16001 call n) K) <| noP
  fs := fun β j => noP
  rd := fun β j => noP
  lp := fun β j m => noP }
@[irreducible] noncomputable def A124 : AFun := (compFn Tryz.prog Tryz.f124).getD ⟨0, [], .skip⟩
noncomputable def w124 : Sh := shW 1 fun call n K => pA1 (s124 call n) K
theorem w124_ok {E : Env} (e : E.code 124 = some A124) (hp : E.prim 124 = none) : ShOK E 124 w124 := shW_ok (A := { pts := [], lps := [], cuts := [(3, [(2, 4001, [0, 2, 10])]), (15, [(5, 16001, [2, 7, 22])])] }) (S := T124) e hp (by kernel_rfl) (by kernel_rfl) (by kernel_rfl)

noncomputable def T125 (call : CallFn) (n : Nat) (K : Kont) : Sp := {
  pt := fun β j => ifF j 4001 (pA3 (p125_4001 call n) K) <| ifF j 4002 (pA4 (p125_4002 call n) K) <| ifF j 4003 (pA2 (p125_4003 call n) K) <| noP
  fs := fun β j => noP
  rd := fun β j => noP
  lp := fun β j m => noP }
@[irreducible] noncomputable def A125 : AFun := (compFn Tryz.prog Tryz.f125).getD ⟨0, [], .skip⟩
noncomputable def w125 : Sh := shW 2 fun call n K => pA2 (s125 call n) K
theorem w125_ok {E : Env} (e : E.code 125 = some A125) (hp : E.prim 125 = none) : ShOK E 125 w125 := shW_ok (A := { pts := [], lps := [], cuts := [(3, [(5, 4001, [2, 3, 9]), (6, 4002, [2, 3, 10, 15]), (7, 4003, [17, 22])])] }) (S := T125) e hp (by kernel_rfl) (by kernel_rfl) (by kernel_rfl)

@[irreducible] noncomputable def A126 : AFun := (compFn Tryz.prog Tryz.f126).getD ⟨0, [], .skip⟩
noncomputable def w126 : Sh := shW 1 fun call n K => pA1 (s126 call n) K
theorem w126_ok {E : Env} (e : E.code 126 = some A126) (hp : E.prim 126 = none) : ShOK E 126 w126 := shW_ok (A := { pts := [], lps := [] }) (S := noS) e hp (by kernel_rfl) (by kernel_rfl) (by kernel_rfl)

@[irreducible] noncomputable def A128 : AFun := (compFn Tryz.prog Tryz.f128).getD ⟨0, [], .skip⟩
noncomputable def w128 : Sh := shW 1 fun call n K => pA1 (s128 call n) K
theorem w128_ok {E : Env} (e : E.code 128 = some A128) (hp : E.prim 128 = none) : ShOK E 128 w128 := shW_ok (A := { pts := [], lps := [] }) (S := noS) e hp (by kernel_rfl) (by kernel_rfl) (by kernel_rfl)

noncomputable def T129 (call : CallFn) (n : Nat) (K : Kont) : Sp := {
  pt := fun β j => ifF j 4001 (pA3 (p129_4001 call n) K) <| noP
  fs := fun β j => noP
  rd := fun β j => noP
  lp := fun β j m => noP }
@[irreducible] noncomputable def A129 : AFun := (compFn Tryz.prog Tryz.f129).getD ⟨0, [], .skip⟩
noncomputable def w129 : Sh := shW 2 fun call n K => pA2 (s129 call n) K
theorem w129_ok {E : Env} (e : E.code 129 = some A129) (hp : E.prim 129 = none) : ShOK E 129 w129 := shW_ok (A := { pts := [], lps := [], cuts := [(3, [(3, 4001, [0, 1, 8])])] }) (S := T129) e hp (by kernel_rfl) (by kernel_rfl) (by kernel_rfl)

@[irreducible] noncomputable def A130 : AFun := (compFn Tryz.prog Tryz.f130).getD ⟨0, [], .skip⟩
noncomputable def w130 : Sh := shW 2 fun call n K => pA2 (s130 call n) K
theorem w130_ok {E : Env} (e : E.code 130 = some A130) (hp : E.prim 130 = none) : ShOK E 130 w130 := shW_ok (A := { pts := [], lps := [] }) (S := noS) e hp (by kernel_rfl) (by kernel_rfl) (by kernel_rfl)

@[irreducible] noncomputable def A131 : AFun := (compFn Tryz.prog Tryz.f131).getD ⟨0, [], .skip⟩
noncomputable def w131 : Sh := shW 2 fun call n K => pA2 (s131 call n) K
theorem w131_ok {E : Env} (e : E.code 131 = some A131) (hp : E.prim 131 = none) : ShOK E 131 w131 := shW_ok (A := { pts := [], lps := [] }) (S := noS) e hp (by kernel_rfl) (by kernel_rfl) (by kernel_rfl)

@[irreducible] noncomputable def A132 : AFun := (compFn Tryz.prog Tryz.f132).getD ⟨0, [], .skip⟩
noncomputable def w132 : Sh := shW 1 fun call n K => pA1 (s132 call n) K
theorem w132_ok {E : Env} (e : E.code 132 = some A132) (hp : E.prim 132 = none) : ShOK E 132 w132 := shW_ok (A := { pts := [], lps := [] }) (S := noS) e hp (by kernel_rfl) (by kernel_rfl) (by kernel_rfl)

noncomputable def T133 (call : CallFn) (n : Nat) (K : Kont) : Sp := {
  pt := fun β j => ifF j 25 (pA2 (p133_25 call n) K) <| ifF j 19001 (pA8 (p133_19001 call n (pF6 (pB 0 β))) K) <| ifF j 42001 (pA6 (p133_42001 call n (pF4 (pB 0 β))) K) <| noP
  fs := fun β j => noP
  rd := fun β j => ifF j 6 (pA6 (b133_6 call n (pF6 (pB 0 β))) K) <| ifF j 29 (pA4 (b133_29 call n (pF4 (pB 0 β))) K) <| noP
  lp := fun β j m => ifL j 6 (pC6 (l133_6 call n m) K) <| ifL j 29 (pC4 (l133_29 call n m) K) <| noP }
@[irreducible] noncomputable def A133 : AFun := (compFn Tryz.prog Tryz.f133).getD ⟨0, [], .skip⟩
noncomputable def w133 : Sh := shW 3 fun call n K => pA3 (s133 call n) K
theorem w133_ok {E : Env} (e : E.code 133 = some A133) (hp : E.prim 133 = none) : ShOK E 133 w133 := shW_ok (A := { pts := [(25, [0, 2])], lps := [(6, [0, 1, 2, 16, 17, 18]), (29, [2, 33, 34, 35])], cuts := [(18, [(3, 19001, [0, 1, 2, 9, 16, 17, 18, 24])]), (41, [(3, 42001, [2, 11, 33, 34, 35, 41])])] }) (S := T133) e hp (by kernel_rfl) (by kernel_rfl) (by kernel_rfl)

@[irreducible] noncomputable def A134 : AFun := (compFn Tryz.prog Tryz.f134).getD ⟨0, [], .skip⟩
noncomputable def w134 : Sh := shW 3 fun call n K => pA3 (s134 call n) K
theorem w134_ok {E : Env} (e : E.code 134 = some A134) (hp : E.prim 134 = none) : ShOK E 134 w134 := shW_ok (A := { pts := [], lps := [] }) (S := noS) e hp (by kernel_rfl) (by kernel_rfl) (by kernel_rfl)

@[irreducible] noncomputable def A138 : AFun := (compFn Tryz.prog Tryz.f138).getD ⟨0, [], .skip⟩
noncomputable def w138 : Sh := shW 2 fun call n K => pA2 (s138 call n) K
theorem w138_ok {E : Env} (e : E.code 138 = some A138) (hp : E.prim 138 = none) : ShOK E 138 w138 := shW_ok (A := { pts := [], lps := [] }) (S := noS) e hp (by kernel_rfl) (by kernel_rfl) (by kernel_rfl)

@[irreducible] noncomputable def A140 : AFun := (compFn Tryz.prog Tryz.f140).getD ⟨0, [], .skip⟩
noncomputable def w140 : Sh := shW 2 fun call n K => pA2 (s140 call n) K
theorem w140_ok {E : Env} (e : E.code 140 = some A140) (hp : E.prim 140 = none) : ShOK E 140 w140 := shW_ok (A := { pts := [], lps := [] }) (S := noS) e hp (by kernel_rfl) (by kernel_rfl) (by kernel_rfl)

noncomputable def T141 (call : CallFn) (n : Nat) (K : Kont) : Sp := {
  pt := fun β j => noP
  fs := fun β j => noP
  rd := fun β j => ifF j 8 (pA5 (b141_8 call n (pF5 (pB 0 β))) K) <| noP
  lp := fun β j m => ifL j 8 (pC5 (l141_8 call n m) K) <| noP }
@[irreducible] noncomputable def A141 : AFun := (compFn Tryz.prog Tryz.f141).getD ⟨0, [], .skip⟩
noncomputable def w141 : Sh := shW 3 fun call n K => pA3 (s141 call n) K
theorem w141_ok {E : Env} (e : E.code 141 = some A141) (hp : E.prim 141 = none) : ShOK E 141 w141 := shW_ok (A := { pts := [], lps := [(8, [0, 2, 11, 12, 13])] }) (S := T141) e hp (by kernel_rfl) (by kernel_rfl) (by kernel_rfl)

@[irreducible] noncomputable def A145 : AFun := (compFn Tryz.prog Tryz.f145).getD ⟨0, [], .skip⟩
noncomputable def w145 : Sh := shW 2 fun call n K => pA2 (s145 call n) K
theorem w145_ok {E : Env} (e : E.code 145 = some A145) (hp : E.prim 145 = none) : ShOK E 145 w145 := shW_ok (A := { pts := [], lps := [] }) (S := noS) e hp (by kernel_rfl) (by kernel_rfl) (by kernel_rfl)

noncomputable def T146 (call : CallFn) (n : Nat) (K : Kont) : Sp := {
  pt := fun β j => noP
  fs := fun β j => noP
  rd := fun β j => ifF j 5 (pA5 (b146_5 call n (pF5 (pB 0 β))) K) <| noP
  lp := fun β j m => ifL j 5 (pC5 (l146_5 call n m) K) <| noP }
@[irreducible] noncomputable def A146 : AFun := (compFn Tryz.prog Tryz.f146).getD ⟨0, [], .skip⟩
noncomputable def w146 : Sh := shW 2 fun call n K => pA2 (s146 call n) K
theorem w146_ok {E : Env} (e : E.code 146 = some A146) (hp : E.prim 146 = none) : ShOK E 146 w146 := shW_ok (A := { pts := [], lps := [(5, [0, 2, 11, 12, 13])] }) (S := T146) e hp (by kernel_rfl) (by kernel_rfl) (by kernel_rfl)

@[irreducible] noncomputable def A153 : AFun := (compFn Tryz.prog Tryz.f153).getD ⟨0, [], .skip⟩
noncomputable def w153 : Sh := shW 1 fun call n K => pA1 (s153 call n) K
theorem w153_ok {E : Env} (e : E.code 153 = some A153) (hp : E.prim 153 = none) : ShOK E 153 w153 := shW_ok (A := { pts := [], lps := [] }) (S := noS) e hp (by kernel_rfl) (by kernel_rfl) (by kernel_rfl)

noncomputable def T158 (call : CallFn) (n : Nat) (K : Kont) : Sp := {
  pt := fun β j => ifF j 4001 (pA3 (p158_4001 call n) K) <| ifF j 4002 (pA2 (p158_4002 call n) K) <| noP
  fs := fun β j => noP
  rd := fun β j => noP
  lp := fun β j m => noP }
@[irreducible] noncomputable def A158 : AFun := (compFn Tryz.prog Tryz.f158).getD ⟨0, [], .skip⟩
noncomputable def w158 : Sh := shW 2 fun call n K => pA2 (s158 call n) K
theorem w158_ok {E : Env} (e : E.code 158 = some A158) (hp : E.prim 158 = none) : ShOK E 158 w158 := shW_ok (A := { pts := [], lps := [], cuts := [(3, [(3, 4001, [1, 2, 6]), (4, 4002, [8, 10])])] }) (S := T158) e hp (by kernel_rfl) (by kernel_rfl) (by kernel_rfl)

noncomputable def T159 (call : CallFn) (n : Nat) (K : Kont) : Sp := {
  pt := fun β j => ifF j 15 (pA4 (p159_15 call n (pF4 (pB 0 β))) K) <| ifF j 37 (pA4 (p159_37 call n (pF4 (pB 0 β))) K) <| ifF j 36001 (pA8 (p159_36001 call n (pF4 (pB 1 β)) (pF7 (pB 0 β))) K) <| noP
  fs := fun β j => noP
  rd := fun β j => ifF j 8 (pA4 (b159_8 call n (pF4 (pB 0 β))) K) <| ifF j 24 (pA7 (b159_24 call n (pF4 (pB 1 β)) (pF7 (pB 0 β))) K) <| noP
  lp := fun β j m => ifL j 8 (pC4 (l159_8 call n m) K) <| ifL j 24 (pC7 (l159_24 call n (pF4 (pB 0 β)) m) K) <| noP }
@[irreducible] noncomputable def A159 : AFun := (compFn Tryz.prog Tryz.f159).getD ⟨0, [], .skip⟩
noncomputable def w159 : Sh := shW 1 fun call n K => pA1 (s159 call n) K
theorem w159_ok {E : Env} (e : E.code 159 = some A159) (hp : E.prim 159 = none) : ShOK E 159 w159 := shW_ok (A := { pts := [(15, [3, 8, 9, 10]), (37, [3, 8, 9, 10])], lps := [(8, [3, 8, 9, 10]), (24, [3, 8, 9, 10, 25, 26, 27])], cuts := [(35, [(3, 36001, [8, 9, 10, 25, 26, 27, 31, 33])])] }) (S := T159) e hp (by kernel_rfl) (by kernel_rfl) (by kernel_rfl)

@[irreducible] noncomputable def A160 : AFun := (compFn Tryz.prog Tryz.f160).getD ⟨0, [], .skip⟩
noncomputable def w160 : Sh := shW 2 fun call n K => pA2 (s160 call n) K
theorem w160_ok {E : Env} (e : E.code 160 = some A160) (hp : E.prim 160 = none) : ShOK E 160 w160 := shW_ok (A := { pts := [], lps := [] }) (S := noS) e hp (by kernel_rfl) (by kernel_rfl) (by kernel_rfl)

noncomputable def T161 (call : CallFn) (n : Nat) (K : Kont) : Sp := {
  pt := fun β j => ifF j 15 (pA4 (p161_15 call n (pF4 (pB 0 β))) K) <| ifF j 36 (pA8 (p161_36 call n (pF4 (pB 1 β)) (pF8 (pB 0 β))) K) <| ifF j 58 (pA8 (p161_58 call n (pF4 (pB 1 β)) (pF8 (pB 0 β))) K) <| ifF j 60 (pA4 (p161_60 call n (pF4 (pB 0 β))) K) <| noP
  fs := fun β j => noP
  rd := fun β j => ifF j 8 (pA4 (b161_8 call n (pF4 (pB 0 β))) K) <| ifF j 29 (pA8 (b161_29 call n (pF4 (pB 1 β)) (pF8 (pB 0 β))) K) <| ifF j 43 (pA12 (b161_43 call n (pF4 (pB 2 β)) (pF8 (pB 1 β)) (pF12 (pB 0 β))) K) <| noP
  lp := fun β j m => ifL j 8 (pC4 (l161_8 call n m) K) <| ifL j 29 (pC8 (l161_29 call n (pF4 (pB 0 β)) m) K) <| ifL j 43 (pC12 (l161_43 call n (pF4 (pB 1 β)) (pF8 (pB 0 β)) m) K) <| noP }
@[irreducible] noncomputable def A161 : AFun := (compFn Tryz.prog Tryz.f161).getD ⟨0, [], .skip⟩
noncomputable def w161 : Sh := shW 1 fun call n K => pA1 (s161 call n) K
theorem w161_ok {E : Env} (e : E.code 161 = some A161) (hp : E.prim 161 = none) : ShOK E 161 w161 := shW_ok (A := { pts := [(15, [3, 13, 14, 15]), (36, [6, 7, 13, 14, 15, 28, 29, 30]), (58, [6, 7, 13, 14, 15, 28, 29, 30]), (60, [3, 13, 14, 15])], lps := [(8, [3, 13, 14, 15]), (29, [6, 7, 13, 14, 15, 28, 29, 30]), (43, [6, 7, 9, 13, 14, 15, 28, 29, 30, 34, 35, 36])] }) (S := T161) e hp (by kernel_rfl) (by kernel_rfl) (by kernel_rfl)

noncomputable def T163 (call : CallFn) (n : Nat) (K : Kont) : Sp := {
  pt := fun β j => ifF j 4001 (pA1 (p163_4001 call n) K) <| noP
  fs := fun β j => noP
  rd := fun β j => noP
  lp := fun β j m => noP }
@[irreducible] noncomputable def A163 : AFun := (compFn Tryz.prog Tryz.f163).getD ⟨0, [], .skip⟩
noncomputable def w163 : Sh := shW 2 fun call n K => pA2 (s163 call n) K
theorem w163_ok {E : Env} (e : E.code 163 = some A163) (hp : E.prim 163 = none) : ShOK E 163 w163 := shW_ok (A := { pts := [], lps := [], cuts := [(3, [(3, 4001, [7])])] }) (S := T163) e hp (by kernel_rfl) (by kernel_rfl) (by kernel_rfl)

noncomputable def T164 (call : CallFn) (n : Nat) (K : Kont) : Sp := {
  pt := fun β j => ifF j 4001 (pA3 (p164_4001 call n) K) <| ifF j 4002 (pA4 (p164_4002 call n) K) <| ifF j 4003 (pA2 (p164_4003 call n) K) <| noP
  fs := fun β j => noP
  rd := fun β j => noP
  lp := fun β j m => noP }
@[irreducible] noncomputable def A164 : AFun := (compFn Tryz.prog Tryz.f164).getD ⟨0, [], .skip⟩
noncomputable def w164 : Sh := shW 2 fun call n K => pA2 (s164 call n) K
theorem w164_ok {E : Env} (e : E.code 164 = some A164) (hp : E.prim 164 = none) : ShOK E 164 w164 := shW_ok (A := { pts := [], lps := [], cuts := [(3, [(5, 4001, [1, 2, 8]), (7, 4002, [1, 2, 10, 15]), (7, 4003, [18, 22])])] }) (S := T164) e hp (by kernel_rfl) (by kernel_rfl) (by kernel_rfl)

noncomputable def T165 (call : CallFn) (n : Nat) (K : Kont) : Sp := {
  pt := fun β j => ifF j 4001 (pA1 (p165_4001 call n) K) <| noP
  fs := fun β j => noP
  rd := fun β j => noP
  lp := fun β j m => noP }
@[irreducible] noncomputable def A165 : AFun := (compFn Tryz.prog Tryz.f165).getD ⟨0, [], .skip⟩
noncomputable def w165 : Sh := shW 2 fun call n K => pA2 (s165 call n) K
theorem w165_ok {E : Env} (e : E.code 165 = some A165) (hp : E.prim 165 = none) : ShOK E 165 w165 := shW_ok (A := { pts := [], lps := [], cuts := [(3, [(3, 4001, [7])])] }) (S := T165) e hp (by kernel_rfl) (by kernel_rfl) (by kernel_rfl)

noncomputable def T167 (call : CallFn) (n : Nat) (K : Kont) : Sp := {
  pt := fun β j => ifF j 52 (pA1 (p167_52 call n) K) <| ifF j 91 (pA1 (p167_91 call n) K) <| ifF j 11001 (pA1 (p167_11001 call n) K) <| ifF j 11002 (pA1 (p167_11002 call n) K) <| ifF j 27001 (pA1 (p167_27001 call n) K) <| ifF j 27002 (pA1 (p167_27002 call n) K) <| ifF j 33001 (pA2 (p167_33001 call n) K) <| ifF j 38001 (pA3 (p167_38001 call n) K) <| ifF j 51001 (pA6 (p167_51001 call n (pF5 (pB 0 β))) K) <| ifF j 51002 (pA6 (p167_51002 call n (pF5 (pB 0 β))) K) <| ifF j 85001 (pA5 (p167_85001 call n (pF4 (pB 0 β))) K) <| noP
  fs := fun β j => noP
  rd := fun β j => ifF j 39 (pA5 (b167_39 call n (pF5 (pB 0 β))) K) <| ifF j 72 (pA4 (b167_72 call n (pF4 (pB 0 β))) K) <| noP
  lp := fun β j m => ifL j 39 (pC5 (l167_39 call n m) K) <| ifL j 72 (pC4 (l167_72 call n m) K) <| noP }
@[irreducible] noncomputable def A167 : AFun := (compFn Tryz.prog Tryz.f167).getD ⟨0, [], .skip⟩
noncomputable def w167 : Sh := shW 1 fun call n K => pA1 (s167 call n) K
theorem w167_ok {E : Env} (e : E.code 167 = some A167) (hp : E.prim 167 = none) : ShOK E 167 w167 := shW_ok (A := { pts := [(52, [5]), (91, [1])], lps := [(39, [4, 5, 48, 49, 50]), (72, [9, 80, 81, 82])], cuts := [(10, [(3, 11001, [18]), (1, 11002, [19])]), (26, [(2, 27001, [36]), (1, 27002, [37])]), (32, [(3, 33001, [1, 44])]), (37, [(3, 38001, [4, 5, 48])]), (50, [(4, 51001, [4, 48, 49, 50, 54, 57]), (1, 51002, [4, 48, 49, 50, 54, 58])]), (84, [(3, 85001, [80, 81, 82, 86, 88])])] }) (S := T167) e hp (by kernel_rfl) (by kernel_rfl) (by kernel_rfl)

noncomputable def T168 (call : CallFn) (n : Nat) (K : Kont) : Sp := {
  pt := fun β j => ifF j 8 (pA5 (p168_8 call n) K) <| noP
  fs := fun β j => noP
  rd := fun β j => ifF j 11 (pA7 (b168_11 call n (pF7 (pB 0 β))) K) <| noP
  lp := fun β j m => ifL j 11 (pC7 (l168_11 call n m) K) <| noP }
@[irreducible] noncomputable def A168 : AFun := (compFn Tryz.prog Tryz.f168).getD ⟨0, [], .skip⟩
noncomputable def w168 : Sh := shW 5 fun call n K => pA5 (s168 call n) K
theorem w168_ok {E : Env} (e : E.code 168 = some A168) (hp : E.prim 168 = none) : ShOK E 168 w168 := shW_ok (A := { pts := [(8, [0, 1, 2, 3, 4])], lps := [(11, [0, 1, 2, 4, 20, 21, 22])] }) (S := T168) e hp (by kernel_rfl) (by kernel_rfl) (by kernel_rfl)

noncomputable def T169 (call : CallFn) (n : Nat) (K : Kont) : Sp := {
  pt := fun β j => ifF j 4001 (pA2 (p169_4001 call n) K) <| noP
  fs := fun β j => noP
  rd := fun β j => noP
  lp := fun β j m => noP }
@[irreducible] noncomputable def A169 : AFun := (compFn Tryz.prog Tryz.f169).getD ⟨0, [], .skip⟩
noncomputable def w169 : Sh := shW 2 fun call n K => pA2 (s169 call n) K
theorem w169_ok {E : Env} (e : E.code 169 = some A169) (hp : E.prim 169 = none) : ShOK E 169 w169 := shW_ok (A := { pts := [], lps := [], cuts := [(3, [(2, 4001, [1, 6])])] }) (S := T169) e hp (by kernel_rfl) (by kernel_rfl) (by kernel_rfl)

noncomputable def T170 (call : CallFn) (n : Nat) (K : Kont) : Sp := {
  pt := fun β j => ifF j 2001 (pA3 (p170_2001 call n) K) <| noP
  fs := fun β j => noP
  rd := fun β j => noP
  lp := fun β j m => noP }
@[irreducible] noncomputable def A170 : AFun := (compFn Tryz.prog Tryz.f170).getD ⟨0, [], .skip⟩
noncomputable def w170 : Sh := shW 2 fun call n K => pA2 (s170 call n) K
theorem w170_ok {E : Env} (e : E.code 170 = some A170) (hp : E.prim 170 = none) : ShOK E 170 w170 := shW_ok (A := { pts := [], lps := [], cuts := [(1, [(2, 2001, [0, 1, 4])])] }) (S := T170) e hp (by kernel_rfl) (by kernel_rfl) (by kernel_rfl)

noncomputable def T171 (call : CallFn) (n : Nat) (K : Kont) : Sp := {
  pt := fun β j => ifF j 15 (pA4 (p171_15 call n (pF4 (pB 0 β))) K) <| ifF j 37 (pA4 (p171_37 call n (pF4 (pB 0 β))) K) <| ifF j 36001 (pA8 (p171_36001 call n (pF4 (pB 1 β)) (pF7 (pB 0 β))) K) <| noP
  fs := fun β j => noP
  rd := fun β j => ifF j 8 (pA4 (b171_8 call n (pF4 (pB 0 β))) K) <| ifF j 24 (pA7 (b171_24 call n (pF4 (pB 1 β)) (pF7 (pB 0 β))) K) <| noP
  lp := fun β j m => ifL j 8 (pC4 (l171_8 call n m) K) <| ifL j 24 (pC7 (l171_24 call n (pF4 (pB 0 β)) m) K) <| noP }
@[irreducible] noncomputable def A171 : AFun := (compFn Tryz.prog Tryz.f171).getD ⟨0, [], .skip⟩
noncomputable def w171 : Sh := shW 1 fun call n K => pA1 (s171 call n) K
theorem w171_ok {E : Env} (e : E.code 171 = some A171) (hp : E.prim 171 = none) : ShOK E 171 w171 := shW_ok (A := { pts := [(15, [3, 8, 9, 10]), (37, [3, 8, 9, 10])], lps := [(8, [3, 8, 9, 10]), (24, [3, 8, 9, 10, 25, 26, 27])], cuts := [(35, [(3, 36001, [8, 9, 10, 25, 26, 27, 31, 33])])] }) (S := T171) e hp (by kernel_rfl) (by kernel_rfl) (by kernel_rfl)

noncomputable def T172 (call : CallFn) (n : Nat) (K : Kont) : Sp := {
  pt := fun β j => ifF j 27 (pA3 (p172_27 call n) K) <| ifF j 44 (pA3 (p172_44 call n) K) <| ifF j 61 (pA2 (p172_61 call n) K) <| noP
  fs := fun β j => noP
  rd := fun β j => ifF j 14 (pA6 (b172_14 call n (pF6 (pB 0 β))) K) <| ifF j 31 (pA6 (b172_31 call n (pF6 (pB 0 β))) K) <| ifF j 48 (pA5 (b172_48 call n (pF5 (pB 0 β))) K) <| noP
  lp := fun β j m => ifL j 14 (pC6 (l172_14 call n m) K) <| ifL j 31 (pC6 (l172_31 call n m) K) <| ifL j 48 (pC5 (l172_48 call n m) K) <| noP }
@[irreducible] noncomputable def A172 : AFun := (compFn Tryz.prog Tryz.f172).getD ⟨0, [], .skip⟩
noncomputable def w172 : Sh := shW 1 fun call n K => pA1 (s172 call n) K
theorem w172_ok {E : Env} (e : E.code 172 = some A172) (hp : E.prim 172 = none) : ShOK E 172 w172 := shW_ok (A := { pts := [(27, [1, 2, 3]), (44, [1, 2, 3]), (61, [2, 3])], lps := [(14, [1, 2, 3, 31, 32, 33]), (31, [1, 2, 3, 46, 47, 48]), (48, [2, 3, 65, 66, 67])] }) (S := T172) e hp (by kernel_rfl) (by kernel_rfl) (by kernel_rfl)

@[irreducible] noncomputable def A174 : AFun := (compFn Tryz.prog Tryz.f174).getD ⟨0, [], .skip⟩
noncomputable def w174 : Sh := shW 1 fun call n K => pA1 (s174 call n) K
theorem w174_ok {E : Env} (e : E.code 174 = some A174) (hp : E.prim 174 = none) : ShOK E 174 w174 := shW_ok (A := { pts := [], lps := [] }) (S := noS) e hp (by kernel_rfl) (by kernel_rfl) (by kernel_rfl)

noncomputable def T175 (call : CallFn) (n : Nat) (K : Kont) : Sp := {
  pt := fun β j => ifF j 37 (pA2 (p175_37 call n) K) <| noP
  fs := fun β j => noP
  rd := fun β j => ifF j 6 (pA6 (b175_6 call n (pF6 (pB 0 β))) K) <| noP
  lp := fun β j m => ifL j 6 (pC6 (l175_6 call n m) K) <| noP }
@[irreducible] noncomputable def A175 : AFun := (compFn Tryz.prog Tryz.f175).getD ⟨0, [], .skip⟩
noncomputable def w175 : Sh := shW 3 fun call n K => pA3 (s175 call n) K
theorem w175_ok {E : Env} (e : E.code 175 = some A175) (hp : E.prim 175 = none) : ShOK E 175 w175 := shW_ok (A := { pts := [(37, [0, 1])], lps := [(6, [0, 1, 2, 11, 12, 13])] }) (S := T175) e hp (by kernel_rfl) (by kernel_rfl) (by kernel_rfl)

@[irreducible] noncomputable def A176 : AFun := (compFn Tryz.prog Tryz.f176).getD ⟨0, [], .skip⟩
noncomputable def w176 : Sh := shW 2 fun call n K => pA2 (s176 call n) K
theorem w176_ok {E : Env} (e : E.code 176 = some A176) (hp : E.prim 176 = none) : ShOK E 176 w176 := shW_ok (A := { pts := [], lps := [] }) (S := noS) e hp (by kernel_rfl) (by kernel_rfl) (by kernel_rfl)

@[irreducible] noncomputable def A177 : AFun := (compFn Tryz.prog Tryz.f177).getD ⟨0, [], .skip⟩
noncomputable def w177 : Sh := shW 2 fun call n K => pA2 (s177 call n) K
theorem w177_ok {E : Env} (e : E.code 177 = some A177) (hp : E.prim 177 = none) : ShOK E 177 w177 := shW_ok (A := { pts := [], lps := [] }) (S := noS) e hp (by kernel_rfl) (by kernel_rfl) (by kernel_rfl)

noncomputable def T184 (call : CallFn) (n : Nat) (K : Kont) : Sp := {
  pt := fun β j => ifF j 13001 (pA3 (p184_13001 call n (pF2 (pB 0 β))) K) <| ifF j 27001 (pA3 (p184_27001 call n (pF2 (pB 0 β))) K) <| noP
  fs := fun β j => noP
  rd := fun β j => ifF j 1 (pA2 (b184_1 call n (pF2 (pB 0 β))) K) <| noP
  lp := fun β j m => ifL j 1 (pC2 (l184_1 call n m) K) <| noP }
@[irreducible] noncomputable def A184 : AFun := (compFn Tryz.prog Tryz.f184).getD ⟨0, [], .skip⟩
noncomputable def w184 : Sh := shW 2 fun call n K => pA2 (s184 call n) K
theorem w184_ok {E : Env} (e : E.code 184 = some A184) (hp : E.prim 184 = none) : ShOK E 184 w184 := shW_ok (A := { pts := [], lps := [(1, [0, 1])], cuts := [(12, [(2, 13001, [0, 1, 19])]), (26, [(3, 27001, [0, 1, 49])])] }) (S := T184) e hp (by kernel_rfl) (by kernel_rfl) (by kernel_rfl)

noncomputable def T185 (call : CallFn) (n : Nat) (K : Kont) : Sp := {
  pt := fun β j => ifF j 23 (pA2 (p185_23 call n (pF1 (pB 0 β))) K) <| ifF j 49 (pA2 (p185_49 call n (pF1 (pB 0 β))) K) <| ifF j 14001 (pA3 (p185_14001 call n (pF1 (pB 0 β))) K) <| ifF j 40001 (pA3 (p185_40001 call n (pF1 (pB 0 β))) K) <| noP
  fs := fun β j => ifF j 0 (pA1 (f185_0 call n (pF1 (pB 0 β))) K) <| noP
  rd := fun β j => ifF j 0 (pA1 (j185_0 call n (pF1 (pB 0 β))) K) <| noP
  lp := fun β j m => ifL j 0 (pC1 (g185_0 call n m) K) <| noP }
@[irreducible] noncomputable def A185 : AFun := (compFn Tryz.prog Tryz.f185).getD ⟨0, [], .skip⟩
noncomputable def w185 : Sh := shW 1 fun call n K => pA1 (s185 call n) K
theorem w185_ok {E : Env} (e : E.code 185 = some A185) (hp : E.prim 185 = none) : ShOK E 185 w185 := shW_ok (A := { pts := [(23, [0, 3]), (49, [0, 3])], lps := [(0, [0])], scs := [(0, [0])], cuts := [(13, [(5, 14001, [0, 31, 33])]), (39, [(5, 40001, [0, 31, 33])])] }) (S := T185) e hp (by kernel_rfl) (by kernel_rfl) (by kernel_rfl)

noncomputable def T186 (call : CallFn) (n : Nat) (K : Kont) : Sp := {
  pt := fun β j => ifF j 15001 (pA3 (p186_15001 call n) K) <| ifF j 27001 (pA3 (p186_27001 call n) K) <| ifF j 39001 (pA3 (p186_39001 call n) K) <| ifF j 45001 (pA2 (p186_45001 call n) K) <| ifF j 53001 (pA3 (p186_53001 call n) K) <| noP
  fs := fun β j => noP
  rd := fun β j => noP
  lp := fun β j m => noP }
@[irreducible] noncomputable def A186 : AFun := (compFn Tryz.prog Tryz.f186).getD ⟨0, [], .skip⟩
noncomputable def w186 : Sh := shW 1 fun call n K => pA1 (s186 call n) K
theorem w186_ok {E : Env} (e : E.code 186 = some A186) (hp : E.prim 186 = none) : ShOK E 186 w186 := shW_ok (A := { pts := [], lps := [], cuts := [(14, [(3, 15001, [2, 3, 18])]), (26, [(3, 27001, [2, 3, 30])]), (38, [(3, 39001, [2, 3, 42])]), (44, [(2, 45001, [2, 50])]), (52, [(3, 53001, [2, 3, 60])])] }) (S := T186) e hp (by kernel_rfl) (by kernel_rfl) (by kernel_rfl)

noncomputable def T194 (call : CallFn) (n : Nat) (K : Kont) : Sp := {
  pt := fun β j => ifF j 12 (pA3 (p194_12 call n) K) <| ifF j 10001 (pA4 (p194_10001 call n) K) <| ifF j 14001 (pA4 (p194_14001 call n) K) <| noP
  fs := fun β j => noP
  rd := fun β j => noP
  lp := fun β j m => noP }
@[irreducible] noncomputable def A194 : AFun := (compFn Tryz.prog Tryz.f194).getD ⟨0, [], .skip⟩
noncomputable def w194 : Sh := shW 1 fun call n K => pA1 (s194 call n) K
theorem w194_ok {E : Env} (e : E.code 194 = some A194) (hp : E.prim 194 = none) : ShOK E 194 w194 := shW_ok (A := { pts := [(12, [1, 2, 3])], lps := [], cuts := [(9, [(2, 10001, [1, 2, 3, 8])]), (13, [(2, 14001, [1, 2, 3, 14])])] }) (S := T194) e hp (by kernel_rfl) (by kernel_rfl) (by kernel_rfl)

noncomputable def T198 (call : CallFn) (n : Nat) (K : Kont) : Sp := {
  pt := fun β j => ifF j 10 (pA2 (p198_10 call n) K) <| ifF j 50 (pA7 (p198_50 call n (pF4 (pB 0 β))) K) <| ifF j 57 (pA4 (p198_57 call n (pF4 (pB 0 β))) K) <| ifF j 58 (pA1 (p198_58 call n) K) <| noP
  fs := fun β j => noP
  rd := fun β j => ifF j 16 (pA4 (b198_16 call n (pF4 (pB 0 β))) K) <| noP
  lp := fun β j m => ifL j 16 (pC4 (l198_16 call n m) K) <| noP }
@[irreducible] noncomputable def A198 : AFun := (compFn Tryz.prog Tryz.f198).getD ⟨0, [], .skip⟩
noncomputable def w198 : Sh := shW 2 fun call n K => pA2 (s198 call n) K
theorem w198_ok {E : Env} (e : E.code 198 = some A198) (hp : E.prim 198 = none) : ShOK E 198 w198 := shW_ok (A := { pts := [(10, [0, 3]), (50, [0, 5, 23, 24, 25, 35, 38]), (57, [0, 23, 24, 25]), (58, [0])], lps := [(16, [0, 23, 24, 25])] }) (S := T198) e hp (by kernel_rfl) (by kernel_rfl) (by kernel_rfl)

noncomputable def T199 (call : CallFn) (n : Nat) (K : Kont) : Sp := {
  pt := fun β j => ifF j 22 (pA3 (p199_22 call n) K) <| ifF j 24 (pA2 (p199_24 call n) K) <| ifF j 30 (pA2 (p199_30 call n) K) <| ifF j 36 (pA2 (p199_36 call n) K) <| ifF j 42 (pA2 (p199_42 call n) K) <| ifF j 48 (pA2 (p199_48 call n) K) <| ifF j 71 (pA1 (p199_71 call n) K) <| ifF j 4001 (pA4 (p199_4001 call n) K) <| ifF j 23001 (pA4 (p199_23001 call n) K) <| ifF j 29001 (pA4 (p199_29001 call n) K) <| ifF j 35001 (pA4 (p199_35001 call n) K) <| noP
  fs := fun β j => noP
  rd := fun β j => ifF j 58 (pA4 (b199_58 call n (pF4 (pB 0 β))) K) <| noP
  lp := fun β j m => ifL j 58 (pC4 (l199_58 call n m) K) <| noP }
@[irreducible] noncomputable def A199 : AFun := (compFn Tryz.prog Tryz.f199).getD ⟨0, [], .skip⟩
noncomputable def w199 : Sh := shW 2 fun call n K => pA2 (s199 call n) K
theorem w199_ok {E : Env} (e : E.code 199 = some A199) (hp : E.prim 199 = none) : ShOK E 199 w199 := shW_ok (A := { pts := [(22, [0, 3, 4]), (24, [0, 3]), (30, [0, 3]), (36, [0, 3]), (42, [0, 3]), (48, [0, 3]), (71, [0])], lps := [(58, [0, 79, 80, 81])], cuts := [(3, [(4, 4001, [0, 3, 7, 10])]), (22, [(3, 23001, [0, 3, 35, 37])]), (28, [(4, 29001, [0, 3, 43, 46])]), (34, [(4, 35001, [0, 3, 52, 55])])] }) (S := T199) e hp (by kernel_rfl) (by kernel_rfl) (by kernel_rfl)

noncomputable def T201 (call : CallFn) (n : Nat) (K : Kont) : Sp := {
  pt := fun β j => ifF j 1001 (pA2 (p201_1001 call n) K) <| noP
  fs := fun β j => noP
  rd := fun β j => noP
  lp := fun β j m => noP }
@[irreducible] noncomputable def A201 : AFun := (compFn Tryz.prog Tryz.f201).getD ⟨0, [], .skip⟩
noncomputable def w201 : Sh := shW 2 fun call n K => pA2 (s201 call n) K
theorem w201_ok {E : Env} (e : E.code 201 = some A201) (hp : E.prim 201 = none) : ShOK E 201 w201 := shW_ok (A := { pts := [], lps := [], cuts := [(0, [(2, 1001, [1, 4])])] }) (S := T201) e hp (by kernel_rfl) (by kernel_rfl) (by kernel_rfl)

noncomputable def T202 (call : CallFn) (n : Nat) (K : Kont) : Sp := {
  pt := fun β j => ifF j 10 (pA3 (p202_10 call n) K) <| ifF j 29001 (pA6 (p202_29001 call n (pF5 (pB 0 β))) K) <| noP
  fs := fun β j => noP
  rd := fun β j => ifF j 14 (pA5 (b202_14 call n (pF5 (pB 0 β))) K) <| noP
  lp := fun β j m => ifL j 14 (pC5 (l202_14 call n m) K) <| noP }
@[irreducible] noncomputable def A202 : AFun := (compFn Tryz.prog Tryz.f202).getD ⟨0, [], .skip⟩
noncomputable def w202 : Sh := shW 3 fun call n K => pA3 (s202 call n) K
theorem w202_ok {E : Env} (e : E.code 202 = some A202) (hp : E.prim 202 = none) : ShOK E 202 w202 := shW_ok (A := { pts := [(10, [0, 1, 2])], lps := [(14, [1, 2, 15, 16, 17])], cuts := [(28, [(4, 29001, [1, 2, 15, 16, 17, 29])])] }) (S := T202) e hp (by kernel_rfl) (by kernel_rfl) (by kernel_rfl)

noncomputable def T203 (call : CallFn) (n : Nat) (K : Kont) : Sp := {
  pt := fun β j => ifF j 4001 (pA2 (p203_4001 call n) K) <| noP
  fs := fun β j => noP
  rd := fun β j => noP
  lp := fun β j m => noP }
@[irreducible] noncomputable def A203 : AFun := (compFn Tryz.prog Tryz.f203).getD ⟨0, [], .skip⟩
noncomputable def w203 : Sh := shW 2 fun call n K => pA2 (s203 call n) K
theorem w203_ok {E : Env} (e : E.code 203 = some A203) (hp : E.prim 203 = none) : ShOK E 203 w203 := shW_ok (A := { pts := [], lps := [], cuts := [(3, [(18, 4001, [17, 22])])] }) (S := T203) e hp (by kernel_rfl) (by kernel_rfl) (by kernel_rfl)

noncomputable def T204 (call : CallFn) (n : Nat) (K : Kont) : Sp := {
  pt := fun β j => ifF j 10 (pA3 (p204_10 call n) K) <| ifF j 29001 (pA6 (p204_29001 call n (pF5 (pB 0 β))) K) <| noP
  fs := fun β j => noP
  rd := fun β j => ifF j 14 (pA5 (b204_14 call n (pF5 (pB 0 β))) K) <| noP
  lp := fun β j m => ifL j 14 (pC5 (l204_14 call n m) K) <| noP }
@[irreducible] noncomputable def A204 : AFun := (compFn Tryz.prog Tryz.f204).getD ⟨0, [], .skip⟩
noncomputable def w204 : Sh := shW 3 fun call n K => pA3 (s204 call n) K
theorem w204_ok {E : Env} (e : E.code 204 = some A204) (hp : E.prim 204 = none) : ShOK E 204 w204 := shW_ok (A := { pts := [(10, [0, 1, 2])], lps := [(14, [1, 2, 15, 16, 17])], cuts := [(28, [(4, 29001, [1, 2, 15, 16, 17, 29])])] }) (S := T204) e hp (by kernel_rfl) (by kernel_rfl) (by kernel_rfl)

noncomputable def T205 (call : CallFn) (n : Nat) (K : Kont) : Sp := {
  pt := fun β j => ifF j 4001 (pA4 (p205_4001 call n) K) <| ifF j 4002 (pA2 (p205_4002 call n) K) <| noP
  fs := fun β j => noP
  rd := fun β j => noP
  lp := fun β j m => noP }
@[irreducible] noncomputable def A205 : AFun := (compFn Tryz.prog Tryz.f205).getD ⟨0, [], .skip⟩
noncomputable def w205 : Sh := shW 2 fun call n K => pA2 (s205 call n) K
theorem w205_ok {E : Env} (e : E.code 205 = some A205) (hp : E.prim 205 = none) : ShOK E 205 w205 := shW_ok (A := { pts := [], lps := [], cuts := [(3, [(46, 4001, [2, 3, 45, 50]), (7, 4002, [52, 57])])] }) (S := T205) e hp (by kernel_rfl) (by kernel_rfl) (by kernel_rfl)

noncomputable def T206 (call : CallFn) (n : Nat) (K : Kont) : Sp := {
  pt := fun β j => ifF j 10 (pA3 (p206_10 call n) K) <| ifF j 29001 (pA6 (p206_29001 call n (pF5 (pB 0 β))) K) <| noP
  fs := fun β j => noP
  rd := fun β j => ifF j 14 (pA5 (b206_14 call n (pF5 (pB 0 β))) K) <| noP
  lp := fun β j m => ifL j 14 (pC5 (l206_14 call n m) K) <| noP }
@[irreducible] noncomputable def A206 : AFun := (compFn Tryz.prog Tryz.f206).getD ⟨0, [], .skip⟩
noncomputable def w206 : Sh := shW 3 fun call n K => pA3 (s206 call n) K
theorem w206_ok {E : Env} (e : E.code 206 = some A206) (hp : E.prim 206 = none) : ShOK E 206 w206 := shW_ok (A := { pts := [(10, [0, 1, 2])], lps := [(14, [1, 2, 15, 16, 17])], cuts := [(28, [(4, 29001, [1, 2, 15, 16, 17, 29])])] }) (S := T206) e hp (by kernel_rfl) (by kernel_rfl) (by kernel_rfl)

noncomputable def T208 (call : CallFn) (n : Nat) (K : Kont) : Sp := {
  pt := fun β j => ifF j 29 (pA1 (p208_29 call n) K) <| ifF j 31001 (pA2 (p208_31001 call n) K) <| noP
  fs := fun β j => noP
  rd := fun β j => ifF j 6 (pA3 (b208_6 call n (pF3 (pB 0 β))) K) <| noP
  lp := fun β j m => ifL j 6 (pC3 (l208_6 call n m) K) <| noP }
@[irreducible] noncomputable def A208 : AFun := (compFn Tryz.prog Tryz.f208).getD ⟨0, [], .skip⟩
noncomputable def w208 : Sh := shW 1 fun call n K => pA1 (s208 call n) K
theorem w208_ok {E : Env} (e : E.code 208 = some A208) (hp : E.prim 208 = none) : ShOK E 208 w208 := shW_ok (A := { pts := [(29, [0])], lps := [(6, [0, 7, 8])], cuts := [(30, [(11, 31001, [55, 57])])] }) (S := T208) e hp (by kernel_rfl) (by kernel_rfl) (by kernel_rfl)

@[irreducible] noncomputable def A209 : AFun := (compFn Tryz.prog Tryz.f209).getD ⟨0, [], .skip⟩
noncomputable def w209 : Sh := shW 2 fun call n K => pA2 (s209 call n) K
theorem w209_ok {E : Env} (e : E.code 209 = some A209) (hp : E.prim 209 = none) : ShOK E 209 w209 := shW_ok (A := { pts := [], lps := [] }) (S := noS) e hp (by kernel_rfl) (by kernel_rfl) (by kernel_rfl)

@[irreducible] noncomputable def A210 : AFun := (compFn Tryz.prog Tryz.f210).getD ⟨0, [], .skip⟩
noncomputable def w210 : Sh := shW 2 fun call n K => pA2 (s210 call n) K
theorem w210_ok {E : Env} (e : E.code 210 = some A210) (hp : E.prim 210 = none) : ShOK E 210 w210 := shW_ok (A := { pts := [], lps := [] }) (S := noS) e hp (by kernel_rfl) (by kernel_rfl) (by kernel_rfl)

@[irreducible] noncomputable def A213 : AFun := (compFn Tryz.prog Tryz.f213).getD ⟨0, [], .skip⟩
noncomputable def w213 : Sh := shW 1 fun call n K => pA1 (s213 call n) K
theorem w213_ok {E : Env} (e : E.code 213 = some A213) (hp : E.prim 213 = none) : ShOK E 213 w213 := shW_ok (A := { pts := [], lps := [] }) (S := noS) e hp (by kernel_rfl) (by kernel_rfl) (by kernel_rfl)

noncomputable def T215 (call : CallFn) (n : Nat) (K : Kont) : Sp := {
  pt := fun β j => ifF j 12001 (pA1 (p215_12001 call n) K) <| noP
  fs := fun β j => noP
  rd := fun β j => noP
  lp := fun β j m => noP }
@[irreducible] noncomputable def A215 : AFun := (compFn Tryz.prog Tryz.f215).getD ⟨0, [], .skip⟩
noncomputable def w215 : Sh := shW 1 fun call n K => pA1 (s215 call n) K
theorem w215_ok {E : Env} (e : E.code 215 = some A215) (hp : E.prim 215 = none) : ShOK E 215 w215 := shW_ok (A := { pts := [], lps := [], cuts := [(11, [(3, 12001, [7])])] }) (S := T215) e hp (by kernel_rfl) (by kernel_rfl) (by kernel_rfl)

noncomputable def T216 (call : CallFn) (n : Nat) (K : Kont) : Sp := {
  pt := fun β j => ifF j 59 (pA2 (p216_59 call n) K) <| ifF j 78 (pA4 (p216_78 call n (pF4 (pB 0 β))) K) <| ifF j 85 (pA5 (p216_85 call n) K) <| ifF j 34001 (pA4 (p216_34001 call n) K) <| ifF j 34002 (pA4 (p216_34002 call n) K) <| noP
  fs := fun β j => noP
  rd := fun β j => ifF j 46 (pA5 (b216_46 call n (pF5 (pB 0 β))) K) <| ifF j 62 (pA4 (b216_62 call n (pF4 (pB 0 β))) K) <| noP
  lp := fun β j m => ifL j 46 (pC5 (l216_46 call n m) K) <| ifL j 62 (pC4 (l216_62 call n m) K) <| noP }
@[irreducible] noncomputable def A216 : AFun := (compFn Tryz.prog Tryz.f216).getD ⟨0, [], .skip⟩
noncomputable def w216 : Sh := shW 3 fun call n K => pA3 (s216 call n) K
theorem w216_ok {E : Env} (e : E.code 216 = some A216) (hp : E.prim 216 = none) : ShOK E 216 w216 := shW_ok (A := { pts := [(59, [2, 4]), (78, [2, 124, 125, 126]), (85, [0, 2, 4, 13, 139])], lps := [(46, [2, 4, 112, 113, 114]), (62, [2, 124, 125, 126])], cuts := [(33, [(4, 34001, [2, 4, 6, 70]), (5, 34002, [2, 4, 71, 75])])] }) (S := T216) e hp (by kernel_rfl) (by kernel_rfl) (by kernel_rfl)

noncomputable def T224 (call : CallFn) (n : Nat) (K : Kont) : Sp := {
  pt := fun β j => ifF j 50 (pA1 (p224_50 call n) K) <| ifF j 81 (pA1 (p224_81 call n) K) <| ifF j 87 (pA0 (p224_87 call n) K) <| ifF j 11001 (pA1 (p224_11001 call n) K) <| ifF j 11002 (pA1 (p224_11002 call n) K) <| ifF j 23001 (pA1 (p224_23001 call n) K) <| ifF j 27001 (pA1 (p224_27001 call n) K) <| ifF j 33001 (pA2 (p224_33001 call n) K) <| ifF j 36001 (pA3 (p224_36001 call n) K) <| ifF j 58001 (pA1 (p224_58001 call n) K) <| ifF j 58002 (pA1 (p224_58002 call n) K) <| ifF j 80001 (pA5 (p224_80001 call n (pF4 (pB 0 β))) K) <| noP
  fs := fun β j => noP
  rd := fun β j => ifF j 37 (pA5 (b224_37 call n (pF5 (pB 0 β))) K) <| ifF j 68 (pA4 (b224_68 call n (pF4 (pB 0 β))) K) <| noP
  lp := fun β j m => ifL j 37 (pC5 (l224_37 call n m) K) <| ifL j 68 (pC4 (l224_68 call n m) K) <| noP }
@[irreducible] noncomputable def A224 : AFun := (compFn Tryz.prog Tryz.f224).getD ⟨0, [], .skip⟩
noncomputable def w224 : Sh := shW 1 fun call n K => pA1 (s224 call n) K
theorem w224_ok {E : Env} (e : E.code 224 = some A224) (hp : E.prim 224 = none) : ShOK E 224 w224 := shW_ok (A := { pts := [(50, [4]), (81, [8]), (87, [])], lps := [(37, [4, 5, 43, 44, 45]), (68, [8, 68, 69, 70])], cuts := [(10, [(3, 11001, [17]), (1, 11002, [18])]), (22, [(2, 23001, [29])]), (26, [(2, 27001, [33])]), (32, [(3, 33001, [1, 39])]), (35, [(3, 36001, [4, 5, 43])]), (57, [(3, 58001, [62]), (1, 58002, [63])]), (79, [(3, 80001, [68, 69, 70, 74, 76])])] }) (S := T224) e hp (by kernel_rfl) (by kernel_rfl) (by kernel_rfl)

noncomputable def T225 (call : CallFn) (n : Nat) (K : Kont) : Sp := {
  pt := fun β j => noP
  fs := fun β j => noP
  rd := fun β j => ifF j 6 (pA4 (b225_6 call n (pF4 (pB 0 β))) K) <| noP
  lp := fun β j m => ifL j 6 (pC4 (l225_6 call n m) K) <| noP }
@[irreducible] noncomputable def A225 : AFun := (compFn Tryz.prog Tryz.f225).getD ⟨0, [], .skip⟩
noncomputable def w225 : Sh := shW 2 fun call n K => pA2 (s225 call n) K
theorem w225_ok {E : Env} (e : E.code 225 = some A225) (hp : E.prim 225 = none) : ShOK E 225 w225 := shW_ok (A := { pts := [], lps := [(6, [0, 1, 7, 8])] }) (S := T225) e hp (by kernel_rfl) (by kernel_rfl) (by kernel_rfl)

noncomputable def T226 (call : CallFn) (n : Nat) (K : Kont) : Sp := {
  pt := fun β j => noP
  fs := fun β j => noP
  rd := fun β j => ifF j 6 (pA4 (b226_6 call n (pF4 (pB 0 β))) K) <| noP
  lp := fun β j m => ifL j 6 (pC4 (l226_6 call n m) K) <| noP }
@[irreducible] noncomputable def A226 : AFun := (compFn Tryz.prog Tryz.f226).getD ⟨0, [], .skip⟩
noncomputable def w226 : Sh := shW 2 fun call n K => pA2 (s226 call n) K
theorem w226_ok {E : Env} (e : E.code 226 = some A226) (hp : E.prim 226 = none) : ShOK E 226 w226 := shW_ok (A := { pts := [], lps := [(6, [0, 1, 7, 8])] }) (S := T226) e hp (by kernel_rfl) (by kernel_rfl) (by kernel_rfl)

@[irreducible] noncomputable def A229 : AFun := (compFn Tryz.prog Tryz.f229).getD ⟨0, [], .skip⟩
noncomputable def w229 : Sh := shW 1 fun call n K => pA1 (s229 call n) K
theorem w229_ok {E : Env} (e : E.code 229 = some A229) (hp : E.prim 229 = none) : ShOK E 229 w229 := shW_ok (A := { pts := [], lps := [] }) (S := noS) e hp (by kernel_rfl) (by kernel_rfl) (by kernel_rfl)

@[irreducible] noncomputable def A230 : AFun := (compFn Tryz.prog Tryz.f230).getD ⟨0, [], .skip⟩
noncomputable def w230 : Sh := shW 1 fun call n K => pA1 (s230 call n) K
theorem w230_ok {E : Env} (e : E.code 230 = some A230) (hp : E.prim 230 = none) : ShOK E 230 w230 := shW_ok (A := { pts := [], lps := [] }) (S := noS) e hp (by kernel_rfl) (by kernel_rfl) (by kernel_rfl)

noncomputable def T231 (call : CallFn) (n : Nat) (K : Kont) : Sp := {
  pt := fun β j => ifF j 23 (pA2 (p231_23 call n) K) <| ifF j 6001 (pA4 (p231_6001 call n) K) <| noP
  fs := fun β j => noP
  rd := fun β j => ifF j 10 (pA5 (b231_10 call n (pF5 (pB 0 β))) K) <| noP
  lp := fun β j m => ifL j 10 (pC5 (l231_10 call n m) K) <| noP }
@[irreducible] noncomputable def A231 : AFun := (compFn Tryz.prog Tryz.f231).getD ⟨0, [], .skip⟩
noncomputable def w231 : Sh := shW 1 fun call n K => pA1 (s231 call n) K
theorem w231_ok {E : Env} (e : E.code 231 = some A231) (hp : E.prim 231 = none) : ShOK E 231 w231 := shW_ok (A := { pts := [(23, [1, 2])], lps := [(10, [1, 2, 13, 14, 15])], cuts := [(5, [(3, 6001, [1, 2, 3, 10])])] }) (S := T231) e hp (by kernel_rfl) (by kernel_rfl) (by kernel_rfl)

noncomputable def T234 (call : CallFn) (n : Nat) (K : Kont) : Sp := {
  pt := fun β j => ifF j 37 (pA2 (p234_37 call n) K) <| noP
  fs := fun β j => noP
  rd := fun β j => ifF j 6 (pA6 (b234_6 call n (pF6 (pB 0 β))) K) <| noP
  lp := fun β j m => ifL j 6 (pC6 (l234_6 call n m) K) <| noP }
@[irreducible] noncomputable def A234 : AFun := (compFn Tryz.prog Tryz.f234).getD ⟨0, [], .skip⟩
noncomputable def w234 : Sh := shW 3 fun call n K => pA3 (s234 call n) K
theorem w234_ok {E : Env} (e : E.code 234 = some A234) (hp : E.prim 234 = none) : ShOK E 234 w234 := shW_ok (A := { pts := [(37, [0, 1])], lps := [(6, [0, 1, 2, 11, 12, 13])] }) (S := T234) e hp (by kernel_rfl) (by kernel_rfl) (by kernel_rfl)

@[irreducible] noncomputable def A237 : AFun := (compFn Tryz.prog Tryz.f237).getD ⟨0, [], .skip⟩
noncomputable def w237 : Sh := shW 2 fun call n K => pA2 (s237 call n) K
theorem w237_ok {E : Env} (e : E.code 237 = some A237) (hp : E.prim 237 = none) : ShOK E 237 w237 := shW_ok (A := { pts := [], lps := [] }) (S := noS) e hp (by kernel_rfl) (by kernel_rfl) (by kernel_rfl)

@[irreducible] noncomputable def A238 : AFun := (compFn Tryz.prog Tryz.f238).getD ⟨0, [], .skip⟩
noncomputable def w238 : Sh := shW 2 fun call n K => pA2 (s238 call n) K
theorem w238_ok {E : Env} (e : E.code 238 = some A238) (hp : E.prim 238 = none) : ShOK E 238 w238 := shW_ok (A := { pts := [], lps := [] }) (S := noS) e hp (by kernel_rfl) (by kernel_rfl) (by kernel_rfl)

@[irreducible] noncomputable def A239 : AFun := (compFn Tryz.prog Tryz.f239).getD ⟨0, [], .skip⟩
noncomputable def w239 : Sh := shW 3 fun call n K => pA3 (s239 call n) K
theorem w239_ok {E : Env} (e : E.code 239 = some A239) (hp : E.prim 239 = none) : ShOK E 239 w239 := shW_ok (A := { pts := [], lps := [] }) (S := noS) e hp (by kernel_rfl) (by kernel_rfl) (by kernel_rfl)

@[irreducible] noncomputable def A240 : AFun := (compFn Tryz.prog Tryz.f240).getD ⟨0, [], .skip⟩
noncomputable def w240 : Sh := shW 1 fun call n K => pA1 (s240 call n) K
theorem w240_ok {E : Env} (e : E.code 240 = some A240) (hp : E.prim 240 = none) : ShOK E 240 w240 := shW_ok (A := { pts := [], lps := [] }) (S := noS) e hp (by kernel_rfl) (by kernel_rfl) (by kernel_rfl)

noncomputable def T241 (call : CallFn) (n : Nat) (K : Kont) : Sp := {
  pt := fun β j => ifF j 5001 (pA3 (p241_5001 call n) K) <| ifF j 5002 (pA3 (p241_5002 call n) K) <| noP
  fs := fun β j => noP
  rd := fun β j => noP
  lp := fun β j m => noP }
@[irreducible] noncomputable def A241 : AFun := (compFn Tryz.prog Tryz.f241).getD ⟨0, [], .skip⟩
noncomputable def w241 : Sh := shW 2 fun call n K => pA2 (s241 call n) K
theorem w241_ok {E : Env} (e : E.code 241 = some A241) (hp : E.prim 241 = none) : ShOK E 241 w241 := shW_ok (A := { pts := [], lps := [], cuts := [(4, [(3, 5001, [0, 1, 7]), (1, 5002, [0, 1, 8])])] }) (S := T241) e hp (by kernel_rfl) (by kernel_rfl) (by kernel_rfl)

@[irreducible] noncomputable def A242 : AFun := (compFn Tryz.prog Tryz.f242).getD ⟨0, [], .skip⟩
noncomputable def w242 : Sh := shW 1 fun call n K => pA1 (s242 call n) K
theorem w242_ok {E : Env} (e : E.code 242 = some A242) (hp : E.prim 242 = none) : ShOK E 242 w242 := shW_ok (A := { pts := [], lps := [] }) (S := noS) e hp (by kernel_rfl) (by kernel_rfl) (by kernel_rfl)

noncomputable def T243 (call : CallFn) (n : Nat) (K : Kont) : Sp := {
  pt := fun β j => noP
  fs := fun β j => noP
  rd := fun β j => ifF j 6 (pA4 (b243_6 call n (pF4 (pB 0 β))) K) <| noP
  lp := fun β j m => ifL j 6 (pC4 (l243_6 call n m) K) <| noP }
@[irreducible] noncomputable def A243 : AFun := (compFn Tryz.prog Tryz.f243).getD ⟨0, [], .skip⟩
noncomputable def w243 : Sh := shW 3 fun call n K => pA3 (s243 call n) K
theorem w243_ok {E : Env} (e : E.code 243 = some A243) (hp : E.prim 243 = none) : ShOK E 243 w243 := shW_ok (A := { pts := [], lps := [(6, [0, 1, 2, 7])] }) (S := T243) e hp (by kernel_rfl) (by kernel_rfl) (by kernel_rfl)

noncomputable def T244 (call : CallFn) (n : Nat) (K : Kont) : Sp := {
  pt := fun β j => ifF j 49 (pA3 (p244_49 call n (pF3 (pB 0 β))) K) <| ifF j 25001 (pA2 (p244_25001 call n (pF3 (pB 0 β))) K) <| ifF j 33001 (pA4 (p244_33001 call n (pF3 (pB 0 β))) K) <| noP
  fs := fun β j => noP
  rd := fun β j => ifF j 8 (pA3 (b244_8 call n (pF3 (pB 0 β))) K) <| noP
  lp := fun β j m => ifL j 8 (pC3 (l244_8 call n m) K) <| noP }
@[irreducible] noncomputable def A244 : AFun := (compFn Tryz.prog Tryz.f244).getD ⟨0, [], .skip⟩
noncomputable def w244 : Sh := shW 1 fun call n K => pA1 (s244 call n) K
theorem w244_ok {E : Env} (e : E.code 244 = some A244) (hp : E.prim 244 = none) : ShOK E 244 w244 := shW_ok (A := { pts := [(49, [0, 4, 5])], lps := [(8, [0, 4, 5])], cuts := [(24, [(1, 25001, [5, 30])]), (32, [(3, 33001, [0, 4, 5, 40])])] }) (S := T244) e hp (by kernel_rfl) (by kernel_rfl) (by kernel_rfl)

noncomputable def T245 (call : CallFn) (n : Nat) (K : Kont) : Sp := {
  pt := fun β j => ifF j 25 (pA1 (p245_25 call n) K) <| noP
  fs := fun β j => noP
  rd := fun β j => ifF j 6 (pA4 (b245_6 call n (pF4 (pB 0 β))) K) <| noP
  lp := fun β j m => ifL j 6 (pC4 (l245_6 call n m) K) <| noP }
@[irreducible] noncomputable def A245 : AFun := (compFn Tryz.prog Tryz.f245).getD ⟨0, [], .skip⟩
noncomputable def w245 : Sh := shW 1 fun call n K => pA1 (s245 call n) K
theorem w245_ok {E : Env} (e : E.code 245 = some A245) (hp : E.prim 245 = none) : ShOK E 245 w245 := shW_ok (A := { pts := [(25, [0])], lps := [(6, [0, 5, 6, 7])] }) (S := T245) e hp (by kernel_rfl) (by kernel_rfl) (by kernel_rfl)

noncomputable def T255 (call : CallFn) (n : Nat) (K : Kont) : Sp := {
  pt := fun β j => ifF j 22 (pA5 (p255_22 call n (pF4 (pB 0 β))) K) <| ifF j 28 (pA5 (p255_28 call n (pF4 (pB 0 β))) K) <| noP
  fs := fun β j => noP
  rd := fun β j => ifF j 3 (pA4 (b255_3 call n (pF4 (pB 0 β))) K) <| noP
  lp := fun β j m => ifL j 3 (pC4 (l255_3 call n m) K) <| noP }
@[irreducible] noncomputable def A255 : AFun := (compFn Tryz.prog Tryz.f255).getD ⟨0, [], .skip⟩
noncomputable def w255 : Sh := shW 2 fun call n K => pA2 (s255 call n) K
theorem w255_ok {E : Env} (e : E.code 255 = some A255) (hp : E.prim 255 = none) : ShOK E 255 w255 := shW_ok (A := { pts := [(22, [0, 5, 6, 7, 8]), (28, [0, 5, 6, 7, 8])], lps := [(3, [0, 6, 7, 8])] }) (S := T255) e hp (by kernel_rfl) (by kernel_rfl) (by kernel_rfl)

noncomputable def T256 (call : CallFn) (n : Nat) (K : Kont) : Sp := {
  pt := fun β j => ifF j 30 (pA4 (p256_30 call n (pF4 (pB 0 β))) K) <| ifF j 31 (pA1 (p256_31 call n) K) <| noP
  fs := fun β j => noP
  rd := fun β j => ifF j 10 (pA4 (b256_10 call n (pF4 (pB 0 β))) K) <| noP
  lp := fun β j m => ifL j 10 (pC4 (l256_10 call n m) K) <| noP }
@[irreducible] noncomputable def A256 : AFun := (compFn Tryz.prog Tryz.f256).getD ⟨0, [], .skip⟩
noncomputable def w256 : Sh := shW 1 fun call n K => pA1 (s256 call n) K
theorem w256_ok {E : Env} (e : E.code 256 = some A256) (hp : E.prim 256 = none) : ShOK E 256 w256 := shW_ok (A := { pts := [(30, [0, 3, 8, 9]), (31, [3])], lps := [(10, [0, 3, 8, 9])] }) (S := T256) e hp (by kernel_rfl) (by kernel_rfl) (by kernel_rfl)

@[irreducible] noncomputable def A257 : AFun := (compFn Tryz.prog Tryz.f257).getD ⟨0, [], .skip⟩
noncomputable def w257 : Sh := shW 1 fun call n K => pA1 (s257 call n) K
theorem w257_ok {E : Env} (e : E.code 257 = some A257) (hp : E.prim 257 = none) : ShOK E 257 w257 := shW_ok (A := { pts := [], lps := [] }) (S := noS) e hp (by kernel_rfl) (by kernel_rfl) (by kernel_rfl)

@[irreducible] noncomputable def A258 : AFun := (compFn Tryz.prog Tryz.f258).getD ⟨0, [], .skip⟩
noncomputable def w258 : Sh := shW 2 fun call n K => pA2 (s258 call n) K
theorem w258_ok {E : Env} (e : E.code 258 = some A258) (hp : E.prim 258 = none) : ShOK E 258 w258 := shW_ok (A := { pts := [], lps := [] }) (S := noS) e hp (by kernel_rfl) (by kernel_rfl) (by kernel_rfl)

noncomputable def T259 (call : CallFn) (n : Nat) (K : Kont) : Sp := {
  pt := fun β j => noP
  fs := fun β j => noP
  rd := fun β j => ifF j 3 (pA4 (b259_3 call n (pF4 (pB 0 β))) K) <| noP
  lp := fun β j m => ifL j 3 (pC4 (l259_3 call n m) K) <| noP }
@[irreducible] noncomputable def A259 : AFun := (compFn Tryz.prog Tryz.f259).getD ⟨0, [], .skip⟩
noncomputable def w259 : Sh := shW 2 fun call n K => pA2 (s259 call n) K
theorem w259_ok {E : Env} (e : E.code 259 = some A259) (hp : E.prim 259 = none) : ShOK E 259 w259 := shW_ok (A := { pts := [], lps := [(3, [0, 6, 7, 8])] }) (S := T259) e hp (by kernel_rfl) (by kernel_rfl) (by kernel_rfl)

noncomputable def T263 (call : CallFn) (n : Nat) (K : Kont) : Sp := {
  pt := fun β j => ifF j 10 (pA2 (p263_10 call n) K) <| noP
  fs := fun β j => noP
  rd := fun β j => ifF j 14 (pA4 (b263_14 call n (pF4 (pB 0 β))) K) <| noP
  lp := fun β j m => ifL j 14 (pC4 (l263_14 call n m) K) <| noP }
@[irreducible] noncomputable def A263 : AFun := (compFn Tryz.prog Tryz.f263).getD ⟨0, [], .skip⟩
noncomputable def w263 : Sh := shW 2 fun call n K => pA2 (s263 call n) K
theorem w263_ok {E : Env} (e : E.code 263 = some A263) (hp : E.prim 263 = none) : ShOK E 263 w263 := shW_ok (A := { pts := [(10, [0, 1])], lps := [(14, [0, 1, 12, 13])] }) (S := T263) e hp (by kernel_rfl) (by kernel_rfl) (by kernel_rfl)

@[irreducible] noncomputable def A264 : AFun := (compFn Tryz.prog Tryz.f264).getD ⟨0, [], .skip⟩
noncomputable def w264 : Sh := shW 2 fun call n K => pA2 (s264 call n) K
theorem w264_ok {E : Env} (e : E.code 264 = some A264) (hp : E.prim 264 = none) : ShOK E 264 w264 := shW_ok (A := { pts := [], lps := [] }) (S := noS) e hp (by kernel_rfl) (by kernel_rfl) (by kernel_rfl)

noncomputable def T265 (call : CallFn) (n : Nat) (K : Kont) : Sp := {
  pt := fun β j => ifF j 10 (pA3 (p265_10 call n) K) <| ifF j 29001 (pA6 (p265_29001 call n (pF5 (pB 0 β))) K) <| noP
  fs := fun β j => noP
  rd := fun β j => ifF j 14 (pA5 (b265_14 call n (pF5 (pB 0 β))) K) <| noP
  lp := fun β j m => ifL j 14 (pC5 (l265_14 call n m) K) <| noP }
@[irreducible] noncomputable def A265 : AFun := (compFn Tryz.prog Tryz.f265).getD ⟨0, [], .skip⟩
noncomputable def w265 : Sh := shW 3 fun call n K => pA3 (s265 call n) K
theorem w265_ok {E : Env} (e : E.code 265 = some A265) (hp : E.prim 265 = none) : ShOK E 265 w265 := shW_ok (A := { pts := [(10, [0, 1, 2])], lps := [(14, [1, 2, 15, 16, 17])], cuts := [(28, [(4, 29001, [1, 2, 15, 16, 17, 29])])] }) (S := T265) e hp (by kernel_rfl) (by kernel_rfl) (by kernel_rfl)

noncomputable def T268 (call : CallFn) (n : Nat) (K : Kont) : Sp := {
  pt := fun β j => ifF j 156 (pA1 (p268_156 call n) K) <| noP
  fs := fun β j => noP
  rd := fun β j => noP
  lp := fun β j m => noP }
@[irreducible] noncomputable def A268 : AFun := (compFn Tryz.prog Tryz.f268).getD ⟨0, [], .skip⟩
noncomputable def w268 : Sh := shW 1 fun call n K => pA1 (s268 call n) K
theorem w268_ok {E : Env} (e : E.code 268 = some A268) (hp : E.prim 268 = none) : ShOK E 268 w268 := shW_ok (A := { pts := [(156, [4])], lps := [] }) (S := T268) e hp (by kernel_rfl) (by kernel_rfl) (by kernel_rfl)

noncomputable def T269 (call : CallFn) (n : Nat) (K : Kont) : Sp := {
  pt := fun β j => ifF j 14001 (pA4 (p269_14001 call n (pF4 (pB 0 β))) K) <| noP
  fs := fun β j => noP
  rd := fun β j => ifF j 3 (pA4 (b269_3 call n (pF4 (pB 0 β))) K) <| noP
  lp := fun β j m => ifL j 3 (pC4 (l269_3 call n m) K) <| noP }
@[irreducible] noncomputable def A269 : AFun := (compFn Tryz.prog Tryz.f269).getD ⟨0, [], .skip⟩
noncomputable def w269 : Sh := shW 3 fun call n K => pA3 (s269 call n) K
theorem w269_ok {E : Env} (e : E.code 269 = some A269) (hp : E.prim 269 = none) : ShOK E 269 w269 := shW_ok (A := { pts := [], lps := [(3, [0, 1, 4, 5])], cuts := [(13, [(9, 14001, [0, 1, 4, 40])])] }) (S := T269) e hp (by kernel_rfl) (by kernel_rfl) (by kernel_rfl)

noncomputable def T272 (call : CallFn) (n : Nat) (K : Kont) : Sp := {
  pt := fun β j => ifF j 27 (pA4 (p272_27 call n) K) <| ifF j 33 (pA4 (p272_33 call n) K) <| ifF j 50 (pA2 (p272_50 call n) K) <| ifF j 6001 (pA4 (p272_6001 call n) K) <| noP
  fs := fun β j => noP
  rd := fun β j => ifF j 10 (pA7 (b272_10 call n (pF7 (pB 0 β))) K) <| ifF j 37 (pA7 (b272_37 call n (pF7 (pB 0 β))) K) <| noP
  lp := fun β j m => ifL j 10 (pC7 (l272_10 call n m) K) <| ifL j 37 (pC7 (l272_37 call n m) K) <| noP }
@[irreducible] noncomputable def A272 : AFun := (compFn Tryz.prog Tryz.f272).getD ⟨0, [], .skip⟩
noncomputable def w272 : Sh := shW 3 fun call n K => pA3 (s272 call n) K
theorem w272_ok {E : Env} (e : E.code 272 = some A272) (hp : E.prim 272 = none) : ShOK E 272 w272 := shW_ok (A := { pts := [(27, [2, 3, 4, 6]), (33, [2, 3, 4, 6]), (50, [2, 6])], lps := [(10, [2, 3, 4, 6, 36, 37, 38]), (37, [2, 3, 4, 6, 82, 83, 84])], cuts := [(5, [(2, 6001, [2, 3, 4, 34])])] }) (S := T272) e hp (by kernel_rfl) (by kernel_rfl) (by kernel_rfl)

noncomputable def T290 (call : CallFn) (n : Nat) (K : Kont) : Sp := {
  pt := fun β j => ifF j 23 (pA2 (p290_23 call n) K) <| noP
  fs := fun β j => noP
  rd := fun β j => ifF j 10 (pA5 (b290_10 call n (pF5 (pB 0 β))) K) <| noP
  lp := fun β j m => ifL j 10 (pC5 (l290_10 call n m) K) <| noP }
@[irreducible] noncomputable def A290 : AFun := (compFn Tryz.prog Tryz.f290).getD ⟨0, [], .skip⟩
noncomputable def w290 : Sh := shW 1 fun call n K => pA1 (s290 call n) K
theorem w290_ok {E : Env} (e : E.code 290 = some A290) (hp : E.prim 290 = none) : ShOK E 290 w290 := shW_ok (A := { pts := [(23, [1, 2])], lps := [(10, [1, 2, 9, 10, 11])] }) (S := T290) e hp (by kernel_rfl) (by kernel_rfl) (by kernel_rfl)

@[irreducible] noncomputable def A293 : AFun := (compFn Tryz.prog Tryz.f293).getD ⟨0, [], .skip⟩
noncomputable def w293 : Sh := shW 2 fun call n K => pA2 (s293 call n) K
theorem w293_ok {E : Env} (e : E.code 293 = some A293) (hp : E.prim 293 = none) : ShOK E 293 w293 := shW_ok (A := { pts := [], lps := [] }) (S := noS) e hp (by kernel_rfl) (by kernel_rfl) (by kernel_rfl)

noncomputable def T294 (call : CallFn) (n : Nat) (K : Kont) : Sp := {
  pt := fun β j => ifF j 4001 (pA2 (p294_4001 call n) K) <| ifF j 4002 (pA3 (p294_4002 call n) K) <| noP
  fs := fun β j => noP
  rd := fun β j => noP
  lp := fun β j m => noP }
@[irreducible] noncomputable def A294 : AFun := (compFn Tryz.prog Tryz.f294).getD ⟨0, [], .skip⟩
noncomputable def w294 : Sh := shW 1 fun call n K => pA1 (s294 call n) K
theorem w294_ok {E : Env} (e : E.code 294 = some A294) (hp : E.prim 294 = none) : ShOK E 294 w294 := shW_ok (A := { pts := [], lps := [], cuts := [(3, [(2, 4001, [0, 4]), (3, 4002, [0, 5, 7])])] }) (S := T294) e hp (by kernel_rfl) (by kernel_rfl) (by kernel_rfl)

@[irreducible] noncomputable def A295 : AFun := (compFn Tryz.prog Tryz.f295).getD ⟨0, [], .skip⟩
noncomputable def w295 : Sh := shW 1 fun call n K => pA1 (s295 call n) K
theorem w295_ok {E : Env} (e : E.code 295 = some A295) (hp : E.prim 295 = none) : ShOK E 295 w295 := shW_ok (A := { pts := [], lps := [] }) (S := noS) e hp (by kernel_rfl) (by kernel_rfl) (by kernel_rfl)

@[irreducible] noncomputable def A296 : AFun := (compFn Tryz.prog Tryz.f296).getD ⟨0, [], .skip⟩
noncomputable def w296 : Sh := shW 2 fun call n K => pA2 (s296 call n) K
theorem w296_ok {E : Env} (e : E.code 296 = some A296) (hp : E.prim 296 = none) : ShOK E 296 w296 := shW_ok (A := { pts := [], lps := [] }) (S := noS) e hp (by kernel_rfl) (by kernel_rfl) (by kernel_rfl)

@[irreducible] noncomputable def A297 : AFun := (compFn Tryz.prog Tryz.f297).getD ⟨0, [], .skip⟩
noncomputable def w297 : Sh := shW 2 fun call n K => pA2 (s297 call n) K
theorem w297_ok {E : Env} (e : E.code 297 = some A297) (hp : E.prim 297 = none) : ShOK E 297 w297 := shW_ok (A := { pts := [], lps := [] }) (S := noS) e hp (by kernel_rfl) (by kernel_rfl) (by kernel_rfl)

noncomputable def T304 (call : CallFn) (n : Nat) (K : Kont) : Sp := {
  pt := fun β j => ifF j 24 (pA1 (p304_24 call n) K) <| ifF j 44001 (pA1 (p304_44001 call n) K) <| noP
  fs := fun β j => noP
  rd := fun β j => noP
  lp := fun β j m => noP }
@[irreducible] noncomputable def A304 : AFun := (compFn Tryz.prog Tryz.f304).getD ⟨0, [], .skip⟩
noncomputable def w304 : Sh := shW 2 fun call n K => pA2 (s304 call n) K
theorem w304_ok {E : Env} (e : E.code 304 = some A304) (hp : E.prim 304 = none) : ShOK E 304 w304 := shW_ok (A := { pts := [(24, [6])], lps := [], cuts := [(43, [(6, 44001, [50])])] }) (S := T304) e hp (by kernel_rfl) (by kernel_rfl) (by kernel_rfl)

noncomputable def T305 (call : CallFn) (n : Nat) (K : Kont) : Sp := {
  pt := fun β j => ifF j 18 (pA4 (p305_18 call n) K) <| ifF j 62 (pA5 (p305_62 call n (pF4 (pB 0 β))) K) <| ifF j 64 (pA1 (p305_64 call n) K) <| ifF j 100 (pA1 (p305_100 call n) K) <| noP
  fs := fun β j => noP
  rd := fun β j => ifF j 45 (pA4 (b305_45 call n (pF4 (pB 0 β))) K) <| noP
  lp := fun β j m => ifL j 45 (pC4 (l305_45 call n m) K) <| noP }
@[irreducible] noncomputable def A305 : AFun := (compFn Tryz.prog Tryz.f305).getD ⟨0, [], .skip⟩
noncomputable def w305 : Sh := shW 2 fun call n K => pA2 (s305 call n) K
theorem w305_ok {E : Env} (e : E.code 305 = some A305) (hp : E.prim 305 = none) : ShOK E 305 w305 := shW_ok (A := { pts := [(18, [2, 3, 9, 17]), (62, [2, 5, 60, 61, 62]), (64, [2]), (100, [2])], lps := [(45, [2, 60, 61, 62])] }) (S := T305) e hp (by kernel_rfl) (by kernel_rfl) (by kernel_rfl)

noncomputable def T308 (call : CallFn) (n : Nat) (K : Kont) : Sp := {
  pt := fun β j => ifF j 10 (pA3 (p308_10 call n) K) <| ifF j 29001 (pA6 (p308_29001 call n (pF5 (pB 0 β))) K) <| noP
  fs := fun β j => noP
  rd := fun β j => ifF j 14 (pA5 (b308_14 call n (pF5 (pB 0 β))) K) <| noP
  lp := fun β j m => ifL j 14 (pC5 (l308_14 call n m) K) <| noP }
@[irreducible] noncomputable def A308 : AFun := (compFn Tryz.prog Tryz.f308).getD ⟨0, [], .skip⟩
noncomputable def w308 : Sh := shW 3 fun call n K => pA3 (s308 call n) K
theorem w308_ok {E : Env} (e : E.code 308 = some A308) (hp : E.prim 308 = none) : ShOK E 308 w308 := shW_ok (A := { pts := [(10, [0, 1, 2])], lps := [(14, [1, 2, 15, 16, 17])], cuts := [(28, [(4, 29001, [1, 2, 15, 16, 17, 29])])] }) (S := T308) e hp (by kernel_rfl) (by kernel_rfl) (by kernel_rfl)

noncomputable def T309 (call : CallFn) (n : Nat) (K : Kont) : Sp := {
  pt := fun β j => ifF j 4001 (pA4 (p309_4001 call n) K) <| ifF j 4002 (pA4 (p309_4002 call n) K) <| ifF j 4003 (pA4 (p309_4003 call n) K) <| ifF j 4004 (pA4 (p309_4004 call n) K) <| ifF j 4005 (pA4 (p309_4005 call n) K) <| ifF j 4006 (pA4 (p309_4006 call n) K) <| ifF j 4007 (pA2 (p309_4007 call n) K) <| noP
  fs := fun β j => noP
  rd := fun β j => noP
  lp := fun β j m => noP }
@[irreducible] noncomputable def A309 : AFun := (compFn Tryz.prog Tryz.f309).getD ⟨0, [], .skip⟩
noncomputable def w309 : Sh := shW 2 fun call n K => pA2 (s309 call n) K
theorem w309_ok {E : Env} (e : E.code 309 = some A309) (hp : E.prim 309 = none) : ShOK E 309 w309 := shW_ok (A := { pts := [], lps := [], cuts := [(3, [(39, 4001, [2, 3, 38, 43]), (7, 4002, [2, 3, 45, 50]), (7, 4003, [2, 3, 52, 57]), (7, 4004, [2, 3, 59, 64]), (7, 4005, [2, 3, 66, 71]), (7, 4006, [2, 3, 73, 78]), (7, 4007, [80, 85])])] }) (S := T309) e hp (by kernel_rfl) (by kernel_rfl) (by kernel_rfl)

noncomputable def T312 (call : CallFn) (n : Nat) (K : Kont) : Sp := {
  pt := fun β j => ifF j 4001 (pA4 (p312_4001 call n) K) <| ifF j 4002 (pA2 (p312_4002 call n) K) <| noP
  fs := fun β j => noP
  rd := fun β j => noP
  lp := fun β j m => noP }
@[irreducible] noncomputable def A312 : AFun := (compFn Tryz.prog Tryz.f312).getD ⟨0, [], .skip⟩
noncomputable def w312 : Sh := shW 2 fun call n K => pA2 (s312 call n) K
theorem w312_ok {E : Env} (e : E.code 312 = some A312) (hp : E.prim 312 = none) : ShOK E 312 w312 := shW_ok (A := { pts := [], lps := [], cuts := [(3, [(18, 4001, [2, 3, 17, 22]), (7, 4002, [24, 29])])] }) (S := T312) e hp (by kernel_rfl) (by kernel_rfl) (by kernel_rfl)

noncomputable def T314 (call : CallFn) (n : Nat) (K : Kont) : Sp := {
  pt := fun β j => noP
  fs := fun β j => noP
  rd := fun β j => ifF j 3 (pA2 (b314_3 call n (pF2 (pB 0 β))) K) <| noP
  lp := fun β j m => ifL j 3 (pC2 (l314_3 call n m) K) <| noP }
@[irreducible] noncomputable def A314 : AFun := (compFn Tryz.prog Tryz.f314).getD ⟨0, [], .skip⟩
noncomputable def w314 : Sh := shW 2 fun call n K => pA2 (s314 call n) K
theorem w314_ok {E : Env} (e : E.code 314 = some A314) (hp : E.prim 314 = none) : ShOK E 314 w314 := shW_ok (A := { pts := [], lps := [(3, [0, 7])] }) (S := T314) e hp (by kernel_rfl) (by kernel_rfl) (by kernel_rfl)

noncomputable def T324 (call : CallFn) (n : Nat) (K : Kont) : Sp := {
  pt := fun β j => ifF j 4001 (pA2 (p324_4001 call n) K) <| noP
  fs := fun β j => noP
  rd := fun β j => noP
  lp := fun β j m => noP }
@[irreducible] noncomputable def A324 : AFun := (compFn Tryz.prog Tryz.f324).getD ⟨0, [], .skip⟩
noncomputable def w324 : Sh := shW 1 fun call n K => pA1 (s324 call n) K
theorem w324_ok {E : Env} (e : E.code 324 = some A324) (hp : E.prim 324 = none) : ShOK E 324 w324 := shW_ok (A := { pts := [], lps := [], cuts := [(3, [(4, 4001, [7, 10])])] }) (S := T324) e hp (by kernel_rfl) (by kernel_rfl) (by kernel_rfl)

@[irreducible] noncomputable def A325 : AFun := (compFn Tryz.prog Tryz.f325).getD ⟨0, [], .skip⟩
noncomputable def w325 : Sh := shW 2 fun call n K => pA2 (s325 call n) K
theorem w325_ok {E : Env} (e : E.code 325 = some A325) (hp : E.prim 325 = none) : ShOK E 325 w325 := shW_ok (A := { pts := [], lps := [] }) (S := noS) e hp (by kernel_rfl) (by kernel_rfl) (by kernel_rfl)

@[irreducible] noncomputable def A328 : AFun := (compFn Tryz.prog Tryz.f328).getD ⟨0, [], .skip⟩
noncomputable def w328 : Sh := shW 1 fun call n K => pA1 (s328 call n) K
theorem w328_ok {E : Env} (e : E.code 328 = some A328) (hp : E.prim 328 = none) : ShOK E 328 w328 := shW_ok (A := { pts := [], lps := [] }) (S := noS) e hp (by kernel_rfl) (by kernel_rfl) (by kernel_rfl)

@[irreducible] noncomputable def A332 : AFun := (compFn Tryz.prog Tryz.f332).getD ⟨0, [], .skip⟩
noncomputable def w332 : Sh := shW 1 fun call n K => pA1 (s332 call n) K
theorem w332_ok {E : Env} (e : E.code 332 = some A332) (hp : E.prim 332 = none) : ShOK E 332 w332 := shW_ok (A := { pts := [], lps := [] }) (S := noS) e hp (by kernel_rfl) (by kernel_rfl) (by kernel_rfl)

noncomputable def T333 (call : CallFn) (n : Nat) (K : Kont) : Sp := {
  pt := fun β j => ifF j 8 (pA2 (p333_8 call n) K) <| ifF j 18 (pA2 (p333_18 call n) K) <| noP
  fs := fun β j => noP
  rd := fun β j => noP
  lp := fun β j m => noP }
@[irreducible] noncomputable def A333 : AFun := (compFn Tryz.prog Tryz.f333).getD ⟨0, [], .skip⟩
noncomputable def w333 : Sh := shW 2 fun call n K => pA2 (s333 call n) K
theorem w333_ok {E : Env} (e : E.code 333 = some A333) (hp : E.prim 333 = none) : ShOK E 333 w333 := shW_ok (A := { pts := [(8, [2, 3]), (18, [2, 3])], lps := [] }) (S := T333) e hp (by kernel_rfl) (by kernel_rfl) (by kernel_rfl)

noncomputable def T340 (call : CallFn) (n : Nat) (K : Kont) : Sp := {
  pt := fun β j => ifF j 10 (pA2 (p340_10 call n) K) <| noP
  fs := fun β j => noP
  rd := fun β j => ifF j 14 (pA4 (b340_14 call n (pF4 (pB 0 β))) K) <| noP
  lp := fun β j m => ifL j 14 (pC4 (l340_14 call n m) K) <| noP }
@[irreducible] noncomputable def A340 : AFun := (compFn Tryz.prog Tryz.f340).getD ⟨0, [], .skip⟩
noncomputable def w340 : Sh := shW 2 fun call n K => pA2 (s340 call n) K
theorem w340_ok {E : Env} (e : E.code 340 = some A340) (hp : E.prim 340 = none) : ShOK E 340 w340 := shW_ok (A := { pts := [(10, [0, 1])], lps := [(14, [0, 1, 12, 13])] }) (S := T340) e hp (by kernel_rfl) (by kernel_rfl) (by kernel_rfl)

noncomputable def T341 (call : CallFn) (n : Nat) (K : Kont) : Sp := {
  pt := fun β j => ifF j 10 (pA3 (p341_10 call n) K) <| ifF j 29001 (pA6 (p341_29001 call n (pF5 (pB 0 β))) K) <| noP
  fs := fun β j => noP
  rd := fun β j => ifF j 14 (pA5 (b341_14 call n (pF5 (pB 0 β))) K) <| noP
  lp := fun β j m => ifL j 14 (pC5 (l341_14 call n m) K) <| noP }
@[irreducible] noncomputable def A341 : AFun := (compFn Tryz.prog Tryz.f341).getD ⟨0, [], .skip⟩
noncomputable def w341 : Sh := shW 3 fun call n K => pA3 (s341 call n) K
theorem w341_ok {E : Env} (e : E.code 341 = some A341) (hp : E.prim 341 = none) : ShOK E 341 w341 := shW_ok (A := { pts := [(10, [0, 1, 2])], lps := [(14, [1, 2, 15, 16, 17])], cuts := [(28, [(4, 29001, [1, 2, 15, 16, 17, 29])])] }) (S := T341) e hp (by kernel_rfl) (by kernel_rfl) (by kernel_rfl)

noncomputable def T342 (call : CallFn) (n : Nat) (K : Kont) : Sp := {
  pt := fun β j => ifF j 10 (pA3 (p342_10 call n) K) <| ifF j 29001 (pA6 (p342_29001 call n (pF5 (pB 0 β))) K) <| noP
  fs := fun β j => noP
  rd := fun β j => ifF j 14 (pA5 (b342_14 call n (pF5 (pB 0 β))) K) <| noP
  lp := fun β j m => ifL j 14 (pC5 (l342_14 call n m) K) <| noP }
@[irreducible] noncomputable def A342 : AFun := (compFn Tryz.prog Tryz.f342).getD ⟨0, [], .skip⟩
noncomputable def w342 : Sh := shW 3 fun call n K => pA3 (s342 call n) K
theorem w342_ok {E : Env} (e : E.code 342 = some A342) (hp : E.prim 342 = none) : ShOK E 342 w342 := shW_ok (A := { pts := [(10, [0, 1, 2])], lps := [(14, [1, 2, 15, 16, 17])], cuts := [(28, [(4, 29001, [1, 2, 15, 16, 17, 29])])] }) (S := T342) e hp (by kernel_rfl) (by kernel_rfl) (by kernel_rfl)

noncomputable def T343 (call : CallFn) (n : Nat) (K : Kont) : Sp := {
  pt := fun β j => ifF j 10 (pA3 (p343_10 call n) K) <| ifF j 29001 (pA6 (p343_29001 call n (pF5 (pB 0 β))) K) <| noP
  fs := fun β j => noP
  rd := fun β j => ifF j 14 (pA5 (b343_14 call n (pF5 (pB 0 β))) K) <| noP
  lp := fun β j m => ifL j 14 (pC5 (l343_14 call n m) K) <| noP }
@[irreducible] noncomputable def A343 : AFun := (compFn Tryz.prog Tryz.f343).getD ⟨0, [], .skip⟩
noncomputable def w343 : Sh := shW 3 fun call n K => pA3 (s343 call n) K
theorem w343_ok {E : Env} (e : E.code 343 = some A343) (hp : E.prim 343 = none) : ShOK E 343 w343 := shW_ok (A := { pts := [(10, [0, 1, 2])], lps := [(14, [1, 2, 15, 16, 17])], cuts := [(28, [(4, 29001, [1, 2, 15, 16, 17, 29])])] }) (S := T343) e hp (by kernel_rfl) (by kernel_rfl) (by kernel_rfl)

noncomputable def T345 (call : CallFn) (n : Nat) (K : Kont) : Sp := {
  pt := fun β j => ifF j 4001 (pA2 (p345_4001 call n) K) <| noP
  fs := fun β j => noP
  rd := fun β j => noP
  lp := fun β j m => noP }
@[irreducible] noncomputable def A345 : AFun := (compFn Tryz.prog Tryz.f345).getD ⟨0, [], .skip⟩
noncomputable def w345 : Sh := shW 2 fun call n K => pA2 (s345 call n) K
theorem w345_ok {E : Env} (e : E.code 345 = some A345) (hp : E.prim 345 = none) : ShOK E 345 w345 := shW_ok (A := { pts := [], lps := [], cuts := [(3, [(32, 4001, [31, 36])])] }) (S := T345) e hp (by kernel_rfl) (by kernel_rfl) (by kernel_rfl)

noncomputable def T355 (call : CallFn) (n : Nat) (K : Kont) : Sp := {
  pt := fun β j => ifF j 20 (pA6 (p355_20 call n (pF5 (pB 0 β))) K) <| noP
  fs := fun β j => noP
  rd := fun β j => ifF j 3 (pA5 (b355_3 call n (pF5 (pB 0 β))) K) <| noP
  lp := fun β j m => ifL j 3 (pC5 (l355_3 call n m) K) <| noP }
@[irreducible] noncomputable def A355 : AFun := (compFn Tryz.prog Tryz.f355).getD ⟨0, [], .skip⟩
noncomputable def w355 : Sh := shW 3 fun call n K => pA3 (s355 call n) K
theorem w355_ok {E : Env} (e : E.code 355 = some A355) (hp : E.prim 355 = none) : ShOK E 355 w355 := shW_ok (A := { pts := [(20, [0, 2, 7, 8, 9, 10])], lps := [(3, [0, 2, 8, 9, 10])] }) (S := T355) e hp (by kernel_rfl) (by kernel_rfl) (by kernel_rfl)

@[irreducible] noncomputable def A357 : AFun := (compFn Tryz.prog Tryz.f357).getD ⟨0, [], .skip⟩
noncomputable def w357 : Sh := shW 2 fun call n K => pA2 (s357 call n) K
theorem w357_ok {E : Env} (e : E.code 357 = some A357) (hp : E.prim 357 = none) : ShOK E 357 w357 := shW_ok (A := { pts := [], lps := [] }) (S := noS) e hp (by kernel_rfl) (by kernel_rfl) (by kernel_rfl)

noncomputable def T359 (call : CallFn) (n : Nat) (K : Kont) : Sp := {
  pt := fun β j => ifF j 10 (pA3 (p359_10 call n) K) <| ifF j 29001 (pA6 (p359_29001 call n (pF5 (pB 0 β))) K) <| noP
  fs := fun β j => noP
  rd := fun β j => ifF j 14 (pA5 (b359_14 call n (pF5 (pB 0 β))) K) <| noP
  lp := fun β j m => ifL j 14 (pC5 (l359_14 call n m) K) <| noP }
@[irreducible] noncomputable def A359 : AFun := (compFn Tryz.prog Tryz.f359).getD ⟨0, [], .skip⟩
noncomputable def w359 : Sh := shW 3 fun call n K => pA3 (s359 call n) K
theorem w359_ok {E : Env} (e : E.code 359 = some A359) (hp : E.prim 359 = none) : ShOK E 359 w359 := shW_ok (A := { pts := [(10, [0, 1, 2])], lps := [(14, [1, 2, 15, 16, 17])], cuts := [(28, [(4, 29001, [1, 2, 15, 16, 17, 29])])] }) (S := T359) e hp (by kernel_rfl) (by kernel_rfl) (by kernel_rfl)

noncomputable def T363 (call : CallFn) (n : Nat) (K : Kont) : Sp := {
  pt := fun β j => ifF j 20 (pA6 (p363_20 call n (pF5 (pB 0 β))) K) <| noP
  fs := fun β j => noP
  rd := fun β j => ifF j 3 (pA5 (b363_3 call n (pF5 (pB 0 β))) K) <| noP
  lp := fun β j m => ifL j 3 (pC5 (l363_3 call n m) K) <| noP }
@[irreducible] noncomputable def A363 : AFun := (compFn Tryz.prog Tryz.f363).getD ⟨0, [], .skip⟩
noncomputable def w363 : Sh := shW 3 fun call n K => pA3 (s363 call n) K
theorem w363_ok {E : Env} (e : E.code 363 = some A363) (hp : E.prim 363 = none) : ShOK E 363 w363 := shW_ok (A := { pts := [(20, [0, 2, 7, 8, 9, 10])], lps := [(3, [0, 2, 8, 9, 10])] }) (S := T363) e hp (by kernel_rfl) (by kernel_rfl) (by kernel_rfl)

end Go.Proofs.YtjfhlmakfgbcoaaGreatDoor
