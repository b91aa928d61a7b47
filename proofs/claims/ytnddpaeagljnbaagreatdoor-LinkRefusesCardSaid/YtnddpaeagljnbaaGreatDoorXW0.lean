/-
  The functions say no more than the code: so the kernel finds (printed by wip/tools/gen2.py).
-/
import Derived.Test.YtnddpaeagljnbaaGreatDoorXS1
import Derived.Test.YtnddpaeagljnbaaGreatDoorAbDn
import Derived.Test.YtnddpaeagljnbaaGreatDoorProg
import Derived.KernelRfl
namespace Go.Proofs.YtnddpaeagljnbaaGreatDoor
open Go.Ab
set_option linter.unusedVariables false

noncomputable def T3 (call : CallFn) (n : Nat) (K : Kont) : Sp := {
  pt := fun β j => ifF j 4001 (pA1 (p3_4001 call n) K) <| ifF j 6001 (pA1 (p3_6001 call n) K) <| ifF j 8001 (pA1 (p3_8001 call n) K) <| ifF j 32001 (pA8 (p3_32001 call n) K) <| ifF j 34001 (pA9 (p3_34001 call n) K) <| ifF j 36001 (pA10 (p3_36001 call n) K) <| ifF j 38001 (pA11 (p3_38001 call n) K) <| ifF j 40001 (pA2 (p3_40001 call n) K) <| ifF j 40002 (pA2 (p3_40002 call n) K) <| noP
  fs := fun β j => noP
  rd := fun β j => noP
  lp := fun β j m => noP }
@[irreducible] noncomputable def A3 : AFun := (compFn Tryz.prog Tryz.f3).getD ⟨0, [], .skip⟩
noncomputable def w3 : Sh := shW 0 fun call n K => pA0 (s3 call n) K
theorem w3_ok {E : Env} (e : E.code 3 = some A3) (hp : E.prim 3 = none) : ShOK E 3 w3 := shW_ok (A := { pts := [], lps := [], cuts := [(3, [(1, 4001, [24])]), (5, [(2, 6001, [30])]), (7, [(2, 8001, [35])]), (31, [(2, 32001, [6, 9, 10, 11, 12, 13, 14, 59])]), (33, [(2, 34001, [6, 9, 10, 11, 12, 13, 14, 15, 64])]), (35, [(2, 36001, [6, 9, 10, 11, 12, 13, 14, 15, 17, 69])]), (37, [(2, 38001, [6, 9, 10, 11, 12, 13, 14, 15, 17, 19, 74])]), (39, [(39, 40001, [113, 115]), (5, 40002, [119, 120])])] }) (S := T3) e hp (by kernel_rfl) (by kernel_rfl) (by kernel_rfl)

noncomputable def T4 (call : CallFn) (n : Nat) (K : Kont) : Sp := {
  pt := fun β j => ifF j 6001 (pA3 (p4_6001 call n) K) <| noP
  fs := fun β j => noP
  rd := fun β j => noP
  lp := fun β j m => noP }
@[irreducible] noncomputable def A4 : AFun := (compFn Tryz.prog Tryz.f4).getD ⟨0, [], .skip⟩
noncomputable def w4 : Sh := shW 1 fun call n K => pA1 (s4 call n) K
theorem w4_ok {E : Env} (e : E.code 4 = some A4) (hp : E.prim 4 = none) : ShOK E 4 w4 := shW_ok (A := { pts := [], lps := [], cuts := [(5, [(3, 6001, [2, 5, 11])])] }) (S := T4) e hp (by kernel_rfl) (by kernel_rfl) (by kernel_rfl)

noncomputable def T5 (call : CallFn) (n : Nat) (K : Kont) : Sp := {
  pt := fun β j => ifF j 4001 (pA2 (p5_4001 call n) K) <| noP
  fs := fun β j => noP
  rd := fun β j => noP
  lp := fun β j m => noP }
@[irreducible] noncomputable def A5 : AFun := (compFn Tryz.prog Tryz.f5).getD ⟨0, [], .skip⟩
noncomputable def w5 : Sh := shW 1 fun call n K => pA1 (s5 call n) K
theorem w5_ok {E : Env} (e : E.code 5 = some A5) (hp : E.prim 5 = none) : ShOK E 5 w5 := shW_ok (A := { pts := [], lps := [], cuts := [(3, [(2, 4001, [1, 8])])] }) (S := T5) e hp (by kernel_rfl) (by kernel_rfl) (by kernel_rfl)

noncomputable def T6 (call : CallFn) (n : Nat) (K : Kont) : Sp := {
  pt := fun β j => ifF j 10 (pA1 (p6_10 call n) K) <| ifF j 31 (pA3 (p6_31 call n) K) <| ifF j 46 (pA6 (p6_46 call n (pF6 (pB 0 β))) K) <| ifF j 67 (pA11 (p6_67 call n (pF6 (pB 1 β)) (pF11 (pB 0 β))) K) <| ifF j 101 (pA15 (p6_101 call n (pF6 (pB 2 β)) (pF11 (pB 1 β)) (pF15 (pB 0 β))) K) <| ifF j 102 (pA12 (p6_102 call n (pF6 (pB 1 β)) (pF11 (pB 0 β))) K) <| ifF j 105 (pA11 (p6_105 call n (pF6 (pB 1 β)) (pF11 (pB 0 β))) K) <| ifF j 106 (pA7 (p6_106 call n (pF6 (pB 0 β))) K) <| ifF j 107 (pA6 (p6_107 call n (pF6 (pB 0 β))) K) <| ifF j 12001 (pA2 (p6_12001 call n) K) <| ifF j 52001 (pA8 (p6_52001 call n (pF6 (pB 0 β))) K) <| ifF j 94001 (pA16 (p6_94001 call n (pF6 (pB 2 β)) (pF11 (pB 1 β)) (pF15 (pB 0 β))) K) <| ifF j 98001 (pA18 (p6_98001 call n (pF6 (pB 2 β)) (pF11 (pB 1 β)) (pF15 (pB 0 β))) K) <| noP
  fs := fun β j => noP
  rd := fun β j => ifF j 20 (pA5 (b6_20 call n (pF5 (pB 0 β))) K) <| ifF j 39 (pA6 (b6_39 call n (pF6 (pB 0 β))) K) <| ifF j 60 (pA11 (b6_60 call n (pF6 (pB 1 β)) (pF11 (pB 0 β))) K) <| ifF j 75 (pA15 (b6_75 call n (pF6 (pB 2 β)) (pF11 (pB 1 β)) (pF15 (pB 0 β))) K) <| noP
  lp := fun β j m => ifL j 20 (pC5 (l6_20 call n m) K) <| ifL j 39 (pC6 (l6_39 call n m) K) <| ifL j 60 (pC11 (l6_60 call n (pF6 (pB 0 β)) m) K) <| ifL j 75 (pC15 (l6_75 call n (pF6 (pB 1 β)) (pF11 (pB 0 β)) m) K) <| noP }
@[irreducible] noncomputable def A6 : AFun := (compFn Tryz.prog Tryz.f6).getD ⟨0, [], .skip⟩
noncomputable def w6 : Sh := shW 1 fun call n K => pA1 (s6 call n) K
theorem w6_ok {E : Env} (e : E.code 6 = some A6) (hp : E.prim 6 = none) : ShOK E 6 w6 := shW_ok (A := { pts := [(10, [0]), (31, [0, 5, 6]), (46, [0, 5, 6, 8, 56, 57]), (67, [0, 5, 6, 8, 9, 12, 56, 57, 76, 77, 78]), (101, [0, 5, 6, 8, 9, 12, 14, 56, 57, 76, 77, 78, 86, 87, 88]), (102, [0, 5, 6, 8, 9, 12, 14, 56, 57, 76, 77, 78]), (105, [0, 5, 6, 8, 9, 12, 56, 57, 76, 77, 78]), (106, [0, 5, 6, 8, 9, 56, 57]), (107, [0, 5, 6, 8, 56, 57])], lps := [(20, [0, 5, 6, 35, 36]), (39, [0, 5, 6, 8, 56, 57]), (60, [0, 5, 6, 8, 9, 12, 56, 57, 76, 77, 78]), (75, [0, 5, 6, 8, 9, 12, 14, 56, 57, 76, 77, 78, 86, 87, 88])], cuts := [(11, [(2, 12001, [0, 24])]), (51, [(3, 52001, [0, 5, 6, 8, 9, 56, 57, 63])]), (93, [(6, 94001, [0, 5, 6, 8, 9, 12, 14, 56, 57, 76, 77, 78, 86, 87, 88, 108])]), (97, [(5, 98001, [0, 5, 6, 8, 9, 12, 14, 17, 19, 56, 57, 76, 77, 78, 86, 87, 88, 122])])] }) (S := T6) e hp (by kernel_rfl) (by kernel_rfl) (by kernel_rfl)

noncomputable def T7 (call : CallFn) (n : Nat) (K : Kont) : Sp := {
  pt := fun β j => ifF j 10 (pA3 (p7_10 call n) K) <| noP
  fs := fun β j => noP
  rd := fun β j => ifF j 21 (pA4 (b7_21 call n (pF4 (pB 0 β))) K) <| noP
  lp := fun β j m => ifL j 21 (pC4 (l7_21 call n m) K) <| noP }
@[irreducible] noncomputable def A7 : AFun := (compFn Tryz.prog Tryz.f7).getD ⟨0, [], .skip⟩
noncomputable def w7 : Sh := shW 3 fun call n K => pA3 (s7 call n) K
theorem w7_ok {E : Env} (e : E.code 7 = some A7) (hp : E.prim 7 = none) : ShOK E 7 w7 := shW_ok (A := { pts := [(10, [0, 1, 2])], lps := [(21, [7, 79, 80, 81])] }) (S := T7) e hp (by kernel_rfl) (by kernel_rfl) (by kernel_rfl)

@[irreducible] noncomputable def A8 : AFun := (compFn Tryz.prog Tryz.f8).getD ⟨0, [], .skip⟩
noncomputable def w8 : Sh := shW 2 fun call n K => pA2 (s8 call n) K
theorem w8_ok {E : Env} (e : E.code 8 = some A8) (hp : E.prim 8 = none) : ShOK E 8 w8 := shW_ok (A := { pts := [], lps := [] }) (S := noS) e hp (by kernel_rfl) (by kernel_rfl) (by kernel_rfl)

@[irreducible] noncomputable def A9 : AFun := (compFn Tryz.prog Tryz.f9).getD ⟨0, [], .skip⟩
noncomputable def w9 : Sh := shW 2 fun call n K => pA2 (s9 call n) K
theorem w9_ok {E : Env} (e : E.code 9 = some A9) (hp : E.prim 9 = none) : ShOK E 9 w9 := shW_ok (A := { pts := [], lps := [] }) (S := noS) e hp (by kernel_rfl) (by kernel_rfl) (by kernel_rfl)

noncomputable def T10 (call : CallFn) (n : Nat) (K : Kont) : Sp := {
  pt := fun β j => ifF j 28 (pA5 (p10_28 call n (pF5 (pB 0 β))) K) <| noP
  fs := fun β j => noP
  rd := fun β j => ifF j 8 (pA5 (b10_8 call n (pF5 (pB 0 β))) K) <| noP
  lp := fun β j m => ifL j 8 (pC5 (l10_8 call n m) K) <| noP }
@[irreducible] noncomputable def A10 : AFun := (compFn Tryz.prog Tryz.f10).getD ⟨0, [], .skip⟩
noncomputable def w10 : Sh := shW 1 fun call n K => pA1 (s10 call n) K
theorem w10_ok {E : Env} (e : E.code 10 = some A10) (hp : E.prim 10 = none) : ShOK E 10 w10 := shW_ok (A := { pts := [(28, [0, 3, 10, 11, 12])], lps := [(8, [0, 3, 10, 11, 12])] }) (S := T10) e hp (by kernel_rfl) (by kernel_rfl) (by kernel_rfl)

noncomputable def T11 (call : CallFn) (n : Nat) (K : Kont) : Sp := {
  pt := fun β j => ifF j 4001 (pA1 (p11_4001 call n) K) <| ifF j 6001 (pA1 (p11_6001 call n) K) <| ifF j 8001 (pA1 (p11_8001 call n) K) <| ifF j 11001 (pA3 (p11_11001 call n) K) <| ifF j 18001 (pA2 (p11_18001 call n) K) <| ifF j 24001 (pA5 (p11_24001 call n) K) <| ifF j 26001 (pA2 (p11_26001 call n) K) <| ifF j 26002 (pA2 (p11_26002 call n) K) <| noP
  fs := fun β j => noP
  rd := fun β j => noP
  lp := fun β j m => noP }
@[irreducible] noncomputable def A11 : AFun := (compFn Tryz.prog Tryz.f11).getD ⟨0, [], .skip⟩
noncomputable def w11 : Sh := shW 0 fun call n K => pA0 (s11 call n) K
theorem w11_ok {E : Env} (e : E.code 11 = some A11) (hp : E.prim 11 = none) : ShOK E 11 w11 := shW_ok (A := { pts := [], lps := [], cuts := [(3, [(1, 4001, [15])]), (5, [(2, 6001, [21])]), (7, [(2, 8001, [26])]), (10, [(9, 11001, [6, 35, 37])]), (17, [(2, 18001, [6, 42])]), (23, [(2, 24001, [6, 8, 10, 11, 51])]), (25, [(17, 26001, [68, 70]), (2, 26002, [68, 72])])] }) (S := T11) e hp (by kernel_rfl) (by kernel_rfl) (by kernel_rfl)

noncomputable def T12 (call : CallFn) (n : Nat) (K : Kont) : Sp := {
  pt := fun β j => ifF j 4001 (pA3 (p12_4001 call n) K) <| ifF j 14001 (pA1 (p12_14001 call n) K) <| noP
  fs := fun β j => noP
  rd := fun β j => noP
  lp := fun β j m => noP }
@[irreducible] noncomputable def A12 : AFun := (compFn Tryz.prog Tryz.f12).getD ⟨0, [], .skip⟩
noncomputable def w12 : Sh := shW 2 fun call n K => pA2 (s12 call n) K
theorem w12_ok {E : Env} (e : E.code 12 = some A12) (hp : E.prim 12 = none) : ShOK E 12 w12 := shW_ok (A := { pts := [], lps := [], cuts := [(3, [(2, 4001, [0, 1, 9])]), (13, [(5, 14001, [21])])] }) (S := T12) e hp (by kernel_rfl) (by kernel_rfl) (by kernel_rfl)

noncomputable def T13 (call : CallFn) (n : Nat) (K : Kont) : Sp := {
  pt := fun β j => ifF j 1001 (pA2 (p13_1001 call n) K) <| noP
  fs := fun β j => noP
  rd := fun β j => noP
  lp := fun β j m => noP }
@[irreducible] noncomputable def A13 : AFun := (compFn Tryz.prog Tryz.f13).getD ⟨0, [], .skip⟩
noncomputable def w13 : Sh := shW 2 fun call n K => pA2 (s13 call n) K
theorem w13_ok {E : Env} (e : E.code 13 = some A13) (hp : E.prim 13 = none) : ShOK E 13 w13 := shW_ok (A := { pts := [], lps := [], cuts := [(0, [(2, 1001, [1, 4])])] }) (S := T13) e hp (by kernel_rfl) (by kernel_rfl) (by kernel_rfl)

noncomputable def T14 (call : CallFn) (n : Nat) (K : Kont) : Sp := {
  pt := fun β j => ifF j 26 (pA2 (p14_26 call n) K) <| noP
  fs := fun β j => noP
  rd := fun β j => ifF j 6 (pA3 (b14_6 call n (pF3 (pB 0 β))) K) <| noP
  lp := fun β j m => ifL j 6 (pC3 (l14_6 call n m) K) <| noP }
@[irreducible] noncomputable def A14 : AFun := (compFn Tryz.prog Tryz.f14).getD ⟨0, [], .skip⟩
noncomputable def w14 : Sh := shW 1 fun call n K => pA1 (s14 call n) K
theorem w14_ok {E : Env} (e : E.code 14 = some A14) (hp : E.prim 14 = none) : ShOK E 14 w14 := shW_ok (A := { pts := [(26, [2, 3])], lps := [(6, [0, 2, 3])] }) (S := T14) e hp (by kernel_rfl) (by kernel_rfl) (by kernel_rfl)

noncomputable def T15 (call : CallFn) (n : Nat) (K : Kont) : Sp := {
  pt := fun β j => ifF j 12 (pA1 (p15_12 call n) K) <| ifF j 25 (pA4 (p15_25 call n (pF4 (pB 0 β))) K) <| ifF j 39 (pA6 (p15_39 call n (pF4 (pB 0 β))) K) <| ifF j 55 (pA4 (p15_55 call n (pF4 (pB 0 β))) K) <| ifF j 56 (pA1 (p15_56 call n) K) <| ifF j 5001 (pA2 (p15_5001 call n) K) <| ifF j 31001 (pA6 (p15_31001 call n (pF4 (pB 0 β))) K) <| noP
  fs := fun β j => noP
  rd := fun β j => ifF j 18 (pA4 (b15_18 call n (pF4 (pB 0 β))) K) <| ifF j 42 (pA8 (b15_42 call n (pF4 (pB 1 β)) (pF8 (pB 0 β))) K) <| noP
  lp := fun β j m => ifL j 18 (pC4 (l15_18 call n m) K) <| ifL j 42 (pC8 (l15_42 call n (pF4 (pB 0 β)) m) K) <| noP }
@[irreducible] noncomputable def A15 : AFun := (compFn Tryz.prog Tryz.f15).getD ⟨0, [], .skip⟩
noncomputable def w15 : Sh := shW 1 fun call n K => pA1 (s15 call n) K
theorem w15_ok {E : Env} (e : E.code 15 = some A15) (hp : E.prim 15 = none) : ShOK E 15 w15 := shW_ok (A := { pts := [(12, [1]), (25, [6, 22, 23, 24]), (39, [6, 7, 9, 22, 23, 24]), (55, [6, 22, 23, 24]), (56, [6])], lps := [(18, [6, 22, 23, 24]), (42, [6, 7, 22, 23, 24, 37, 38, 39])], cuts := [(4, [(2, 5001, [1, 15])]), (30, [(3, 31001, [6, 7, 22, 23, 24, 32])])] }) (S := T15) e hp (by kernel_rfl) (by kernel_rfl) (by kernel_rfl)

noncomputable def T16 (call : CallFn) (n : Nat) (K : Kont) : Sp := {
  pt := fun β j => ifF j 27 (pA2 (p16_27 call n) K) <| ifF j 4001 (pA2 (p16_4001 call n) K) <| noP
  fs := fun β j => noP
  rd := fun β j => ifF j 12 (pA5 (b16_12 call n (pF5 (pB 0 β))) K) <| noP
  lp := fun β j m => ifL j 12 (pC5 (l16_12 call n m) K) <| noP }
@[irreducible] noncomputable def A16 : AFun := (compFn Tryz.prog Tryz.f16).getD ⟨0, [], .skip⟩
noncomputable def w16 : Sh := shW 2 fun call n K => pA2 (s16 call n) K
theorem w16_ok {E : Env} (e : E.code 16 = some A16) (hp : E.prim 16 = none) : ShOK E 16 w16 := shW_ok (A := { pts := [(27, [7, 8])], lps := [(12, [7, 8, 24, 25, 26])], cuts := [(3, [(3, 4001, [1, 14])])] }) (S := T16) e hp (by kernel_rfl) (by kernel_rfl) (by kernel_rfl)

noncomputable def T17 (call : CallFn) (n : Nat) (K : Kont) : Sp := {
  pt := fun β j => ifF j 21001 (pA6 (p17_21001 call n (pF4 (pB 0 β))) K) <| noP
  fs := fun β j => noP
  rd := fun β j => ifF j 8 (pA4 (b17_8 call n (pF4 (pB 0 β))) K) <| noP
  lp := fun β j m => ifL j 8 (pC4 (l17_8 call n m) K) <| noP }
@[irreducible] noncomputable def A17 : AFun := (compFn Tryz.prog Tryz.f17).getD ⟨0, [], .skip⟩
noncomputable def w17 : Sh := shW 1 fun call n K => pA1 (s17 call n) K
theorem w17_ok {E : Env} (e : E.code 17 = some A17) (hp : E.prim 17 = none) : ShOK E 17 w17 := shW_ok (A := { pts := [], lps := [(8, [3, 9, 10, 11])], cuts := [(20, [(3, 21001, [3, 5, 9, 10, 11, 17])])] }) (S := T17) e hp (by kernel_rfl) (by kernel_rfl) (by kernel_rfl)

noncomputable def T18 (call : CallFn) (n : Nat) (K : Kont) : Sp := {
  pt := fun β j => noP
  fs := fun β j => noP
  rd := fun β j => ifF j 8 (pA4 (b18_8 call n (pF4 (pB 0 β))) K) <| noP
  lp := fun β j m => ifL j 8 (pC4 (l18_8 call n m) K) <| noP }
@[irreducible] noncomputable def A18 : AFun := (compFn Tryz.prog Tryz.f18).getD ⟨0, [], .skip⟩
noncomputable def w18 : Sh := shW 1 fun call n K => pA1 (s18 call n) K
theorem w18_ok {E : Env} (e : E.code 18 = some A18) (hp : E.prim 18 = none) : ShOK E 18 w18 := shW_ok (A := { pts := [], lps := [(8, [3, 9, 10, 11])] }) (S := T18) e hp (by kernel_rfl) (by kernel_rfl) (by kernel_rfl)

noncomputable def T19 (call : CallFn) (n : Nat) (K : Kont) : Sp := {
  pt := fun β j => ifF j 21001 (pA6 (p19_21001 call n (pF4 (pB 0 β))) K) <| noP
  fs := fun β j => noP
  rd := fun β j => ifF j 8 (pA4 (b19_8 call n (pF4 (pB 0 β))) K) <| noP
  lp := fun β j m => ifL j 8 (pC4 (l19_8 call n m) K) <| noP }
@[irreducible] noncomputable def A19 : AFun := (compFn Tryz.prog Tryz.f19).getD ⟨0, [], .skip⟩
noncomputable def w19 : Sh := shW 1 fun call n K => pA1 (s19 call n) K
theorem w19_ok {E : Env} (e : E.code 19 = some A19) (hp : E.prim 19 = none) : ShOK E 19 w19 := shW_ok (A := { pts := [], lps := [(8, [3, 9, 10, 11])], cuts := [(20, [(3, 21001, [3, 5, 9, 10, 11, 17])])] }) (S := T19) e hp (by kernel_rfl) (by kernel_rfl) (by kernel_rfl)

noncomputable def T20 (call : CallFn) (n : Nat) (K : Kont) : Sp := {
  pt := fun β j => ifF j 10 (pA2 (p20_10 call n) K) <| ifF j 32 (pA5 (p20_32 call n (pF5 (pB 0 β))) K) <| noP
  fs := fun β j => noP
  rd := fun β j => ifF j 16 (pA5 (b20_16 call n (pF5 (pB 0 β))) K) <| noP
  lp := fun β j m => ifL j 16 (pC5 (l20_16 call n m) K) <| noP }
@[irreducible] noncomputable def A20 : AFun := (compFn Tryz.prog Tryz.f20).getD ⟨0, [], .skip⟩
noncomputable def w20 : Sh := shW 2 fun call n K => pA2 (s20 call n) K
theorem w20_ok {E : Env} (e : E.code 20 = some A20) (hp : E.prim 20 = none) : ShOK E 20 w20 := shW_ok (A := { pts := [(10, [0, 1]), (32, [1, 6, 23, 24, 25])], lps := [(16, [1, 6, 23, 24, 25])] }) (S := T20) e hp (by kernel_rfl) (by kernel_rfl) (by kernel_rfl)

@[irreducible] noncomputable def A21 : AFun := (compFn Tryz.prog Tryz.f21).getD ⟨0, [], .skip⟩
noncomputable def w21 : Sh := shW 3 fun call n K => pA3 (s21 call n) K
theorem w21_ok {E : Env} (e : E.code 21 = some A21) (hp : E.prim 21 = none) : ShOK E 21 w21 := shW_ok (A := { pts := [], lps := [] }) (S := noS) e hp (by kernel_rfl) (by kernel_rfl) (by kernel_rfl)

@[irreducible] noncomputable def A22 : AFun := (compFn Tryz.prog Tryz.f22).getD ⟨0, [], .skip⟩
noncomputable def w22 : Sh := shW 1 fun call n K => pA1 (s22 call n) K
theorem w22_ok {E : Env} (e : E.code 22 = some A22) (hp : E.prim 22 = none) : ShOK E 22 w22 := shW_ok (A := { pts := [], lps := [] }) (S := noS) e hp (by kernel_rfl) (by kernel_rfl) (by kernel_rfl)

@[irreducible] noncomputable def A23 : AFun := (compFn Tryz.prog Tryz.f23).getD ⟨0, [], .skip⟩
noncomputable def w23 : Sh := shW 2 fun call n K => pA2 (s23 call n) K
theorem w23_ok {E : Env} (e : E.code 23 = some A23) (hp : E.prim 23 = none) : ShOK E 23 w23 := shW_ok (A := { pts := [], lps := [] }) (S := noS) e hp (by kernel_rfl) (by kernel_rfl) (by kernel_rfl)

noncomputable def T24 (call : CallFn) (n : Nat) (K : Kont) : Sp := {
  pt := fun β j => ifF j 4001 (pA1 (p24_4001 call n) K) <| noP
  fs := fun β j => noP
  rd := fun β j => noP
  lp := fun β j m => noP }
@[irreducible] noncomputable def A24 : AFun := (compFn Tryz.prog Tryz.f24).getD ⟨0, [], .skip⟩
noncomputable def w24 : Sh := shW 2 fun call n K => pA2 (s24 call n) K
theorem w24_ok {E : Env} (e : E.code 24 = some A24) (hp : E.prim 24 = none) : ShOK E 24 w24 := shW_ok (A := { pts := [], lps := [], cuts := [(3, [(9, 4001, [13])])] }) (S := T24) e hp (by kernel_rfl) (by kernel_rfl) (by kernel_rfl)

noncomputable def T25 (call : CallFn) (n : Nat) (K : Kont) : Sp := {
  pt := fun β j => ifF j 10 (pA2 (p25_10 call n) K) <| noP
  fs := fun β j => noP
  rd := fun β j => ifF j 14 (pA3 (b25_14 call n (pF3 (pB 0 β))) K) <| noP
  lp := fun β j m => ifL j 14 (pC3 (l25_14 call n m) K) <| noP }
@[irreducible] noncomputable def A25 : AFun := (compFn Tryz.prog Tryz.f25).getD ⟨0, [], .skip⟩
noncomputable def w25 : Sh := shW 2 fun call n K => pA2 (s25 call n) K
theorem w25_ok {E : Env} (e : E.code 25 = some A25) (hp : E.prim 25 = none) : ShOK E 25 w25 := shW_ok (A := { pts := [(10, [0, 1])], lps := [(14, [0, 1, 5])] }) (S := T25) e hp (by kernel_rfl) (by kernel_rfl) (by kernel_rfl)

noncomputable def T26 (call : CallFn) (n : Nat) (K : Kont) : Sp := {
  pt := fun β j => ifF j 12001 (pA1 (p26_12001 call n) K) <| noP
  fs := fun β j => noP
  rd := fun β j => noP
  lp := fun β j m => noP }
@[irreducible] noncomputable def A26 : AFun := (compFn Tryz.prog Tryz.f26).getD ⟨0, [], .skip⟩
noncomputable def w26 : Sh := shW 1 fun call n K => pA1 (s26 call n) K
theorem w26_ok {E : Env} (e : E.code 26 = some A26) (hp : E.prim 26 = none) : ShOK E 26 w26 := shW_ok (A := { pts := [], lps := [], cuts := [(11, [(2, 12001, [9])])] }) (S := T26) e hp (by kernel_rfl) (by kernel_rfl) (by kernel_rfl)

noncomputable def T28 (call : CallFn) (n : Nat) (K : Kont) : Sp := {
  pt := fun β j => ifF j 5001 (pA2 (p28_5001 call n) K) <| noP
  fs := fun β j => noP
  rd := fun β j => noP
  lp := fun β j m => noP }
@[irreducible] noncomputable def A28 : AFun := (compFn Tryz.prog Tryz.f28).getD ⟨0, [], .skip⟩
noncomputable def w28 : Sh := shW 2 fun call n K => pA2 (s28 call n) K
theorem w28_ok {E : Env} (e : E.code 28 = some A28) (hp : E.prim 28 = none) : ShOK E 28 w28 := shW_ok (A := { pts := [], lps := [], cuts := [(4, [(3, 5001, [0, 7])])] }) (S := T28) e hp (by kernel_rfl) (by kernel_rfl) (by kernel_rfl)

noncomputable def T29 (call : CallFn) (n : Nat) (K : Kont) : Sp := {
  pt := fun β j => ifF j 10 (pA3 (p29_10 call n) K) <| ifF j 27 (pA3 (p29_27 call n) K) <| ifF j 4001 (pA3 (p29_4001 call n) K) <| ifF j 9001 (pA4 (p29_9001 call n) K) <| ifF j 20001 (pA6 (p29_20001 call n (pF4 (pB 0 β))) K) <| ifF j 20002 (pA6 (p29_20002 call n (pF4 (pB 0 β))) K) <| ifF j 20003 (pA7 (p29_20003 call n (pF4 (pB 0 β))) K) <| noP
  fs := fun β j => noP
  rd := fun β j => ifF j 16 (pA4 (b29_16 call n (pF4 (pB 0 β))) K) <| noP
  lp := fun β j m => ifL j 16 (pC4 (l29_16 call n m) K) <| noP }
@[irreducible] noncomputable def A29 : AFun := (compFn Tryz.prog Tryz.f29).getD ⟨0, [], .skip⟩
noncomputable def w29 : Sh := shW 1 fun call n K => pA1 (s29 call n) K
theorem w29_ok {E : Env} (e : E.code 29 = some A29) (hp : E.prim 29 = none) : ShOK E 29 w29 := shW_ok (A := { pts := [(10, [0, 2, 3]), (27, [0, 2, 3])], lps := [(16, [0, 2, 3, 4])], cuts := [(3, [(2, 4001, [0, 2, 6])]), (8, [(2, 9001, [0, 2, 3, 11])]), (19, [(4, 20001, [0, 2, 3, 4, 16, 18]), (8, 20002, [0, 2, 3, 21, 24, 26]), (3, 20003, [0, 2, 3, 21, 24, 27, 29])])] }) (S := T29) e hp (by kernel_rfl) (by kernel_rfl) (by kernel_rfl)

noncomputable def T30 (call : CallFn) (n : Nat) (K : Kont) : Sp := {
  pt := fun β j => ifF j 34 (pA3 (p30_34 call n) K) <| ifF j 49 (pA2 (p30_49 call n) K) <| ifF j 4001 (pA3 (p30_4001 call n) K) <| ifF j 10001 (pA4 (p30_10001 call n (pF3 (pB 0 β))) K) <| ifF j 19001 (pA4 (p30_19001 call n (pF3 (pB 0 β))) K) <| ifF j 23001 (pA4 (p30_23001 call n (pF3 (pB 0 β))) K) <| ifF j 27001 (pA4 (p30_27001 call n (pF3 (pB 0 β))) K) <| ifF j 36001 (pA4 (p30_36001 call n) K) <| ifF j 44001 (pA4 (p30_44001 call n (pF3 (pB 0 β))) K) <| noP
  fs := fun β j => noP
  rd := fun β j => ifF j 6 (pA3 (b30_6 call n (pF3 (pB 0 β))) K) <| ifF j 40 (pA3 (b30_40 call n (pF3 (pB 0 β))) K) <| noP
  lp := fun β j m => ifL j 6 (pC3 (l30_6 call n m) K) <| ifL j 40 (pC3 (l30_40 call n m) K) <| noP }
@[irreducible] noncomputable def A30 : AFun := (compFn Tryz.prog Tryz.f30).getD ⟨0, [], .skip⟩
noncomputable def w30 : Sh := shW 1 fun call n K => pA1 (s30 call n) K
theorem w30_ok {E : Env} (e : E.code 30 = some A30) (hp : E.prim 30 = none) : ShOK E 30 w30 := shW_ok (A := { pts := [(34, [0, 2, 3]), (49, [2, 3])], lps := [(6, [0, 2, 3]), (40, [0, 2, 3])], cuts := [(3, [(2, 4001, [0, 2, 5])]), (9, [(2, 10001, [0, 2, 3, 8])]), (18, [(2, 19001, [0, 2, 3, 18])]), (22, [(2, 23001, [0, 2, 3, 24])]), (26, [(2, 27001, [0, 2, 3, 30])]), (35, [(3, 36001, [0, 2, 3, 38])]), (43, [(2, 44001, [0, 2, 3, 44])])] }) (S := T30) e hp (by kernel_rfl) (by kernel_rfl) (by kernel_rfl)

noncomputable def T31 (call : CallFn) (n : Nat) (K : Kont) : Sp := {
  pt := fun β j => ifF j 15001 (pA6 (p31_15001 call n (pF4 (pB 0 β))) K) <| noP
  fs := fun β j => noP
  rd := fun β j => ifF j 3 (pA4 (b31_3 call n (pF4 (pB 0 β))) K) <| noP
  lp := fun β j m => ifL j 3 (pC4 (l31_3 call n m) K) <| noP }
@[irreducible] noncomputable def A31 : AFun := (compFn Tryz.prog Tryz.f31).getD ⟨0, [], .skip⟩
noncomputable def w31 : Sh := shW 2 fun call n K => pA2 (s31 call n) K
theorem w31_ok {E : Env} (e : E.code 31 = some A31) (hp : E.prim 31 = none) : ShOK E 31 w31 := shW_ok (A := { pts := [], lps := [(3, [0, 6, 7, 8])], cuts := [(14, [(4, 15001, [0, 6, 7, 8, 12, 15])])] }) (S := T31) e hp (by kernel_rfl) (by kernel_rfl) (by kernel_rfl)

noncomputable def T33 (call : CallFn) (n : Nat) (K : Kont) : Sp := {
  pt := fun β j => ifF j 12 (pA1 (p33_12 call n) K) <| ifF j 22 (pA2 (p33_22 call n) K) <| ifF j 5001 (pA2 (p33_5001 call n) K) <| ifF j 14001 (pA2 (p33_14001 call n) K) <| ifF j 41001 (pA4 (p33_41001 call n (pF3 (pB 0 β))) K) <| noP
  fs := fun β j => noP
  rd := fun β j => ifF j 28 (pA3 (b33_28 call n (pF3 (pB 0 β))) K) <| noP
  lp := fun β j m => ifL j 28 (pC3 (l33_28 call n m) K) <| noP }
@[irreducible] noncomputable def A33 : AFun := (compFn Tryz.prog Tryz.f33).getD ⟨0, [], .skip⟩
noncomputable def w33 : Sh := shW 1 fun call n K => pA1 (s33 call n) K
theorem w33_ok {E : Env} (e : E.code 33 = some A33) (hp : E.prim 33 = none) : ShOK E 33 w33 := shW_ok (A := { pts := [(12, [1]), (22, [1, 6])], lps := [(28, [41, 42, 43])], cuts := [(4, [(2, 5001, [1, 14])]), (13, [(3, 14001, [1, 22])]), (40, [(2, 41001, [41, 42, 43, 49])])] }) (S := T33) e hp (by kernel_rfl) (by kernel_rfl) (by kernel_rfl)

noncomputable def T35 (call : CallFn) (n : Nat) (K : Kont) : Sp := {
  pt := fun β j => ifF j 12 (pA2 (p35_12 call n) K) <| ifF j 30001 (pA8 (p35_30001 call n (pF5 (pB 0 β))) K) <| ifF j 39001 (pA7 (p35_39001 call n (pF5 (pB 0 β))) K) <| noP
  fs := fun β j => noP
  rd := fun β j => ifF j 16 (pA5 (b35_16 call n (pF5 (pB 0 β))) K) <| noP
  lp := fun β j m => ifL j 16 (pC5 (l35_16 call n m) K) <| noP }
@[irreducible] noncomputable def A35 : AFun := (compFn Tryz.prog Tryz.f35).getD ⟨0, [], .skip⟩
noncomputable def w35 : Sh := shW 1 fun call n K => pA1 (s35 call n) K
theorem w35_ok {E : Env} (e : E.code 35 = some A35) (hp : E.prim 35 = none) : ShOK E 35 w35 := shW_ok (A := { pts := [(12, [0, 4])], lps := [(16, [0, 4, 13, 14, 15])], cuts := [(29, [(9, 30001, [0, 4, 6, 13, 14, 15, 23, 27])]), (38, [(3, 39001, [0, 4, 6, 13, 14, 15, 43])])] }) (S := T35) e hp (by kernel_rfl) (by kernel_rfl) (by kernel_rfl)

noncomputable def T36 (call : CallFn) (n : Nat) (K : Kont) : Sp := {
  pt := fun β j => ifF j 27 (pA7 (p36_27 call n (pF5 (pB 0 β))) K) <| noP
  fs := fun β j => noP
  rd := fun β j => ifF j 8 (pA5 (b36_8 call n (pF5 (pB 0 β))) K) <| noP
  lp := fun β j m => ifL j 8 (pC5 (l36_8 call n m) K) <| noP }
@[irreducible] noncomputable def A36 : AFun := (compFn Tryz.prog Tryz.f36).getD ⟨0, [], .skip⟩
noncomputable def w36 : Sh := shW 2 fun call n K => pA2 (s36 call n) K
theorem w36_ok {E : Env} (e : E.code 36 = some A36) (hp : E.prim 36 = none) : ShOK E 36 w36 := shW_ok (A := { pts := [(27, [0, 5, 7, 8, 9, 10, 11])], lps := [(8, [0, 5, 9, 10, 11])] }) (S := T36) e hp (by kernel_rfl) (by kernel_rfl) (by kernel_rfl)

noncomputable def T37 (call : CallFn) (n : Nat) (K : Kont) : Sp := {
  pt := fun β j => ifF j 37 (pA7 (p37_37 call n (pF6 (pB 0 β))) K) <| ifF j 41 (pA2 (p37_41 call n) K) <| ifF j 27001 (pA8 (p37_27001 call n (pF6 (pB 0 β))) K) <| noP
  fs := fun β j => noP
  rd := fun β j => ifF j 10 (pA6 (b37_10 call n (pF6 (pB 0 β))) K) <| noP
  lp := fun β j m => ifL j 10 (pC6 (l37_10 call n m) K) <| noP }
@[irreducible] noncomputable def A37 : AFun := (compFn Tryz.prog Tryz.f37).getD ⟨0, [], .skip⟩
noncomputable def w37 : Sh := shW 3 fun call n K => pA3 (s37 call n) K
theorem w37_ok {E : Env} (e : E.code 37 = some A37) (hp : E.prim 37 = none) : ShOK E 37 w37 := shW_ok (A := { pts := [(37, [1, 6, 7, 11, 17, 18, 19]), (41, [1, 6])], lps := [(10, [1, 6, 7, 17, 18, 19])], cuts := [(26, [(4, 27001, [1, 6, 7, 9, 17, 18, 19, 33])])] }) (S := T37) e hp (by kernel_rfl) (by kernel_rfl) (by kernel_rfl)

noncomputable def T38 (call : CallFn) (n : Nat) (K : Kont) : Sp := {
  pt := fun β j => noP
  fs := fun β j => noP
  rd := fun β j => ifF j 9 (pA4 (b38_9 call n (pF4 (pB 0 β))) K) <| noP
  lp := fun β j m => ifL j 9 (pC4 (l38_9 call n m) K) <| noP }
@[irreducible] noncomputable def A38 : AFun := (compFn Tryz.prog Tryz.f38).getD ⟨0, [], .skip⟩
noncomputable def w38 : Sh := shW 2 fun call n K => pA2 (s38 call n) K
theorem w38_ok {E : Env} (e : E.code 38 = some A38) (hp : E.prim 38 = none) : ShOK E 38 w38 := shW_ok (A := { pts := [], lps := [(9, [4, 11, 12, 13])] }) (S := T38) e hp (by kernel_rfl) (by kernel_rfl) (by kernel_rfl)

noncomputable def T39 (call : CallFn) (n : Nat) (K : Kont) : Sp := {
  pt := fun β j => ifF j 4001 (pA1 (p39_4001 call n) K) <| noP
  fs := fun β j => noP
  rd := fun β j => noP
  lp := fun β j m => noP }
@[irreducible] noncomputable def A39 : AFun := (compFn Tryz.prog Tryz.f39).getD ⟨0, [], .skip⟩
noncomputable def w39 : Sh := shW 1 fun call n K => pA1 (s39 call n) K
theorem w39_ok {E : Env} (e : E.code 39 = some A39) (hp : E.prim 39 = none) : ShOK E 39 w39 := shW_ok (A := { pts := [], lps := [], cuts := [(3, [(4, 4001, [6])])] }) (S := T39) e hp (by kernel_rfl) (by kernel_rfl) (by kernel_rfl)

@[irreducible] noncomputable def A40 : AFun := (compFn Tryz.prog Tryz.f40).getD ⟨0, [], .skip⟩
noncomputable def w40 : Sh := shW 1 fun call n K => pA1 (s40 call n) K
theorem w40_ok {E : Env} (e : E.code 40 = some A40) (hp : E.prim 40 = none) : ShOK E 40 w40 := shW_ok (A := { pts := [], lps := [] }) (S := noS) e hp (by kernel_rfl) (by kernel_rfl) (by kernel_rfl)

@[irreducible] noncomputable def A41 : AFun := (compFn Tryz.prog Tryz.f41).getD ⟨0, [], .skip⟩
noncomputable def w41 : Sh := shW 1 fun call n K => pA1 (s41 call n) K
theorem w41_ok {E : Env} (e : E.code 41 = some A41) (hp : E.prim 41 = none) : ShOK E 41 w41 := shW_ok (A := { pts := [], lps := [] }) (S := noS) e hp (by kernel_rfl) (by kernel_rfl) (by kernel_rfl)

noncomputable def T42 (call : CallFn) (n : Nat) (K : Kont) : Sp := {
  pt := fun β j => ifF j 4001 (pA1 (p42_4001 call n) K) <| noP
  fs := fun β j => noP
  rd := fun β j => noP
  lp := fun β j m => noP }
@[irreducible] noncomputable def A42 : AFun := (compFn Tryz.prog Tryz.f42).getD ⟨0, [], .skip⟩
noncomputable def w42 : Sh := shW 2 fun call n K => pA2 (s42 call n) K
theorem w42_ok {E : Env} (e : E.code 42 = some A42) (hp : E.prim 42 = none) : ShOK E 42 w42 := shW_ok (A := { pts := [], lps := [], cuts := [(3, [(3, 4001, [7])])] }) (S := T42) e hp (by kernel_rfl) (by kernel_rfl) (by kernel_rfl)

noncomputable def T43 (call : CallFn) (n : Nat) (K : Kont) : Sp := {
  pt := fun β j => ifF j 4001 (pA1 (p43_4001 call n) K) <| noP
  fs := fun β j => noP
  rd := fun β j => noP
  lp := fun β j m => noP }
@[irreducible] noncomputable def A43 : AFun := (compFn Tryz.prog Tryz.f43).getD ⟨0, [], .skip⟩
noncomputable def w43 : Sh := shW 2 fun call n K => pA2 (s43 call n) K
theorem w43_ok {E : Env} (e : E.code 43 = some A43) (hp : E.prim 43 = none) : ShOK E 43 w43 := shW_ok (A := { pts := [], lps := [], cuts := [(3, [(3, 4001, [7])])] }) (S := T43) e hp (by kernel_rfl) (by kernel_rfl) (by kernel_rfl)

noncomputable def T44 (call : CallFn) (n : Nat) (K : Kont) : Sp := {
  pt := fun β j => ifF j 4001 (pA1 (p44_4001 call n) K) <| noP
  fs := fun β j => noP
  rd := fun β j => noP
  lp := fun β j m => noP }
@[irreducible] noncomputable def A44 : AFun := (compFn Tryz.prog Tryz.f44).getD ⟨0, [], .skip⟩
noncomputable def w44 : Sh := shW 2 fun call n K => pA2 (s44 call n) K
theorem w44_ok {E : Env} (e : E.code 44 = some A44) (hp : E.prim 44 = none) : ShOK E 44 w44 := shW_ok (A := { pts := [], lps := [], cuts := [(3, [(8, 4001, [11])])] }) (S := T44) e hp (by kernel_rfl) (by kernel_rfl) (by kernel_rfl)

@[irreducible] noncomputable def A45 : AFun := (compFn Tryz.prog Tryz.f45).getD ⟨0, [], .skip⟩
noncomputable def w45 : Sh := shW 1 fun call n K => pA1 (s45 call n) K
theorem w45_ok {E : Env} (e : E.code 45 = some A45) (hp : E.prim 45 = none) : ShOK E 45 w45 := shW_ok (A := { pts := [], lps := [] }) (S := noS) e hp (by kernel_rfl) (by kernel_rfl) (by kernel_rfl)

@[irreducible] noncomputable def A48 : AFun := (compFn Tryz.prog Tryz.f48).getD ⟨0, [], .skip⟩
noncomputable def w48 : Sh := shW 0 fun call n K => pA0 (s48 call n) K
theorem w48_ok {E : Env} (e : E.code 48 = some A48) (hp : E.prim 48 = none) : ShOK E 48 w48 := shW_ok (A := { pts := [], lps := [] }) (S := noS) e hp (by kernel_rfl) (by kernel_rfl) (by kernel_rfl)

noncomputable def T49 (call : CallFn) (n : Nat) (K : Kont) : Sp := {
  pt := fun β j => ifF j 4001 (pA1 (p49_4001 call n) K) <| noP
  fs := fun β j => noP
  rd := fun β j => noP
  lp := fun β j m => noP }
@[irreducible] noncomputable def A49 : AFun := (compFn Tryz.prog Tryz.f49).getD ⟨0, [], .skip⟩
noncomputable def w49 : Sh := shW 2 fun call n K => pA2 (s49 call n) K
theorem w49_ok {E : Env} (e : E.code 49 = some A49) (hp : E.prim 49 = none) : ShOK E 49 w49 := shW_ok (A := { pts := [], lps := [], cuts := [(3, [(2, 4001, [7])])] }) (S := T49) e hp (by kernel_rfl) (by kernel_rfl) (by kernel_rfl)

noncomputable def T50 (call : CallFn) (n : Nat) (K : Kont) : Sp := {
  pt := fun β j => ifF j 4001 (pA2 (p50_4001 call n) K) <| ifF j 6001 (pA4 (p50_6001 call n) K) <| noP
  fs := fun β j => noP
  rd := fun β j => noP
  lp := fun β j m => noP }
@[irreducible] noncomputable def A50 : AFun := (compFn Tryz.prog Tryz.f50).getD ⟨0, [], .skip⟩
noncomputable def w50 : Sh := shW 3 fun call n K => pA3 (s50 call n) K
theorem w50_ok {E : Env} (e : E.code 50 = some A50) (hp : E.prim 50 = none) : ShOK E 50 w50 := shW_ok (A := { pts := [], lps := [], cuts := [(3, [(3, 4001, [2, 10])]), (5, [(15, 6001, [15, 19, 23, 25])])] }) (S := T50) e hp (by kernel_rfl) (by kernel_rfl) (by kernel_rfl)

noncomputable def T51 (call : CallFn) (n : Nat) (K : Kont) : Sp := {
  pt := fun β j => ifF j 4001 (pA3 (p51_4001 call n) K) <| ifF j 4002 (pA4 (p51_4002 call n) K) <| noP
  fs := fun β j => noP
  rd := fun β j => noP
  lp := fun β j m => noP }
@[irreducible] noncomputable def A51 : AFun := (compFn Tryz.prog Tryz.f51).getD ⟨0, [], .skip⟩
noncomputable def w51 : Sh := shW 1 fun call n K => pA1 (s51 call n) K
theorem w51_ok {E : Env} (e : E.code 51 = some A51) (hp : E.prim 51 = none) : ShOK E 51 w51 := shW_ok (A := { pts := [], lps := [], cuts := [(3, [(3, 4001, [0, 3, 5]), (3, 4002, [0, 3, 6, 8])])] }) (S := T51) e hp (by kernel_rfl) (by kernel_rfl) (by kernel_rfl)

@[irreducible] noncomputable def A52 : AFun := (compFn Tryz.prog Tryz.f52).getD ⟨0, [], .skip⟩
noncomputable def w52 : Sh := shW 2 fun call n K => pA2 (s52 call n) K
theorem w52_ok {E : Env} (e : E.code 52 = some A52) (hp : E.prim 52 = none) : ShOK E 52 w52 := shW_ok (A := { pts := [], lps := [] }) (S := noS) e hp (by kernel_rfl) (by kernel_rfl) (by kernel_rfl)

noncomputable def T53 (call : CallFn) (n : Nat) (K : Kont) : Sp := {
  pt := fun β j => ifF j 4001 (pA1 (p53_4001 call n) K) <| ifF j 6001 (pA2 (p53_6001 call n) K) <| noP
  fs := fun β j => noP
  rd := fun β j => noP
  lp := fun β j m => noP }
@[irreducible] noncomputable def A53 : AFun := (compFn Tryz.prog Tryz.f53).getD ⟨0, [], .skip⟩
noncomputable def w53 : Sh := shW 2 fun call n K => pA2 (s53 call n) K
theorem w53_ok {E : Env} (e : E.code 53 = some A53) (hp : E.prim 53 = none) : ShOK E 53 w53 := shW_ok (A := { pts := [], lps := [], cuts := [(3, [(3, 4001, [8])]), (5, [(7, 6001, [12, 15])])] }) (S := T53) e hp (by kernel_rfl) (by kernel_rfl) (by kernel_rfl)

@[irreducible] noncomputable def A55 : AFun := (compFn Tryz.prog Tryz.f55).getD ⟨0, [], .skip⟩
noncomputable def w55 : Sh := shW 2 fun call n K => pA2 (s55 call n) K
theorem w55_ok {E : Env} (e : E.code 55 = some A55) (hp : E.prim 55 = none) : ShOK E 55 w55 := shW_ok (A := { pts := [], lps := [] }) (S := noS) e hp (by kernel_rfl) (by kernel_rfl) (by kernel_rfl)

noncomputable def T56 (call : CallFn) (n : Nat) (K : Kont) : Sp := {
  pt := fun β j => ifF j 4001 (pA3 (p56_4001 call n) K) <| noP
  fs := fun β j => noP
  rd := fun β j => noP
  lp := fun β j m => noP }
@[irreducible] noncomputable def A56 : AFun := (compFn Tryz.prog Tryz.f56).getD ⟨0, [], .skip⟩
noncomputable def w56 : Sh := shW 1 fun call n K => pA1 (s56 call n) K
theorem w56_ok {E : Env} (e : E.code 56 = some A56) (hp : E.prim 56 = none) : ShOK E 56 w56 := shW_ok (A := { pts := [], lps := [], cuts := [(3, [(3, 4001, [0, 3, 5])])] }) (S := T56) e hp (by kernel_rfl) (by kernel_rfl) (by kernel_rfl)

noncomputable def T58 (call : CallFn) (n : Nat) (K : Kont) : Sp := {
  pt := fun β j => ifF j 30 (pA3 (p58_30 call n (pF3 (pB 0 β))) K) <| ifF j 31001 (pA4 (p58_31001 call n (pF3 (pB 0 β))) K) <| noP
  fs := fun β j => noP
  rd := fun β j => ifF j 5 (pA3 (b58_5 call n (pF3 (pB 0 β))) K) <| ifF j 11 (pA6 (b58_11 call n (pF3 (pB 1 β)) (pF6 (pB 0 β))) K) <| noP
  lp := fun β j m => ifL j 5 (pC3 (l58_5 call n m) K) <| ifL j 11 (pC6 (l58_11 call n (pF3 (pB 0 β)) m) K) <| noP }
@[irreducible] noncomputable def A58 : AFun := (compFn Tryz.prog Tryz.f58).getD ⟨0, [], .skip⟩
noncomputable def w58 : Sh := shW 2 fun call n K => pA2 (s58 call n) K
theorem w58_ok {E : Env} (e : E.code 58 = some A58) (hp : E.prim 58 = none) : ShOK E 58 w58 := shW_ok (A := { pts := [(30, [0, 1, 5])], lps := [(5, [0, 1, 5]), (11, [0, 1, 5, 8, 9, 10])], cuts := [(30, [(3, 31001, [0, 1, 19, 21])])] }) (S := T58) e hp (by kernel_rfl) (by kernel_rfl) (by kernel_rfl)

noncomputable def T60 (call : CallFn) (n : Nat) (K : Kont) : Sp := {
  pt := fun β j => ifF j 15 (pA2 (p60_15 call n) K) <| ifF j 8001 (pA6 (p60_8001 call n (pF4 (pB 0 β))) K) <| ifF j 8002 (pA6 (p60_8002 call n (pF4 (pB 0 β))) K) <| noP
  fs := fun β j => noP
  rd := fun β j => ifF j 4 (pA4 (b60_4 call n (pF4 (pB 0 β))) K) <| noP
  lp := fun β j m => ifL j 4 (pC4 (l60_4 call n m) K) <| noP }
@[irreducible] noncomputable def A60 : AFun := (compFn Tryz.prog Tryz.f60).getD ⟨0, [], .skip⟩
noncomputable def w60 : Sh := shW 3 fun call n K => pA3 (s60 call n) K
theorem w60_ok {E : Env} (e : E.code 60 = some A60) (hp : E.prim 60 = none) : ShOK E 60 w60 := shW_ok (A := { pts := [(15, [0, 1])], lps := [(4, [0, 1, 2, 6])], cuts := [(7, [(5, 8001, [0, 1, 2, 6, 8, 11]), (8, 8002, [0, 1, 2, 14, 17, 19])])] }) (S := T60) e hp (by kernel_rfl) (by kernel_rfl) (by kernel_rfl)

noncomputable def T63 (call : CallFn) (n : Nat) (K : Kont) : Sp := {
  pt := fun β j => ifF j 4001 (pA2 (p63_4001 call n) K) <| ifF j 15001 (pA3 (p63_15001 call n) K) <| ifF j 17001 (pA3 (p63_17001 call n) K) <| ifF j 24001 (pA1 (p63_24001 call n) K) <| noP
  fs := fun β j => noP
  rd := fun β j => noP
  lp := fun β j m => noP }
@[irreducible] noncomputable def A63 : AFun := (compFn Tryz.prog Tryz.f63).getD ⟨0, [], .skip⟩
noncomputable def w63 : Sh := shW 1 fun call n K => pA1 (s63 call n) K
theorem w63_ok {E : Env} (e : E.code 63 = some A63) (hp : E.prim 63 = none) : ShOK E 63 w63 := shW_ok (A := { pts := [], lps := [], cuts := [(3, [(2, 4001, [1, 10])]), (14, [(2, 15001, [1, 4, 17])]), (16, [(6, 17001, [4, 22, 25])]), (23, [(2, 24001, [29])])] }) (S := T63) e hp (by kernel_rfl) (by kernel_rfl) (by kernel_rfl)

noncomputable def T64 (call : CallFn) (n : Nat) (K : Kont) : Sp := {
  pt := fun β j => ifF j 16 (pA3 (p64_16 call n) K) <| ifF j 10001 (pA3 (p64_10001 call n) K) <| ifF j 15001 (pA2 (p64_15001 call n) K) <| noP
  fs := fun β j => noP
  rd := fun β j => noP
  lp := fun β j m => noP }
@[irreducible] noncomputable def A64 : AFun := (compFn Tryz.prog Tryz.f64).getD ⟨0, [], .skip⟩
noncomputable def w64 : Sh := shW 1 fun call n K => pA1 (s64 call n) K
theorem w64_ok {E : Env} (e : E.code 64 = some A64) (hp : E.prim 64 = none) : ShOK E 64 w64 := shW_ok (A := { pts := [(16, [0, 8, 9])], lps := [], cuts := [(9, [(4, 10001, [0, 7, 16])]), (14, [(3, 15001, [0, 23])])] }) (S := T64) e hp (by kernel_rfl) (by kernel_rfl) (by kernel_rfl)

noncomputable def T65 (call : CallFn) (n : Nat) (K : Kont) : Sp := {
  pt := fun β j => ifF j 4001 (pA1 (p65_4001 call n) K) <| noP
  fs := fun β j => noP
  rd := fun β j => noP
  lp := fun β j m => noP }
@[irreducible] noncomputable def A65 : AFun := (compFn Tryz.prog Tryz.f65).getD ⟨0, [], .skip⟩
noncomputable def w65 : Sh := shW 1 fun call n K => pA1 (s65 call n) K
theorem w65_ok {E : Env} (e : E.code 65 = some A65) (hp : E.prim 65 = none) : ShOK E 65 w65 := shW_ok (A := { pts := [], lps := [], cuts := [(3, [(4, 4001, [7])])] }) (S := T65) e hp (by kernel_rfl) (by kernel_rfl) (by kernel_rfl)

noncomputable def T66 (call : CallFn) (n : Nat) (K : Kont) : Sp := {
  pt := fun β j => ifF j 4001 (pA1 (p66_4001 call n) K) <| noP
  fs := fun β j => noP
  rd := fun β j => noP
  lp := fun β j m => noP }
@[irreducible] noncomputable def A66 : AFun := (compFn Tryz.prog Tryz.f66).getD ⟨0, [], .skip⟩
noncomputable def w66 : Sh := shW 1 fun call n K => pA1 (s66 call n) K
theorem w66_ok {E : Env} (e : E.code 66 = some A66) (hp : E.prim 66 = none) : ShOK E 66 w66 := shW_ok (A := { pts := [], lps := [], cuts := [(3, [(3, 4001, [6])])] }) (S := T66) e hp (by kernel_rfl) (by kernel_rfl) (by kernel_rfl)

noncomputable def T67 (call : CallFn) (n : Nat) (K : Kont) : Sp := {
  pt := fun β j => ifF j 29 (pA4 (p67_29 call n) K) <| ifF j 40 (pA4 (p67_40 call n (pF5 (pB 0 β))) K) <| ifF j 53 (pA8 (p67_53 call n (pF5 (pB 1 β)) (pF8 (pB 0 β))) K) <| ifF j 76 (pA11 (p67_76 call n (pF5 (pB 2 β)) (pF8 (pB 1 β)) (pF11 (pB 0 β))) K) <| ifF j 77 (pA8 (p67_77 call n (pF5 (pB 1 β)) (pF8 (pB 0 β))) K) <| ifF j 78 (pA3 (p67_78 call n) K) <| ifF j 82001 (pA1 (p67_82001 call n) K) <| noP
  fs := fun β j => noP
  rd := fun β j => ifF j 12 (pA7 (b67_12 call n (pF7 (pB 0 β))) K) <| ifF j 33 (pA5 (b67_33 call n (pF5 (pB 0 β))) K) <| ifF j 46 (pA8 (b67_46 call n (pF5 (pB 1 β)) (pF8 (pB 0 β))) K) <| ifF j 60 (pA11 (b67_60 call n (pF5 (pB 2 β)) (pF8 (pB 1 β)) (pF11 (pB 0 β))) K) <| noP
  lp := fun β j m => ifL j 12 (pC7 (l67_12 call n m) K) <| ifL j 33 (pC5 (l67_33 call n m) K) <| ifL j 46 (pC8 (l67_46 call n (pF5 (pB 0 β)) m) K) <| ifL j 60 (pC11 (l67_60 call n (pF5 (pB 1 β)) (pF8 (pB 0 β)) m) K) <| noP }
@[irreducible] noncomputable def A67 : AFun := (compFn Tryz.prog Tryz.f67).getD ⟨0, [], .skip⟩
noncomputable def w67 : Sh := shW 1 fun call n K => pA1 (s67 call n) K
theorem w67_ok {E : Env} (e : E.code 67 = some A67) (hp : E.prim 67 = none) : ShOK E 67 w67 := shW_ok (A := { pts := [(29, [1, 4, 5, 6]), (40, [1, 4, 5, 6]), (53, [1, 4, 5, 6, 9, 50, 51, 52]), (76, [1, 4, 5, 6, 9, 11, 50, 51, 52, 56, 57]), (77, [1, 4, 5, 6, 9, 50, 51, 52]), (78, [1, 4, 6])], lps := [(12, [1, 4, 5, 6, 26, 27, 28]), (33, [1, 4, 5, 6, 9]), (46, [1, 4, 5, 6, 9, 50, 51, 52]), (60, [1, 4, 5, 6, 9, 11, 50, 51, 52, 56, 57])], cuts := [(81, [(3, 82001, [90])])] }) (S := T67) e hp (by kernel_rfl) (by kernel_rfl) (by kernel_rfl)

noncomputable def T68 (call : CallFn) (n : Nat) (K : Kont) : Sp := {
  pt := fun β j => ifF j 6001 (pA2 (p68_6001 call n) K) <| noP
  fs := fun β j => noP
  rd := fun β j => noP
  lp := fun β j m => noP }
@[irreducible] noncomputable def A68 : AFun := (compFn Tryz.prog Tryz.f68).getD ⟨0, [], .skip⟩
noncomputable def w68 : Sh := shW 1 fun call n K => pA1 (s68 call n) K
theorem w68_ok {E : Env} (e : E.code 68 = some A68) (hp : E.prim 68 = none) : ShOK E 68 w68 := shW_ok (A := { pts := [], lps := [], cuts := [(5, [(3, 6001, [4, 10])])] }) (S := T68) e hp (by kernel_rfl) (by kernel_rfl) (by kernel_rfl)

@[irreducible] noncomputable def A70 : AFun := (compFn Tryz.prog Tryz.f70).getD ⟨0, [], .skip⟩
noncomputable def w70 : Sh := shW 1 fun call n K => pA1 (s70 call n) K
theorem w70_ok {E : Env} (e : E.code 70 = some A70) (hp : E.prim 70 = none) : ShOK E 70 w70 := shW_ok (A := { pts := [], lps := [] }) (S := noS) e hp (by kernel_rfl) (by kernel_rfl) (by kernel_rfl)

noncomputable def T71 (call : CallFn) (n : Nat) (K : Kont) : Sp := {
  pt := fun β j => ifF j 12001 (pA1 (p71_12001 call n) K) <| noP
  fs := fun β j => noP
  rd := fun β j => noP
  lp := fun β j m => noP }
@[irreducible] noncomputable def A71 : AFun := (compFn Tryz.prog Tryz.f71).getD ⟨0, [], .skip⟩
noncomputable def w71 : Sh := shW 2 fun call n K => pA2 (s71 call n) K
theorem w71_ok {E : Env} (e : E.code 71 = some A71) (hp : E.prim 71 = none) : ShOK E 71 w71 := shW_ok (A := { pts := [], lps := [], cuts := [(11, [(3, 12001, [14])])] }) (S := T71) e hp (by kernel_rfl) (by kernel_rfl) (by kernel_rfl)

noncomputable def T72 (call : CallFn) (n : Nat) (K : Kont) : Sp := {
  pt := fun β j => ifF j 27 (pA1 (p72_27 call n) K) <| noP
  fs := fun β j => noP
  rd := fun β j => ifF j 10 (pA5 (b72_10 call n (pF5 (pB 0 β))) K) <| noP
  lp := fun β j m => ifL j 10 (pC5 (l72_10 call n m) K) <| noP }
@[irreducible] noncomputable def A72 : AFun := (compFn Tryz.prog Tryz.f72).getD ⟨0, [], .skip⟩
noncomputable def w72 : Sh := shW 1 fun call n K => pA1 (s72 call n) K
theorem w72_ok {E : Env} (e : E.code 72 = some A72) (hp : E.prim 72 = none) : ShOK E 72 w72 := shW_ok (A := { pts := [(27, [3])], lps := [(10, [3, 4, 9, 10, 11])] }) (S := T72) e hp (by kernel_rfl) (by kernel_rfl) (by kernel_rfl)

noncomputable def T73 (call : CallFn) (n : Nat) (K : Kont) : Sp := {
  pt := fun β j => ifF j 20001 (pA5 (p73_20001 call n (pF4 (pB 0 β))) K) <| noP
  fs := fun β j => noP
  rd := fun β j => ifF j 8 (pA4 (b73_8 call n (pF4 (pB 0 β))) K) <| noP
  lp := fun β j m => ifL j 8 (pC4 (l73_8 call n m) K) <| noP }
@[irreducible] noncomputable def A73 : AFun := (compFn Tryz.prog Tryz.f73).getD ⟨0, [], .skip⟩
noncomputable def w73 : Sh := shW 1 fun call n K => pA1 (s73 call n) K
theorem w73_ok {E : Env} (e : E.code 73 = some A73) (hp : E.prim 73 = none) : ShOK E 73 w73 := shW_ok (A := { pts := [], lps := [(8, [3, 6, 7, 8])], cuts := [(19, [(3, 20001, [6, 7, 8, 12, 14])])] }) (S := T73) e hp (by kernel_rfl) (by kernel_rfl) (by kernel_rfl)

@[irreducible] noncomputable def A75 : AFun := (compFn Tryz.prog Tryz.f75).getD ⟨0, [], .skip⟩
noncomputable def w75 : Sh := shW 1 fun call n K => pA1 (s75 call n) K
theorem w75_ok {E : Env} (e : E.code 75 = some A75) (hp : E.prim 75 = none) : ShOK E 75 w75 := shW_ok (A := { pts := [], lps := [] }) (S := noS) e hp (by kernel_rfl) (by kernel_rfl) (by kernel_rfl)

noncomputable def T76 (call : CallFn) (n : Nat) (K : Kont) : Sp := {
  pt := fun β j => ifF j 22 (pA2 (p76_22 call n) K) <| noP
  fs := fun β j => noP
  rd := fun β j => noP
  lp := fun β j m => noP }
@[irreducible] noncomputable def A76 : AFun := (compFn Tryz.prog Tryz.f76).getD ⟨0, [], .skip⟩
noncomputable def w76 : Sh := shW 2 fun call n K => pA2 (s76 call n) K
theorem w76_ok {E : Env} (e : E.code 76 = some A76) (hp : E.prim 76 = none) : ShOK E 76 w76 := shW_ok (A := { pts := [(22, [0, 8])], lps := [] }) (S := T76) e hp (by kernel_rfl) (by kernel_rfl) (by kernel_rfl)

@[irreducible] noncomputable def A77 : AFun := (compFn Tryz.prog Tryz.f77).getD ⟨0, [], .skip⟩
noncomputable def w77 : Sh := shW 1 fun call n K => pA1 (s77 call n) K
theorem w77_ok {E : Env} (e : E.code 77 = some A77) (hp : E.prim 77 = none) : ShOK E 77 w77 := shW_ok (A := { pts := [], lps := [] }) (S := noS) e hp (by kernel_rfl) (by kernel_rfl) (by kernel_rfl)

noncomputable def T78 (call : CallFn) (n : Nat) (K : Kont) : Sp := {
  pt := fun β j => ifF j 29 (pA2 (p78_29 call n) K) <| ifF j 50 (pA2 (p78_50 call n) K) <| noP
  fs := fun β j => noP
  rd := fun β j => ifF j 14 (pA5 (b78_14 call n (pF5 (pB 0 β))) K) <| ifF j 37 (pA5 (b78_37 call n (pF5 (pB 0 β))) K) <| ifF j 57 (pA4 (b78_57 call n (pF4 (pB 0 β))) K) <| noP
  lp := fun β j m => ifL j 14 (pC5 (l78_14 call n m) K) <| ifL j 37 (pC5 (l78_37 call n m) K) <| ifL j 57 (pC4 (l78_57 call n m) K) <| noP }
@[irreducible] noncomputable def A78 : AFun := (compFn Tryz.prog Tryz.f78).getD ⟨0, [], .skip⟩
noncomputable def w78 : Sh := shW 2 fun call n K => pA2 (s78 call n) K
theorem w78_ok {E : Env} (e : E.code 78 = some A78) (hp : E.prim 78 = none) : ShOK E 78 w78 := shW_ok (A := { pts := [(29, [0, 3]), (50, [0, 3])], lps := [(14, [0, 3, 35, 36, 37]), (37, [0, 3, 62, 63, 64]), (57, [0, 83, 84, 85])] }) (S := T78) e hp (by kernel_rfl) (by kernel_rfl) (by kernel_rfl)

@[irreducible] noncomputable def A79 : AFun := (compFn Tryz.prog Tryz.f79).getD ⟨0, [], .skip⟩
noncomputable def w79 : Sh := shW 1 fun call n K => pA1 (s79 call n) K
theorem w79_ok {E : Env} (e : E.code 79 = some A79) (hp : E.prim 79 = none) : ShOK E 79 w79 := shW_ok (A := { pts := [], lps := [] }) (S := noS) e hp (by kernel_rfl) (by kernel_rfl) (by kernel_rfl)

noncomputable def T80 (call : CallFn) (n : Nat) (K : Kont) : Sp := {
  pt := fun β j => noP
  fs := fun β j => noP
  rd := fun β j => ifF j 6 (pA4 (b80_6 call n (pF4 (pB 0 β))) K) <| noP
  lp := fun β j m => ifL j 6 (pC4 (l80_6 call n m) K) <| noP }
@[irreducible] noncomputable def A80 : AFun := (compFn Tryz.prog Tryz.f80).getD ⟨0, [], .skip⟩
noncomputable def w80 : Sh := shW 2 fun call n K => pA2 (s80 call n) K
theorem w80_ok {E : Env} (e : E.code 80 = some A80) (hp : E.prim 80 = none) : ShOK E 80 w80 := shW_ok (A := { pts := [], lps := [(6, [0, 1, 7, 8])] }) (S := T80) e hp (by kernel_rfl) (by kernel_rfl) (by kernel_rfl)

@[irreducible] noncomputable def A81 : AFun := (compFn Tryz.prog Tryz.f81).getD ⟨0, [], .skip⟩
noncomputable def w81 : Sh := shW 2 fun call n K => pA2 (s81 call n) K
theorem w81_ok {E : Env} (e : E.code 81 = some A81) (hp : E.prim 81 = none) : ShOK E 81 w81 := shW_ok (A := { pts := [], lps := [] }) (S := noS) e hp (by kernel_rfl) (by kernel_rfl) (by kernel_rfl)

noncomputable def T82 (call : CallFn) (n : Nat) (K : Kont) : Sp := {
  pt := fun β j => ifF j 19 (pA3 (p82_19 call n) K) <| ifF j 38 (pA1 (p82_38 call n) K) <| noP
  fs := fun β j => noP
  rd := fun β j => ifF j 8 (pA3 (b82_8 call n (pF3 (pB 0 β))) K) <| ifF j 25 (pA5 (b82_25 call n (pF5 (pB 0 β))) K) <| noP
  lp := fun β j m => ifL j 8 (pC3 (l82_8 call n m) K) <| ifL j 25 (pC5 (l82_25 call n m) K) <| noP }
@[irreducible] noncomputable def A82 : AFun := (compFn Tryz.prog Tryz.f82).getD ⟨0, [], .skip⟩
noncomputable def w82 : Sh := shW 3 fun call n K => pA3 (s82 call n) K
theorem w82_ok {E : Env} (e : E.code 82 = some A82) (hp : E.prim 82 = none) : ShOK E 82 w82 := shW_ok (A := { pts := [(19, [0, 2, 5]), (38, [5])], lps := [(8, [0, 2, 5]), (25, [2, 5, 78, 79, 80])] }) (S := T82) e hp (by kernel_rfl) (by kernel_rfl) (by kernel_rfl)

@[irreducible] noncomputable def A83 : AFun := (compFn Tryz.prog Tryz.f83).getD ⟨0, [], .skip⟩
noncomputable def w83 : Sh := shW 1 fun call n K => pA1 (s83 call n) K
theorem w83_ok {E : Env} (e : E.code 83 = some A83) (hp : E.prim 83 = none) : ShOK E 83 w83 := shW_ok (A := { pts := [], lps := [] }) (S := noS) e hp (by kernel_rfl) (by kernel_rfl) (by kernel_rfl)

@[irreducible] noncomputable def A84 : AFun := (compFn Tryz.prog Tryz.f84).getD ⟨0, [], .skip⟩
noncomputable def w84 : Sh := shW 1 fun call n K => pA1 (s84 call n) K
theorem w84_ok {E : Env} (e : E.code 84 = some A84) (hp : E.prim 84 = none) : ShOK E 84 w84 := shW_ok (A := { pts := [], lps := [] }) (S := noS) e hp (by kernel_rfl) (by kernel_rfl) (by kernel_rfl)

noncomputable def T85 (call : CallFn) (n : Nat) (K : Kont) : Sp := {
  pt := fun β j => noP
  fs := fun β j => noP
  rd := fun β j => ifF j 6 (pA4 (b85_6 call n (pF4 (pB 0 β))) K) <| noP
  lp := fun β j m => ifL j 6 (pC4 (l85_6 call n m) K) <| noP }
@[irreducible] noncomputable def A85 : AFun := (compFn Tryz.prog Tryz.f85).getD ⟨0, [], .skip⟩
noncomputable def w85 : Sh := shW 2 fun call n K => pA2 (s85 call n) K
theorem w85_ok {E : Env} (e : E.code 85 = some A85) (hp : E.prim 85 = none) : ShOK E 85 w85 := shW_ok (A := { pts := [], lps := [(6, [0, 1, 7, 8])] }) (S := T85) e hp (by kernel_rfl) (by kernel_rfl) (by kernel_rfl)

noncomputable def T86 (call : CallFn) (n : Nat) (K : Kont) : Sp := {
  pt := fun β j => noP
  fs := fun β j => noP
  rd := fun β j => ifF j 6 (pA4 (b86_6 call n (pF4 (pB 0 β))) K) <| noP
  lp := fun β j m => ifL j 6 (pC4 (l86_6 call n m) K) <| noP }
@[irreducible] noncomputable def A86 : AFun := (compFn Tryz.prog Tryz.f86).getD ⟨0, [], .skip⟩
noncomputable def w86 : Sh := shW 2 fun call n K => pA2 (s86 call n) K
theorem w86_ok {E : Env} (e : E.code 86 = some A86) (hp : E.prim 86 = none) : ShOK E 86 w86 := shW_ok (A := { pts := [], lps := [(6, [0, 1, 7, 8])] }) (S := T86) e hp (by kernel_rfl) (by kernel_rfl) (by kernel_rfl)

@[irreducible] noncomputable def A87 : AFun := (compFn Tryz.prog Tryz.f87).getD ⟨0, [], .skip⟩
noncomputable def w87 : Sh := shW 1 fun call n K => pA1 (s87 call n) K
theorem w87_ok {E : Env} (e : E.code 87 = some A87) (hp : E.prim 87 = none) : ShOK E 87 w87 := shW_ok (A := { pts := [], lps := [] }) (S := noS) e hp (by kernel_rfl) (by kernel_rfl) (by kernel_rfl)

@[irreducible] noncomputable def A89 : AFun := (compFn Tryz.prog Tryz.f89).getD ⟨0, [], .skip⟩
noncomputable def w89 : Sh := shW 1 fun call n K => pA1 (s89 call n) K
theorem w89_ok {E : Env} (e : E.code 89 = some A89) (hp : E.prim 89 = none) : ShOK E 89 w89 := shW_ok (A := { pts := [], lps := [] }) (S := noS) e hp (by kernel_rfl) (by kernel_rfl) (by kernel_rfl)

@[irreducible] noncomputable def A90 : AFun := (compFn Tryz.prog Tryz.f90).getD ⟨0, [], .skip⟩
noncomputable def w90 : Sh := shW 2 fun call n K => pA2 (s90 call n) K
theorem w90_ok {E : Env} (e : E.code 90 = some A90) (hp : E.prim 90 = none) : ShOK E 90 w90 := shW_ok (A := { pts := [], lps := [] }) (S := noS) e hp (by kernel_rfl) (by kernel_rfl) (by kernel_rfl)

noncomputable def T91 (call : CallFn) (n : Nat) (K : Kont) : Sp := {
  pt := fun β j => ifF j 156 (pA1 (p91_156 call n) K) <| noP
  fs := fun β j => noP
  rd := fun β j => noP
  lp := fun β j m => noP }
@[irreducible] noncomputable def A91 : AFun := (compFn Tryz.prog Tryz.f91).getD ⟨0, [], .skip⟩
noncomputable def w91 : Sh := shW 1 fun call n K => pA1 (s91 call n) K
theorem w91_ok {E : Env} (e : E.code 91 = some A91) (hp : E.prim 91 = none) : ShOK E 91 w91 := shW_ok (A := { pts := [(156, [4])], lps := [] }) (S := T91) e hp (by kernel_rfl) (by kernel_rfl) (by kernel_rfl)

@[irreducible] noncomputable def A92 : AFun := (compFn Tryz.prog Tryz.f92).getD ⟨0, [], .skip⟩
noncomputable def w92 : Sh := shW 1 fun call n K => pA1 (s92 call n) K
theorem w92_ok {E : Env} (e : E.code 92 = some A92) (hp : E.prim 92 = none) : ShOK E 92 w92 := shW_ok (A := { pts := [], lps := [] }) (S := noS) e hp (by kernel_rfl) (by kernel_rfl) (by kernel_rfl)

@[irreducible] noncomputable def A93 : AFun := (compFn Tryz.prog Tryz.f93).getD ⟨0, [], .skip⟩
noncomputable def w93 : Sh := shW 2 fun call n K => pA2 (s93 call n) K
theorem w93_ok {E : Env} (e : E.code 93 = some A93) (hp : E.prim 93 = none) : ShOK E 93 w93 := shW_ok (A := { pts := [], lps := [] }) (S := noS) e hp (by kernel_rfl) (by kernel_rfl) (by kernel_rfl)

noncomputable def T94 (call : CallFn) (n : Nat) (K : Kont) : Sp := {
  pt := fun β j => ifF j 4001 (pA2 (p94_4001 call n) K) <| noP
  fs := fun β j => noP
  rd := fun β j => noP
  lp := fun β j m => noP }
@[irreducible] noncomputable def A94 : AFun := (compFn Tryz.prog Tryz.f94).getD ⟨0, [], .skip⟩
noncomputable def w94 : Sh := shW 2 fun call n K => pA2 (s94 call n) K
theorem w94_ok {E : Env} (e : E.code 94 = some A94) (hp : E.prim 94 = none) : ShOK E 94 w94 := shW_ok (A := { pts := [], lps := [], cuts := [(3, [(2, 4001, [1, 6])])] }) (S := T94) e hp (by kernel_rfl) (by kernel_rfl) (by kernel_rfl)

noncomputable def T96 (call : CallFn) (n : Nat) (K : Kont) : Sp := {
  pt := fun β j => ifF j 9001 (pA2 (p96_9001 call n) K) <| ifF j 15001 (pA2 (p96_15001 call n) K) <| ifF j 23001 (pA3 (p96_23001 call n) K) <| ifF j 27001 (pA4 (p96_27001 call n) K) <| ifF j 37001 (pA2 (p96_37001 call n) K) <| ifF j 45001 (pA3 (p96_45001 call n) K) <| ifF j 55001 (pA2 (p96_55001 call n) K) <| ifF j 61001 (pA2 (p96_61001 call n) K) <| ifF j 64001 (pA3 (p96_64001 call n) K) <| ifF j 64002 (pA4 (p96_64002 call n) K) <| ifF j 67001 (pA3 (p96_67001 call n) K) <| ifF j 71001 (pA3 (p96_71001 call n) K) <| ifF j 77001 (pA2 (p96_77001 call n) K) <| noP
  fs := fun β j => noP
  rd := fun β j => noP
  lp := fun β j m => noP }
@[irreducible] noncomputable def A96 : AFun := (compFn Tryz.prog Tryz.f96).getD ⟨0, [], .skip⟩
noncomputable def w96 : Sh := shW 1 fun call n K => pA1 (s96 call n) K
theorem w96_ok {E : Env} (e : E.code 96 = some A96) (hp : E.prim 96 = none) : ShOK E 96 w96 := shW_ok (A := { pts := [], lps := [], cuts := [(8, [(2, 9001, [2, 10])]), (14, [(2, 15001, [2, 16])]), (22, [(3, 23001, [0, 2, 25])]), (26, [(3, 27001, [0, 2, 3, 32])]), (36, [(2, 37001, [2, 41])]), (44, [(2, 45001, [0, 2, 48])]), (54, [(2, 55001, [2, 57])]), (60, [(2, 61001, [2, 62])]), (63, [(2, 64001, [0, 2, 65]), (3, 64002, [0, 2, 66, 68])]), (66, [(2, 67001, [0, 2, 72])]), (70, [(2, 71001, [2, 5, 78])]), (76, [(2, 77001, [2, 82])])] }) (S := T96) e hp (by kernel_rfl) (by kernel_rfl) (by kernel_rfl)

@[irreducible] noncomputable def A100 : AFun := (compFn Tryz.prog Tryz.f100).getD ⟨0, [], .skip⟩
noncomputable def w100 : Sh := shW 2 fun call n K => pA2 (s100 call n) K
theorem w100_ok {E : Env} (e : E.code 100 = some A100) (hp : E.prim 100 = none) : ShOK E 100 w100 := shW_ok (A := { pts := [], lps := [] }) (S := noS) e hp (by kernel_rfl) (by kernel_rfl) (by kernel_rfl)

noncomputable def T101 (call : CallFn) (n : Nat) (K : Kont) : Sp := {
  pt := fun β j => ifF j 19 (pA2 (p101_19 call n) K) <| ifF j 36 (pA2 (p101_36 call n) K) <| noP
  fs := fun β j => noP
  rd := fun β j => ifF j 6 (pA5 (b101_6 call n (pF5 (pB 0 β))) K) <| ifF j 23 (pA5 (b101_23 call n (pF5 (pB 0 β))) K) <| ifF j 39 (pA4 (b101_39 call n (pF4 (pB 0 β))) K) <| noP
  lp := fun β j m => ifL j 6 (pC5 (l101_6 call n m) K) <| ifL j 23 (pC5 (l101_23 call n m) K) <| ifL j 39 (pC4 (l101_39 call n m) K) <| noP }
@[irreducible] noncomputable def A101 : AFun := (compFn Tryz.prog Tryz.f101).getD ⟨0, [], .skip⟩
noncomputable def w101 : Sh := shW 2 fun call n K => pA2 (s101 call n) K
theorem w101_ok {E : Env} (e : E.code 101 = some A101) (hp : E.prim 101 = none) : ShOK E 101 w101 := shW_ok (A := { pts := [(19, [0, 3]), (36, [0, 3])], lps := [(6, [0, 3, 11, 12, 13]), (23, [0, 3, 22, 23, 24]), (39, [0, 33, 34, 35])] }) (S := T101) e hp (by kernel_rfl) (by kernel_rfl) (by kernel_rfl)

noncomputable def T102 (call : CallFn) (n : Nat) (K : Kont) : Sp := {
  pt := fun β j => ifF j 4001 (pA3 (p102_4001 call n) K) <| ifF j 16001 (pA3 (p102_16001 call n) K) <| noP
  fs := fun β j => noP
  rd := fun β j => noP
  lp := fun β j m => noP }
@[irreducible] noncomputable def A102 : AFun := (compFn Tryz.prog Tryz.f102).getD ⟨0, [], .skip⟩
noncomputable def w102 : Sh := shW 1 fun call n K => pA1 (s102 call n) K
theorem w102_ok {E : Env} (e : E.code 102 = some A102) (hp : E.prim 102 = none) : ShOK E 102 w102 := shW_ok (A := { pts := [], lps := [], cuts := [(3, [(2, 4001, [0, 2, 10])]), (15, [(5, 16001, [2, 7, 22])])] }) (S := T102) e hp (by kernel_rfl) (by kernel_rfl) (by kernel_rfl)

noncomputable def T103 (call : CallFn) (n : Nat) (K : Kont) : Sp := {
  pt := fun β j => ifF j 4001 (pA3 (p103_4001 call n) K) <| ifF j 4002 (pA4 (p103_4002 call n) K) <| ifF j 4003 (pA2 (p103_4003 call n) K) <| noP
  fs := fun β j => noP
  rd := fun β j => noP
  lp := fun β j m => noP }
@[irreducible] noncomputable def A103 : AFun := (compFn Tryz.prog Tryz.f103).getD ⟨0, [], .skip⟩
noncomputable def w103 : Sh := shW 2 fun call n K => pA2 (s103 call n) K
theorem w103_ok {E : Env} (e : E.code 103 = some A103) (hp : E.prim 103 = none) : ShOK E 103 w103 := shW_ok (A := { pts := [], lps := [], cuts := [(3, [(5, 4001, [2, 3, 9]), (6, 4002, [2, 3, 10, 15]), (7, 4003, [17, 22])])] }) (S := T103) e hp (by kernel_rfl) (by kernel_rfl) (by kernel_rfl)

@[irreducible] noncomputable def A104 : AFun := (compFn Tryz.prog Tryz.f104).getD ⟨0, [], .skip⟩
noncomputable def w104 : Sh := shW 1 fun call n K => pA1 (s104 call n) K
theorem w104_ok {E : Env} (e : E.code 104 = some A104) (hp : E.prim 104 = none) : ShOK E 104 w104 := shW_ok (A := { pts := [], lps := [] }) (S := noS) e hp (by kernel_rfl) (by kernel_rfl) (by kernel_rfl)

noncomputable def T105 (call : CallFn) (n : Nat) (K : Kont) : Sp := {
  pt := fun β j => ifF j 4001 (pA3 (p105_4001 call n) K) <| noP
  fs := fun β j => noP
  rd := fun β j => noP
  lp := fun β j m => noP }
@[irreducible] noncomputable def A105 : AFun := (compFn Tryz.prog Tryz.f105).getD ⟨0, [], .skip⟩
noncomputable def w105 : Sh := shW 2 fun call n K => pA2 (s105 call n) K
theorem w105_ok {E : Env} (e : E.code 105 = some A105) (hp : E.prim 105 = none) : ShOK E 105 w105 := shW_ok (A := { pts := [], lps := [], cuts := [(3, [(3, 4001, [0, 1, 8])])] }) (S := T105) e hp (by kernel_rfl) (by kernel_rfl) (by kernel_rfl)

@[irreducible] noncomputable def A106 : AFun := (compFn Tryz.prog Tryz.f106).getD ⟨0, [], .skip⟩
noncomputable def w106 : Sh := shW 2 fun call n K => pA2 (s106 call n) K
theorem w106_ok {E : Env} (e : E.code 106 = some A106) (hp : E.prim 106 = none) : ShOK E 106 w106 := shW_ok (A := { pts := [], lps := [] }) (S := noS) e hp (by kernel_rfl) (by kernel_rfl) (by kernel_rfl)

@[irreducible] noncomputable def A107 : AFun := (compFn Tryz.prog Tryz.f107).getD ⟨0, [], .skip⟩
noncomputable def w107 : Sh := shW 2 fun call n K => pA2 (s107 call n) K
theorem w107_ok {E : Env} (e : E.code 107 = some A107) (hp : E.prim 107 = none) : ShOK E 107 w107 := shW_ok (A := { pts := [], lps := [] }) (S := noS) e hp (by kernel_rfl) (by kernel_rfl) (by kernel_rfl)

@[irreducible] noncomputable def A108 : AFun := (compFn Tryz.prog Tryz.f108).getD ⟨0, [], .skip⟩
noncomputable def w108 : Sh := shW 1 fun call n K => pA1 (s108 call n) K
theorem w108_ok {E : Env} (e : E.code 108 = some A108) (hp : E.prim 108 = none) : ShOK E 108 w108 := shW_ok (A := { pts := [], lps := [] }) (S := noS) e hp (by kernel_rfl) (by kernel_rfl) (by kernel_rfl)

noncomputable def T109 (call : CallFn) (n : Nat) (K : Kont) : Sp := {
  pt := fun β j => ifF j 25 (pA2 (p109_25 call n) K) <| ifF j 19001 (pA8 (p109_19001 call n (pF6 (pB 0 β))) K) <| ifF j 42001 (pA6 (p109_42001 call n (pF4 (pB 0 β))) K) <| noP
  fs := fun β j => noP
  rd := fun β j => ifF j 6 (pA6 (b109_6 call n (pF6 (pB 0 β))) K) <| ifF j 29 (pA4 (b109_29 call n (pF4 (pB 0 β))) K) <| noP
  lp := fun β j m => ifL j 6 (pC6 (l109_6 call n m) K) <| ifL j 29 (pC4 (l109_29 call n m) K) <| noP }
@[irreducible] noncomputable def A109 : AFun := (compFn Tryz.prog Tryz.f109).getD ⟨0, [], .skip⟩
noncomputable def w109 : Sh := shW 3 fun call n K => pA3 (s109 call n) K
theorem w109_ok {E : Env} (e : E.code 109 = some A109) (hp : E.prim 109 = none) : ShOK E 109 w109 := shW_ok (A := { pts := [(25, [0, 2])], lps := [(6, [0, 1, 2, 16, 17, 18]), (29, [2, 33, 34, 35])], cuts := [(18, [(3, 19001, [0, 1, 2, 9, 16, 17, 18, 24])]), (41, [(3, 42001, [2, 11, 33, 34, 35, 41])])] }) (S := T109) e hp (by kernel_rfl) (by kernel_rfl) (by kernel_rfl)

@[irreducible] noncomputable def A110 : AFun := (compFn Tryz.prog Tryz.f110).getD ⟨0, [], .skip⟩
noncomputable def w110 : Sh := shW 3 fun call n K => pA3 (s110 call n) K
theorem w110_ok {E : Env} (e : E.code 110 = some A110) (hp : E.prim 110 = none) : ShOK E 110 w110 := shW_ok (A := { pts := [], lps := [] }) (S := noS) e hp (by kernel_rfl) (by kernel_rfl) (by kernel_rfl)

@[irreducible] noncomputable def A114 : AFun := (compFn Tryz.prog Tryz.f114).getD ⟨0, [], .skip⟩
noncomputable def w114 : Sh := shW 2 fun call n K => pA2 (s114 call n) K
theorem w114_ok {E : Env} (e : E.code 114 = some A114) (hp : E.prim 114 = none) : ShOK E 114 w114 := shW_ok (A := { pts := [], lps := [] }) (S := noS) e hp (by kernel_rfl) (by kernel_rfl) (by kernel_rfl)

@[irreducible] noncomputable def A116 : AFun := (compFn Tryz.prog Tryz.f116).getD ⟨0, [], .skip⟩
noncomputable def w116 : Sh := shW 2 fun call n K => pA2 (s116 call n) K
theorem w116_ok {E : Env} (e : E.code 116 = some A116) (hp : E.prim 116 = none) : ShOK E 116 w116 := shW_ok (A := { pts := [], lps := [] }) (S := noS) e hp (by kernel_rfl) (by kernel_rfl) (by kernel_rfl)

noncomputable def T117 (call : CallFn) (n : Nat) (K : Kont) : Sp := {
  pt := fun β j => noP
  fs := fun β j => noP
  rd := fun β j => ifF j 8 (pA5 (b117_8 call n (pF5 (pB 0 β))) K) <| noP
  lp := fun β j m => ifL j 8 (pC5 (l117_8 call n m) K) <| noP }
@[irreducible] noncomputable def A117 : AFun := (compFn Tryz.prog Tryz.f117).getD ⟨0, [], .skip⟩
noncomputable def w117 : Sh := shW 3 fun call n K => pA3 (s117 call n) K
theorem w117_ok {E : Env} (e : E.code 117 = some A117) (hp : E.prim 117 = none) : ShOK E 117 w117 := shW_ok (A := { pts := [], lps := [(8, [0, 2, 11, 12, 13])] }) (S := T117) e hp (by kernel_rfl) (by kernel_rfl) (by kernel_rfl)

@[irreducible] noncomputable def A121 : AFun := (compFn Tryz.prog Tryz.f121).getD ⟨0, [], .skip⟩
noncomputable def w121 : Sh := shW 2 fun call n K => pA2 (s121 call n) K
theorem w121_ok {E : Env} (e : E.code 121 = some A121) (hp : E.prim 121 = none) : ShOK E 121 w121 := shW_ok (A := { pts := [], lps := [] }) (S := noS) e hp (by kernel_rfl) (by kernel_rfl) (by kernel_rfl)

noncomputable def T122 (call : CallFn) (n : Nat) (K : Kont) : Sp := {
  pt := fun β j => noP
  fs := fun β j => noP
  rd := fun β j => ifF j 5 (pA5 (b122_5 call n (pF5 (pB 0 β))) K) <| noP
  lp := fun β j m => ifL j 5 (pC5 (l122_5 call n m) K) <| noP }
@[irreducible] noncomputable def A122 : AFun := (compFn Tryz.prog Tryz.f122).getD ⟨0, [], .skip⟩
noncomputable def w122 : Sh := shW 2 fun call n K => pA2 (s122 call n) K
theorem w122_ok {E : Env} (e : E.code 122 = some A122) (hp : E.prim 122 = none) : ShOK E 122 w122 := shW_ok (A := { pts := [], lps := [(5, [0, 2, 11, 12, 13])] }) (S := T122) e hp (by kernel_rfl) (by kernel_rfl) (by kernel_rfl)

@[irreducible] noncomputable def A129 : AFun := (compFn Tryz.prog Tryz.f129).getD ⟨0, [], .skip⟩
noncomputable def w129 : Sh := shW 1 fun call n K => pA1 (s129 call n) K
theorem w129_ok {E : Env} (e : E.code 129 = some A129) (hp : E.prim 129 = none) : ShOK E 129 w129 := shW_ok (A := { pts := [], lps := [] }) (S := noS) e hp (by kernel_rfl) (by kernel_rfl) (by kernel_rfl)

noncomputable def T134 (call : CallFn) (n : Nat) (K : Kont) : Sp := {
  pt := fun β j => ifF j 4001 (pA3 (p134_4001 call n) K) <| ifF j 4002 (pA2 (p134_4002 call n) K) <| noP
  fs := fun β j => noP
  rd := fun β j => noP
  lp := fun β j m => noP }
@[irreducible] noncomputable def A134 : AFun := (compFn Tryz.prog Tryz.f134).getD ⟨0, [], .skip⟩
noncomputable def w134 : Sh := shW 2 fun call n K => pA2 (s134 call n) K
theorem w134_ok {E : Env} (e : E.code 134 = some A134) (hp : E.prim 134 = none) : ShOK E 134 w134 := shW_ok (A := { pts := [], lps := [], cuts := [(3, [(3, 4001, [1, 2, 6]), (4, 4002, [8, 10])])] }) (S := T134) e hp (by kernel_rfl) (by kernel_rfl) (by kernel_rfl)

noncomputable def T135 (call : CallFn) (n : Nat) (K : Kont) : Sp := {
  pt := fun β j => ifF j 15 (pA4 (p135_15 call n (pF4 (pB 0 β))) K) <| ifF j 37 (pA4 (p135_37 call n (pF4 (pB 0 β))) K) <| ifF j 36001 (pA8 (p135_36001 call n (pF4 (pB 1 β)) (pF7 (pB 0 β))) K) <| noP
  fs := fun β j => noP
  rd := fun β j => ifF j 8 (pA4 (b135_8 call n (pF4 (pB 0 β))) K) <| ifF j 24 (pA7 (b135_24 call n (pF4 (pB 1 β)) (pF7 (pB 0 β))) K) <| noP
  lp := fun β j m => ifL j 8 (pC4 (l135_8 call n m) K) <| ifL j 24 (pC7 (l135_24 call n (pF4 (pB 0 β)) m) K) <| noP }
@[irreducible] noncomputable def A135 : AFun := (compFn Tryz.prog Tryz.f135).getD ⟨0, [], .skip⟩
noncomputable def w135 : Sh := shW 1 fun call n K => pA1 (s135 call n) K
theorem w135_ok {E : Env} (e : E.code 135 = some A135) (hp : E.prim 135 = none) : ShOK E 135 w135 := shW_ok (A := { pts := [(15, [3, 8, 9, 10]), (37, [3, 8, 9, 10])], lps := [(8, [3, 8, 9, 10]), (24, [3, 8, 9, 10, 25, 26, 27])], cuts := [(35, [(3, 36001, [8, 9, 10, 25, 26, 27, 31, 33])])] }) (S := T135) e hp (by kernel_rfl) (by kernel_rfl) (by kernel_rfl)

@[irreducible] noncomputable def A136 : AFun := (compFn Tryz.prog Tryz.f136).getD ⟨0, [], .skip⟩
noncomputable def w136 : Sh := shW 2 fun call n K => pA2 (s136 call n) K
theorem w136_ok {E : Env} (e : E.code 136 = some A136) (hp : E.prim 136 = none) : ShOK E 136 w136 := shW_ok (A := { pts := [], lps := [] }) (S := noS) e hp (by kernel_rfl) (by kernel_rfl) (by kernel_rfl)

noncomputable def T137 (call : CallFn) (n : Nat) (K : Kont) : Sp := {
  pt := fun β j => ifF j 15 (pA4 (p137_15 call n (pF4 (pB 0 β))) K) <| ifF j 36 (pA8 (p137_36 call n (pF4 (pB 1 β)) (pF8 (pB 0 β))) K) <| ifF j 58 (pA8 (p137_58 call n (pF4 (pB 1 β)) (pF8 (pB 0 β))) K) <| ifF j 60 (pA4 (p137_60 call n (pF4 (pB 0 β))) K) <| noP
  fs := fun β j => noP
  rd := fun β j => ifF j 8 (pA4 (b137_8 call n (pF4 (pB 0 β))) K) <| ifF j 29 (pA8 (b137_29 call n (pF4 (pB 1 β)) (pF8 (pB 0 β))) K) <| ifF j 43 (pA12 (b137_43 call n (pF4 (pB 2 β)) (pF8 (pB 1 β)) (pF12 (pB 0 β))) K) <| noP
  lp := fun β j m => ifL j 8 (pC4 (l137_8 call n m) K) <| ifL j 29 (pC8 (l137_29 call n (pF4 (pB 0 β)) m) K) <| ifL j 43 (pC12 (l137_43 call n (pF4 (pB 1 β)) (pF8 (pB 0 β)) m) K) <| noP }
@[irreducible] noncomputable def A137 : AFun := (compFn Tryz.prog Tryz.f137).getD ⟨0, [], .skip⟩
noncomputable def w137 : Sh := shW 1 fun call n K => pA1 (s137 call n) K
theorem w137_ok {E : Env} (e : E.code 137 = some A137) (hp : E.prim 137 = none) : ShOK E 137 w137 := shW_ok (A := { pts := [(15, [3, 13, 14, 15]), (36, [6, 7, 13, 14, 15, 28, 29, 30]), (58, [6, 7, 13, 14, 15, 28, 29, 30]), (60, [3, 13, 14, 15])], lps := [(8, [3, 13, 14, 15]), (29, [6, 7, 13, 14, 15, 28, 29, 30]), (43, [6, 7, 9, 13, 14, 15, 28, 29, 30, 34, 35, 36])] }) (S := T137) e hp (by kernel_rfl) (by kernel_rfl) (by kernel_rfl)

noncomputable def T139 (call : CallFn) (n : Nat) (K : Kont) : Sp := {
  pt := fun β j => ifF j 4001 (pA1 (p139_4001 call n) K) <| noP
  fs := fun β j => noP
  rd := fun β j => noP
  lp := fun β j m => noP }
@[irreducible] noncomputable def A139 : AFun := (compFn Tryz.prog Tryz.f139).getD ⟨0, [], .skip⟩
noncomputable def w139 : Sh := shW 2 fun call n K => pA2 (s139 call n) K
theorem w139_ok {E : Env} (e : E.code 139 = some A139) (hp : E.prim 139 = none) : ShOK E 139 w139 := shW_ok (A := { pts := [], lps := [], cuts := [(3, [(3, 4001, [7])])] }) (S := T139) e hp (by kernel_rfl) (by kernel_rfl) (by kernel_rfl)

noncomputable def T140 (call : CallFn) (n : Nat) (K : Kont) : Sp := {
  pt := fun β j => ifF j 4001 (pA3 (p140_4001 call n) K) <| ifF j 4002 (pA4 (p140_4002 call n) K) <| ifF j 4003 (pA2 (p140_4003 call n) K) <| noP
  fs := fun β j => noP
  rd := fun β j => noP
  lp := fun β j m => noP }
@[irreducible] noncomputable def A140 : AFun := (compFn Tryz.prog Tryz.f140).getD ⟨0, [], .skip⟩
noncomputable def w140 : Sh := shW 2 fun call n K => pA2 (s140 call n) K
theorem w140_ok {E : Env} (e : E.code 140 = some A140) (hp : E.prim 140 = none) : ShOK E 140 w140 := shW_ok (A := { pts := [], lps := [], cuts := [(3, [(5, 4001, [1, 2, 8]), (7, 4002, [1, 2, 10, 15]), (7, 4003, [18, 22])])] }) (S := T140) e hp (by kernel_rfl) (by kernel_rfl) (by kernel_rfl)

noncomputable def T141 (call : CallFn) (n : Nat) (K : Kont) : Sp := {
  pt := fun β j => ifF j 4001 (pA1 (p141_4001 call n) K) <| noP
  fs := fun β j => noP
  rd := fun β j => noP
  lp := fun β j m => noP }
@[irreducible] noncomputable def A141 : AFun := (compFn Tryz.prog Tryz.f141).getD ⟨0, [], .skip⟩
noncomputable def w141 : Sh := shW 2 fun call n K => pA2 (s141 call n) K
theorem w141_ok {E : Env} (e : E.code 141 = some A141) (hp : E.prim 141 = none) : ShOK E 141 w141 := shW_ok (A := { pts := [], lps := [], cuts := [(3, [(3, 4001, [7])])] }) (S := T141) e hp (by kernel_rfl) (by kernel_rfl) (by kernel_rfl)

noncomputable def T143 (call : CallFn) (n : Nat) (K : Kont) : Sp := {
  pt := fun β j => ifF j 52 (pA1 (p143_52 call n) K) <| ifF j 91 (pA1 (p143_91 call n) K) <| ifF j 11001 (pA1 (p143_11001 call n) K) <| ifF j 11002 (pA1 (p143_11002 call n) K) <| ifF j 27001 (pA1 (p143_27001 call n) K) <| ifF j 27002 (pA1 (p143_27002 call n) K) <| ifF j 33001 (pA2 (p143_33001 call n) K) <| ifF j 38001 (pA3 (p143_38001 call n) K) <| ifF j 51001 (pA6 (p143_51001 call n (pF5 (pB 0 β))) K) <| ifF j 51002 (pA6 (p143_51002 call n (pF5 (pB 0 β))) K) <| ifF j 85001 (pA5 (p143_85001 call n (pF4 (pB 0 β))) K) <| noP
  fs := fun β j => noP
  rd := fun β j => ifF j 39 (pA5 (b143_39 call n (pF5 (pB 0 β))) K) <| ifF j 72 (pA4 (b143_72 call n (pF4 (pB 0 β))) K) <| noP
  lp := fun β j m => ifL j 39 (pC5 (l143_39 call n m) K) <| ifL j 72 (pC4 (l143_72 call n m) K) <| noP }
@[irreducible] noncomputable def A143 : AFun := (compFn Tryz.prog Tryz.f143).getD ⟨0, [], .skip⟩
noncomputable def w143 : Sh := shW 1 fun call n K => pA1 (s143 call n) K
theorem w143_ok {E : Env} (e : E.code 143 = some A143) (hp : E.prim 143 = none) : ShOK E 143 w143 := shW_ok (A := { pts := [(52, [5]), (91, [1])], lps := [(39, [4, 5, 48, 49, 50]), (72, [9, 80, 81, 82])], cuts := [(10, [(3, 11001, [18]), (1, 11002, [19])]), (26, [(2, 27001, [36]), (1, 27002, [37])]), (32, [(3, 33001, [1, 44])]), (37, [(3, 38001, [4, 5, 48])]), (50, [(4, 51001, [4, 48, 49, 50, 54, 57]), (1, 51002, [4, 48, 49, 50, 54, 58])]), (84, [(3, 85001, [80, 81, 82, 86, 88])])] }) (S := T143) e hp (by kernel_rfl) (by kernel_rfl) (by kernel_rfl)

noncomputable def T144 (call : CallFn) (n : Nat) (K : Kont) : Sp := {
  pt := fun β j => ifF j 8 (pA5 (p144_8 call n) K) <| noP
  fs := fun β j => noP
  rd := fun β j => ifF j 11 (pA7 (b144_11 call n (pF7 (pB 0 β))) K) <| noP
  lp := fun β j m => ifL j 11 (pC7 (l144_11 call n m) K) <| noP }
@[irreducible] noncomputable def A144 : AFun := (compFn Tryz.prog Tryz.f144).getD ⟨0, [], .skip⟩
noncomputable def w144 : Sh := shW 5 fun call n K => pA5 (s144 call n) K
theorem w144_ok {E : Env} (e : E.code 144 = some A144) (hp : E.prim 144 = none) : ShOK E 144 w144 := shW_ok (A := { pts := [(8, [0, 1, 2, 3, 4])], lps := [(11, [0, 1, 2, 4, 20, 21, 22])] }) (S := T144) e hp (by kernel_rfl) (by kernel_rfl) (by kernel_rfl)

noncomputable def T145 (call : CallFn) (n : Nat) (K : Kont) : Sp := {
  pt := fun β j => ifF j 4001 (pA2 (p145_4001 call n) K) <| noP
  fs := fun β j => noP
  rd := fun β j => noP
  lp := fun β j m => noP }
@[irreducible] noncomputable def A145 : AFun := (compFn Tryz.prog Tryz.f145).getD ⟨0, [], .skip⟩
noncomputable def w145 : Sh := shW 2 fun call n K => pA2 (s145 call n) K
theorem w145_ok {E : Env} (e : E.code 145 = some A145) (hp : E.prim 145 = none) : ShOK E 145 w145 := shW_ok (A := { pts := [], lps := [], cuts := [(3, [(2, 4001, [1, 6])])] }) (S := T145) e hp (by kernel_rfl) (by kernel_rfl) (by kernel_rfl)

noncomputable def T146 (call : CallFn) (n : Nat) (K : Kont) : Sp := {
  pt := fun β j => ifF j 2001 (pA3 (p146_2001 call n) K) <| noP
  fs := fun β j => noP
  rd := fun β j => noP
  lp := fun β j m => noP }
@[irreducible] noncomputable def A146 : AFun := (compFn Tryz.prog Tryz.f146).getD ⟨0, [], .skip⟩
noncomputable def w146 : Sh := shW 2 fun call n K => pA2 (s146 call n) K
theorem w146_ok {E : Env} (e : E.code 146 = some A146) (hp : E.prim 146 = none) : ShOK E 146 w146 := shW_ok (A := { pts := [], lps := [], cuts := [(1, [(2, 2001, [0, 1, 4])])] }) (S := T146) e hp (by kernel_rfl) (by kernel_rfl) (by kernel_rfl)

noncomputable def T147 (call : CallFn) (n : Nat) (K : Kont) : Sp := {
  pt := fun β j => ifF j 15 (pA4 (p147_15 call n (pF4 (pB 0 β))) K) <| ifF j 37 (pA4 (p147_37 call n (pF4 (pB 0 β))) K) <| ifF j 36001 (pA8 (p147_36001 call n (pF4 (pB 1 β)) (pF7 (pB 0 β))) K) <| noP
  fs := fun β j => noP
  rd := fun β j => ifF j 8 (pA4 (b147_8 call n (pF4 (pB 0 β))) K) <| ifF j 24 (pA7 (b147_24 call n (pF4 (pB 1 β)) (pF7 (pB 0 β))) K) <| noP
  lp := fun β j m => ifL j 8 (pC4 (l147_8 call n m) K) <| ifL j 24 (pC7 (l147_24 call n (pF4 (pB 0 β)) m) K) <| noP }
@[irreducible] noncomputable def A147 : AFun := (compFn Tryz.prog Tryz.f147).getD ⟨0, [], .skip⟩
noncomputable def w147 : Sh := shW 1 fun call n K => pA1 (s147 call n) K
theorem w147_ok {E : Env} (e : E.code 147 = some A147) (hp : E.prim 147 = none) : ShOK E 147 w147 := shW_ok (A := { pts := [(15, [3, 8, 9, 10]), (37, [3, 8, 9, 10])], lps := [(8, [3, 8, 9, 10]), (24, [3, 8, 9, 10, 25, 26, 27])], cuts := [(35, [(3, 36001, [8, 9, 10, 25, 26, 27, 31, 33])])] }) (S := T147) e hp (by kernel_rfl) (by kernel_rfl) (by kernel_rfl)

noncomputable def T148 (call : CallFn) (n : Nat) (K : Kont) : Sp := {
  pt := fun β j => ifF j 27 (pA3 (p148_27 call n) K) <| ifF j 44 (pA3 (p148_44 call n) K) <| ifF j 61 (pA2 (p148_61 call n) K) <| noP
  fs := fun β j => noP
  rd := fun β j => ifF j 14 (pA6 (b148_14 call n (pF6 (pB 0 β))) K) <| ifF j 31 (pA6 (b148_31 call n (pF6 (pB 0 β))) K) <| ifF j 48 (pA5 (b148_48 call n (pF5 (pB 0 β))) K) <| noP
  lp := fun β j m => ifL j 14 (pC6 (l148_14 call n m) K) <| ifL j 31 (pC6 (l148_31 call n m) K) <| ifL j 48 (pC5 (l148_48 call n m) K) <| noP }
@[irreducible] noncomputable def A148 : AFun := (compFn Tryz.prog Tryz.f148).getD ⟨0, [], .skip⟩
noncomputable def w148 : Sh := shW 1 fun call n K => pA1 (s148 call n) K
theorem w148_ok {E : Env} (e : E.code 148 = some A148) (hp : E.prim 148 = none) : ShOK E 148 w148 := shW_ok (A := { pts := [(27, [1, 2, 3]), (44, [1, 2, 3]), (61, [2, 3])], lps := [(14, [1, 2, 3, 31, 32, 33]), (31, [1, 2, 3, 46, 47, 48]), (48, [2, 3, 65, 66, 67])] }) (S := T148) e hp (by kernel_rfl) (by kernel_rfl) (by kernel_rfl)

noncomputable def T149 (call : CallFn) (n : Nat) (K : Kont) : Sp := {
  pt := fun β j => ifF j 29 (pA1 (p149_29 call n) K) <| ifF j 31001 (pA2 (p149_31001 call n) K) <| noP
  fs := fun β j => noP
  rd := fun β j => ifF j 6 (pA3 (b149_6 call n (pF3 (pB 0 β))) K) <| noP
  lp := fun β j m => ifL j 6 (pC3 (l149_6 call n m) K) <| noP }
@[irreducible] noncomputable def A149 : AFun := (compFn Tryz.prog Tryz.f149).getD ⟨0, [], .skip⟩
noncomputable def w149 : Sh := shW 1 fun call n K => pA1 (s149 call n) K
theorem w149_ok {E : Env} (e : E.code 149 = some A149) (hp : E.prim 149 = none) : ShOK E 149 w149 := shW_ok (A := { pts := [(29, [0])], lps := [(6, [0, 7, 8])], cuts := [(30, [(11, 31001, [55, 57])])] }) (S := T149) e hp (by kernel_rfl) (by kernel_rfl) (by kernel_rfl)

@[irreducible] noncomputable def A150 : AFun := (compFn Tryz.prog Tryz.f150).getD ⟨0, [], .skip⟩
noncomputable def w150 : Sh := shW 2 fun call n K => pA2 (s150 call n) K
theorem w150_ok {E : Env} (e : E.code 150 = some A150) (hp : E.prim 150 = none) : ShOK E 150 w150 := shW_ok (A := { pts := [], lps := [] }) (S := noS) e hp (by kernel_rfl) (by kernel_rfl) (by kernel_rfl)

@[irreducible] noncomputable def A151 : AFun := (compFn Tryz.prog Tryz.f151).getD ⟨0, [], .skip⟩
noncomputable def w151 : Sh := shW 2 fun call n K => pA2 (s151 call n) K
theorem w151_ok {E : Env} (e : E.code 151 = some A151) (hp : E.prim 151 = none) : ShOK E 151 w151 := shW_ok (A := { pts := [], lps := [] }) (S := noS) e hp (by kernel_rfl) (by kernel_rfl) (by kernel_rfl)

noncomputable def T154 (call : CallFn) (n : Nat) (K : Kont) : Sp := {
  pt := fun β j => ifF j 28 (pA4 (p154_28 call n (pF4 (pB 0 β))) K) <| noP
  fs := fun β j => noP
  rd := fun β j => ifF j 8 (pA4 (b154_8 call n (pF4 (pB 0 β))) K) <| noP
  lp := fun β j m => ifL j 8 (pC4 (l154_8 call n m) K) <| noP }
@[irreducible] noncomputable def A154 : AFun := (compFn Tryz.prog Tryz.f154).getD ⟨0, [], .skip⟩
noncomputable def w154 : Sh := shW 1 fun call n K => pA1 (s154 call n) K
theorem w154_ok {E : Env} (e : E.code 154 = some A154) (hp : E.prim 154 = none) : ShOK E 154 w154 := shW_ok (A := { pts := [(28, [3, 8, 9, 10])], lps := [(8, [3, 8, 9, 10])] }) (S := T154) e hp (by kernel_rfl) (by kernel_rfl) (by kernel_rfl)

noncomputable def T155 (call : CallFn) (n : Nat) (K : Kont) : Sp := {
  pt := fun β j => noP
  fs := fun β j => noP
  rd := fun β j => ifF j 5 (pA4 (b155_5 call n (pF4 (pB 0 β))) K) <| noP
  lp := fun β j m => ifL j 5 (pC4 (l155_5 call n m) K) <| noP }
@[irreducible] noncomputable def A155 : AFun := (compFn Tryz.prog Tryz.f155).getD ⟨0, [], .skip⟩
noncomputable def w155 : Sh := shW 2 fun call n K => pA2 (s155 call n) K
theorem w155_ok {E : Env} (e : E.code 155 = some A155) (hp : E.prim 155 = none) : ShOK E 155 w155 := shW_ok (A := { pts := [], lps := [(5, [0, 11, 12, 13])] }) (S := T155) e hp (by kernel_rfl) (by kernel_rfl) (by kernel_rfl)

noncomputable def T156 (call : CallFn) (n : Nat) (K : Kont) : Sp := {
  pt := fun β j => ifF j 15001 (pA6 (p156_15001 call n (pF4 (pB 0 β))) K) <| noP
  fs := fun β j => noP
  rd := fun β j => ifF j 3 (pA4 (b156_3 call n (pF4 (pB 0 β))) K) <| noP
  lp := fun β j m => ifL j 3 (pC4 (l156_3 call n m) K) <| noP }
@[irreducible] noncomputable def A156 : AFun := (compFn Tryz.prog Tryz.f156).getD ⟨0, [], .skip⟩
noncomputable def w156 : Sh := shW 2 fun call n K => pA2 (s156 call n) K
theorem w156_ok {E : Env} (e : E.code 156 = some A156) (hp : E.prim 156 = none) : ShOK E 156 w156 := shW_ok (A := { pts := [], lps := [(3, [0, 6, 7, 8])], cuts := [(14, [(3, 15001, [0, 6, 7, 8, 12, 14])])] }) (S := T156) e hp (by kernel_rfl) (by kernel_rfl) (by kernel_rfl)

noncomputable def T157 (call : CallFn) (n : Nat) (K : Kont) : Sp := {
  pt := fun β j => ifF j 14 (pA2 (p157_14 call n) K) <| noP
  fs := fun β j => noP
  rd := fun β j => noP
  lp := fun β j m => noP }
@[irreducible] noncomputable def A157 : AFun := (compFn Tryz.prog Tryz.f157).getD ⟨0, [], .skip⟩
noncomputable def w157 : Sh := shW 2 fun call n K => pA2 (s157 call n) K
theorem w157_ok {E : Env} (e : E.code 157 = some A157) (hp : E.prim 157 = none) : ShOK E 157 w157 := shW_ok (A := { pts := [(14, [0, 1])], lps := [] }) (S := T157) e hp (by kernel_rfl) (by kernel_rfl) (by kernel_rfl)

noncomputable def T158 (call : CallFn) (n : Nat) (K : Kont) : Sp := {
  pt := fun β j => noP
  fs := fun β j => noP
  rd := fun β j => ifF j 3 (pA4 (b158_3 call n (pF4 (pB 0 β))) K) <| noP
  lp := fun β j m => ifL j 3 (pC4 (l158_3 call n m) K) <| noP }
@[irreducible] noncomputable def A158 : AFun := (compFn Tryz.prog Tryz.f158).getD ⟨0, [], .skip⟩
noncomputable def w158 : Sh := shW 2 fun call n K => pA2 (s158 call n) K
theorem w158_ok {E : Env} (e : E.code 158 = some A158) (hp : E.prim 158 = none) : ShOK E 158 w158 := shW_ok (A := { pts := [], lps := [(3, [0, 6, 7, 8])] }) (S := T158) e hp (by kernel_rfl) (by kernel_rfl) (by kernel_rfl)

noncomputable def T159 (call : CallFn) (n : Nat) (K : Kont) : Sp := {
  pt := fun β j => ifF j 10 (pA2 (p159_10 call n) K) <| ifF j 12001 (pA3 (p159_12001 call n) K) <| noP
  fs := fun β j => noP
  rd := fun β j => noP
  lp := fun β j m => noP }
@[irreducible] noncomputable def A159 : AFun := (compFn Tryz.prog Tryz.f159).getD ⟨0, [], .skip⟩
noncomputable def w159 : Sh := shW 2 fun call n K => pA2 (s159 call n) K
theorem w159_ok {E : Env} (e : E.code 159 = some A159) (hp : E.prim 159 = none) : ShOK E 159 w159 := shW_ok (A := { pts := [(10, [0, 3])], lps := [], cuts := [(11, [(3, 12001, [0, 3, 26])])] }) (S := T159) e hp (by kernel_rfl) (by kernel_rfl) (by kernel_rfl)

noncomputable def T160 (call : CallFn) (n : Nat) (K : Kont) : Sp := {
  pt := fun β j => ifF j 13001 (pA3 (p160_13001 call n (pF2 (pB 0 β))) K) <| ifF j 27001 (pA3 (p160_27001 call n (pF2 (pB 0 β))) K) <| noP
  fs := fun β j => noP
  rd := fun β j => ifF j 1 (pA2 (b160_1 call n (pF2 (pB 0 β))) K) <| noP
  lp := fun β j m => ifL j 1 (pC2 (l160_1 call n m) K) <| noP }
@[irreducible] noncomputable def A160 : AFun := (compFn Tryz.prog Tryz.f160).getD ⟨0, [], .skip⟩
noncomputable def w160 : Sh := shW 2 fun call n K => pA2 (s160 call n) K
theorem w160_ok {E : Env} (e : E.code 160 = some A160) (hp : E.prim 160 = none) : ShOK E 160 w160 := shW_ok (A := { pts := [], lps := [(1, [0, 1])], cuts := [(12, [(2, 13001, [0, 1, 19])]), (26, [(3, 27001, [0, 1, 49])])] }) (S := T160) e hp (by kernel_rfl) (by kernel_rfl) (by kernel_rfl)

noncomputable def T161 (call : CallFn) (n : Nat) (K : Kont) : Sp := {
  pt := fun β j => ifF j 23 (pA2 (p161_23 call n (pF1 (pB 0 β))) K) <| ifF j 49 (pA2 (p161_49 call n (pF1 (pB 0 β))) K) <| ifF j 14001 (pA3 (p161_14001 call n (pF1 (pB 0 β))) K) <| ifF j 40001 (pA3 (p161_40001 call n (pF1 (pB 0 β))) K) <| noP
  fs := fun β j => ifF j 0 (pA1 (f161_0 call n (pF1 (pB 0 β))) K) <| noP
  rd := fun β j => ifF j 0 (pA1 (j161_0 call n (pF1 (pB 0 β))) K) <| noP
  lp := fun β j m => ifL j 0 (pC1 (g161_0 call n m) K) <| noP }
@[irreducible] noncomputable def A161 : AFun := (compFn Tryz.prog Tryz.f161).getD ⟨0, [], .skip⟩
noncomputable def w161 : Sh := shW 1 fun call n K => pA1 (s161 call n) K
theorem w161_ok {E : Env} (e : E.code 161 = some A161) (hp : E.prim 161 = none) : ShOK E 161 w161 := shW_ok (A := { pts := [(23, [0, 3]), (49, [0, 3])], lps := [(0, [0])], scs := [(0, [0])], cuts := [(13, [(5, 14001, [0, 31, 33])]), (39, [(5, 40001, [0, 31, 33])])] }) (S := T161) e hp (by kernel_rfl) (by kernel_rfl) (by kernel_rfl)

noncomputable def T162 (call : CallFn) (n : Nat) (K : Kont) : Sp := {
  pt := fun β j => ifF j 15001 (pA3 (p162_15001 call n) K) <| ifF j 27001 (pA3 (p162_27001 call n) K) <| ifF j 39001 (pA3 (p162_39001 call n) K) <| ifF j 45001 (pA2 (p162_45001 call n) K) <| ifF j 53001 (pA3 (p162_53001 call n) K) <| noP
  fs := fun β j => noP
  rd := fun β j => noP
  lp := fun β j m => noP }
@[irreducible] noncomputable def A162 : AFun := (compFn Tryz.prog Tryz.f162).getD ⟨0, [], .skip⟩
noncomputable def w162 : Sh := shW 1 fun call n K => pA1 (s162 call n) K
theorem w162_ok {E : Env} (e : E.code 162 = some A162) (hp : E.prim 162 = none) : ShOK E 162 w162 := shW_ok (A := { pts := [], lps := [], cuts := [(14, [(3, 15001, [2, 3, 18])]), (26, [(3, 27001, [2, 3, 30])]), (38, [(3, 39001, [2, 3, 42])]), (44, [(2, 45001, [2, 50])]), (52, [(3, 53001, [2, 3, 60])])] }) (S := T162) e hp (by kernel_rfl) (by kernel_rfl) (by kernel_rfl)

@[irreducible] noncomputable def A165 : AFun := (compFn Tryz.prog Tryz.f165).getD ⟨0, [], .skip⟩
noncomputable def w165 : Sh := shW 1 fun call n K => pA1 (s165 call n) K
theorem w165_ok {E : Env} (e : E.code 165 = some A165) (hp : E.prim 165 = none) : ShOK E 165 w165 := shW_ok (A := { pts := [], lps := [] }) (S := noS) e hp (by kernel_rfl) (by kernel_rfl) (by kernel_rfl)

noncomputable def T166 (call : CallFn) (n : Nat) (K : Kont) : Sp := {
  pt := fun β j => ifF j 4001 (pA3 (p166_4001 call n) K) <| noP
  fs := fun β j => noP
  rd := fun β j => noP
  lp := fun β j m => noP }
@[irreducible] noncomputable def A166 : AFun := (compFn Tryz.prog Tryz.f166).getD ⟨0, [], .skip⟩
noncomputable def w166 : Sh := shW 2 fun call n K => pA2 (s166 call n) K
theorem w166_ok {E : Env} (e : E.code 166 = some A166) (hp : E.prim 166 = none) : ShOK E 166 w166 := shW_ok (A := { pts := [], lps := [], cuts := [(3, [(2, 4001, [0, 1, 7])])] }) (S := T166) e hp (by kernel_rfl) (by kernel_rfl) (by kernel_rfl)

noncomputable def T170 (call : CallFn) (n : Nat) (K : Kont) : Sp := {
  pt := fun β j => ifF j 12 (pA3 (p170_12 call n) K) <| ifF j 10001 (pA4 (p170_10001 call n) K) <| ifF j 14001 (pA4 (p170_14001 call n) K) <| noP
  fs := fun β j => noP
  rd := fun β j => noP
  lp := fun β j m => noP }
@[irreducible] noncomputable def A170 : AFun := (compFn Tryz.prog Tryz.f170).getD ⟨0, [], .skip⟩
noncomputable def w170 : Sh := shW 1 fun call n K => pA1 (s170 call n) K
theorem w170_ok {E : Env} (e : E.code 170 = some A170) (hp : E.prim 170 = none) : ShOK E 170 w170 := shW_ok (A := { pts := [(12, [1, 2, 3])], lps := [], cuts := [(9, [(2, 10001, [1, 2, 3, 8])]), (13, [(2, 14001, [1, 2, 3, 14])])] }) (S := T170) e hp (by kernel_rfl) (by kernel_rfl) (by kernel_rfl)

noncomputable def T174 (call : CallFn) (n : Nat) (K : Kont) : Sp := {
  pt := fun β j => ifF j 10 (pA2 (p174_10 call n) K) <| ifF j 50 (pA7 (p174_50 call n (pF4 (pB 0 β))) K) <| ifF j 57 (pA4 (p174_57 call n (pF4 (pB 0 β))) K) <| ifF j 58 (pA1 (p174_58 call n) K) <| noP
  fs := fun β j => noP
  rd := fun β j => ifF j 16 (pA4 (b174_16 call n (pF4 (pB 0 β))) K) <| noP
  lp := fun β j m => ifL j 16 (pC4 (l174_16 call n m) K) <| noP }
@[irreducible] noncomputable def A174 : AFun := (compFn Tryz.prog Tryz.f174).getD ⟨0, [], .skip⟩
noncomputable def w174 : Sh := shW 2 fun call n K => pA2 (s174 call n) K
theorem w174_ok {E : Env} (e : E.code 174 = some A174) (hp : E.prim 174 = none) : ShOK E 174 w174 := shW_ok (A := { pts := [(10, [0, 3]), (50, [0, 5, 23, 24, 25, 35, 38]), (57, [0, 23, 24, 25]), (58, [0])], lps := [(16, [0, 23, 24, 25])] }) (S := T174) e hp (by kernel_rfl) (by kernel_rfl) (by kernel_rfl)

noncomputable def T175 (call : CallFn) (n : Nat) (K : Kont) : Sp := {
  pt := fun β j => ifF j 22 (pA3 (p175_22 call n) K) <| ifF j 24 (pA2 (p175_24 call n) K) <| ifF j 30 (pA2 (p175_30 call n) K) <| ifF j 36 (pA2 (p175_36 call n) K) <| ifF j 42 (pA2 (p175_42 call n) K) <| ifF j 48 (pA2 (p175_48 call n) K) <| ifF j 71 (pA1 (p175_71 call n) K) <| ifF j 4001 (pA4 (p175_4001 call n) K) <| ifF j 23001 (pA4 (p175_23001 call n) K) <| ifF j 29001 (pA4 (p175_29001 call n) K) <| ifF j 35001 (pA4 (p175_35001 call n) K) <| noP
  fs := fun β j => noP
  rd := fun β j => ifF j 58 (pA4 (b175_58 call n (pF4 (pB 0 β))) K) <| noP
  lp := fun β j m => ifL j 58 (pC4 (l175_58 call n m) K) <| noP }
@[irreducible] noncomputable def A175 : AFun := (compFn Tryz.prog Tryz.f175).getD ⟨0, [], .skip⟩
noncomputable def w175 : Sh := shW 2 fun call n K => pA2 (s175 call n) K
theorem w175_ok {E : Env} (e : E.code 175 = some A175) (hp : E.prim 175 = none) : ShOK E 175 w175 := shW_ok (A := { pts := [(22, [0, 3, 4]), (24, [0, 3]), (30, [0, 3]), (36, [0, 3]), (42, [0, 3]), (48, [0, 3]), (71, [0])], lps := [(58, [0, 79, 80, 81])], cuts := [(3, [(4, 4001, [0, 3, 7, 10])]), (22, [(3, 23001, [0, 3, 35, 37])]), (28, [(4, 29001, [0, 3, 43, 46])]), (34, [(4, 35001, [0, 3, 52, 55])])] }) (S := T175) e hp (by kernel_rfl) (by kernel_rfl) (by kernel_rfl)

noncomputable def T177 (call : CallFn) (n : Nat) (K : Kont) : Sp := {
  pt := fun β j => ifF j 1001 (pA2 (p177_1001 call n) K) <| noP
  fs := fun β j => noP
  rd := fun β j => noP
  lp := fun β j m => noP }
@[irreducible] noncomputable def A177 : AFun := (compFn Tryz.prog Tryz.f177).getD ⟨0, [], .skip⟩
noncomputable def w177 : Sh := shW 2 fun call n K => pA2 (s177 call n) K
theorem w177_ok {E : Env} (e : E.code 177 = some A177) (hp : E.prim 177 = none) : ShOK E 177 w177 := shW_ok (A := { pts := [], lps := [], cuts := [(0, [(2, 1001, [1, 4])])] }) (S := T177) e hp (by kernel_rfl) (by kernel_rfl) (by kernel_rfl)

noncomputable def T178 (call : CallFn) (n : Nat) (K : Kont) : Sp := {
  pt := fun β j => ifF j 10 (pA3 (p178_10 call n) K) <| ifF j 29001 (pA6 (p178_29001 call n (pF5 (pB 0 β))) K) <| noP
  fs := fun β j => noP
  rd := fun β j => ifF j 14 (pA5 (b178_14 call n (pF5 (pB 0 β))) K) <| noP
  lp := fun β j m => ifL j 14 (pC5 (l178_14 call n m) K) <| noP }
@[irreducible] noncomputable def A178 : AFun := (compFn Tryz.prog Tryz.f178).getD ⟨0, [], .skip⟩
noncomputable def w178 : Sh := shW 3 fun call n K => pA3 (s178 call n) K
theorem w178_ok {E : Env} (e : E.code 178 = some A178) (hp : E.prim 178 = none) : ShOK E 178 w178 := shW_ok (A := { pts := [(10, [0, 1, 2])], lps := [(14, [1, 2, 15, 16, 17])], cuts := [(28, [(4, 29001, [1, 2, 15, 16, 17, 29])])] }) (S := T178) e hp (by kernel_rfl) (by kernel_rfl) (by kernel_rfl)

noncomputable def T179 (call : CallFn) (n : Nat) (K : Kont) : Sp := {
  pt := fun β j => ifF j 4001 (pA2 (p179_4001 call n) K) <| noP
  fs := fun β j => noP
  rd := fun β j => noP
  lp := fun β j m => noP }
@[irreducible] noncomputable def A179 : AFun := (compFn Tryz.prog Tryz.f179).getD ⟨0, [], .skip⟩
noncomputable def w179 : Sh := shW 2 fun call n K => pA2 (s179 call n) K
theorem w179_ok {E : Env} (e : E.code 179 = some A179) (hp : E.prim 179 = none) : ShOK E 179 w179 := shW_ok (A := { pts := [], lps := [], cuts := [(3, [(18, 4001, [17, 22])])] }) (S := T179) e hp (by kernel_rfl) (by kernel_rfl) (by kernel_rfl)

noncomputable def T180 (call : CallFn) (n : Nat) (K : Kont) : Sp := {
  pt := fun β j => ifF j 10 (pA3 (p180_10 call n) K) <| ifF j 29001 (pA6 (p180_29001 call n (pF5 (pB 0 β))) K) <| noP
  fs := fun β j => noP
  rd := fun β j => ifF j 14 (pA5 (b180_14 call n (pF5 (pB 0 β))) K) <| noP
  lp := fun β j m => ifL j 14 (pC5 (l180_14 call n m) K) <| noP }
@[irreducible] noncomputable def A180 : AFun := (compFn Tryz.prog Tryz.f180).getD ⟨0, [], .skip⟩
noncomputable def w180 : Sh := shW 3 fun call n K => pA3 (s180 call n) K
theorem w180_ok {E : Env} (e : E.code 180 = some A180) (hp : E.prim 180 = none) : ShOK E 180 w180 := shW_ok (A := { pts := [(10, [0, 1, 2])], lps := [(14, [1, 2, 15, 16, 17])], cuts := [(28, [(4, 29001, [1, 2, 15, 16, 17, 29])])] }) (S := T180) e hp (by kernel_rfl) (by kernel_rfl) (by kernel_rfl)

noncomputable def T181 (call : CallFn) (n : Nat) (K : Kont) : Sp := {
  pt := fun β j => ifF j 4001 (pA4 (p181_4001 call n) K) <| ifF j 4002 (pA2 (p181_4002 call n) K) <| noP
  fs := fun β j => noP
  rd := fun β j => noP
  lp := fun β j m => noP }
@[irreducible] noncomputable def A181 : AFun := (compFn Tryz.prog Tryz.f181).getD ⟨0, [], .skip⟩
noncomputable def w181 : Sh := shW 2 fun call n K => pA2 (s181 call n) K
theorem w181_ok {E : Env} (e : E.code 181 = some A181) (hp : E.prim 181 = none) : ShOK E 181 w181 := shW_ok (A := { pts := [], lps := [], cuts := [(3, [(46, 4001, [2, 3, 45, 50]), (7, 4002, [52, 57])])] }) (S := T181) e hp (by kernel_rfl) (by kernel_rfl) (by kernel_rfl)

noncomputable def T182 (call : CallFn) (n : Nat) (K : Kont) : Sp := {
  pt := fun β j => ifF j 10 (pA3 (p182_10 call n) K) <| ifF j 29001 (pA6 (p182_29001 call n (pF5 (pB 0 β))) K) <| noP
  fs := fun β j => noP
  rd := fun β j => ifF j 14 (pA5 (b182_14 call n (pF5 (pB 0 β))) K) <| noP
  lp := fun β j m => ifL j 14 (pC5 (l182_14 call n m) K) <| noP }
@[irreducible] noncomputable def A182 : AFun := (compFn Tryz.prog Tryz.f182).getD ⟨0, [], .skip⟩
noncomputable def w182 : Sh := shW 3 fun call n K => pA3 (s182 call n) K
theorem w182_ok {E : Env} (e : E.code 182 = some A182) (hp : E.prim 182 = none) : ShOK E 182 w182 := shW_ok (A := { pts := [(10, [0, 1, 2])], lps := [(14, [1, 2, 15, 16, 17])], cuts := [(28, [(4, 29001, [1, 2, 15, 16, 17, 29])])] }) (S := T182) e hp (by kernel_rfl) (by kernel_rfl) (by kernel_rfl)

@[irreducible] noncomputable def A184 : AFun := (compFn Tryz.prog Tryz.f184).getD ⟨0, [], .skip⟩
noncomputable def w184 : Sh := shW 1 fun call n K => pA1 (s184 call n) K
theorem w184_ok {E : Env} (e : E.code 184 = some A184) (hp : E.prim 184 = none) : ShOK E 184 w184 := shW_ok (A := { pts := [], lps := [] }) (S := noS) e hp (by kernel_rfl) (by kernel_rfl) (by kernel_rfl)

noncomputable def T186 (call : CallFn) (n : Nat) (K : Kont) : Sp := {
  pt := fun β j => ifF j 12001 (pA1 (p186_12001 call n) K) <| noP
  fs := fun β j => noP
  rd := fun β j => noP
  lp := fun β j m => noP }
@[irreducible] noncomputable def A186 : AFun := (compFn Tryz.prog Tryz.f186).getD ⟨0, [], .skip⟩
noncomputable def w186 : Sh := shW 1 fun call n K => pA1 (s186 call n) K
theorem w186_ok {E : Env} (e : E.code 186 = some A186) (hp : E.prim 186 = none) : ShOK E 186 w186 := shW_ok (A := { pts := [], lps := [], cuts := [(11, [(3, 12001, [7])])] }) (S := T186) e hp (by kernel_rfl) (by kernel_rfl) (by kernel_rfl)

noncomputable def T187 (call : CallFn) (n : Nat) (K : Kont) : Sp := {
  pt := fun β j => ifF j 59 (pA2 (p187_59 call n) K) <| ifF j 78 (pA4 (p187_78 call n (pF4 (pB 0 β))) K) <| ifF j 85 (pA5 (p187_85 call n) K) <| ifF j 34001 (pA4 (p187_34001 call n) K) <| ifF j 34002 (pA4 (p187_34002 call n) K) <| noP
  fs := fun β j => noP
  rd := fun β j => ifF j 46 (pA5 (b187_46 call n (pF5 (pB 0 β))) K) <| ifF j 62 (pA4 (b187_62 call n (pF4 (pB 0 β))) K) <| noP
  lp := fun β j m => ifL j 46 (pC5 (l187_46 call n m) K) <| ifL j 62 (pC4 (l187_62 call n m) K) <| noP }
@[irreducible] noncomputable def A187 : AFun := (compFn Tryz.prog Tryz.f187).getD ⟨0, [], .skip⟩
noncomputable def w187 : Sh := shW 3 fun call n K => pA3 (s187 call n) K
theorem w187_ok {E : Env} (e : E.code 187 = some A187) (hp : E.prim 187 = none) : ShOK E 187 w187 := shW_ok (A := { pts := [(59, [2, 4]), (78, [2, 124, 125, 126]), (85, [0, 2, 4, 13, 139])], lps := [(46, [2, 4, 112, 113, 114]), (62, [2, 124, 125, 126])], cuts := [(33, [(4, 34001, [2, 4, 6, 70]), (5, 34002, [2, 4, 71, 75])])] }) (S := T187) e hp (by kernel_rfl) (by kernel_rfl) (by kernel_rfl)

noncomputable def T195 (call : CallFn) (n : Nat) (K : Kont) : Sp := {
  pt := fun β j => ifF j 50 (pA1 (p195_50 call n) K) <| ifF j 81 (pA1 (p195_81 call n) K) <| ifF j 87 (pA0 (p195_87 call n) K) <| ifF j 11001 (pA1 (p195_11001 call n) K) <| ifF j 11002 (pA1 (p195_11002 call n) K) <| ifF j 23001 (pA1 (p195_23001 call n) K) <| ifF j 27001 (pA1 (p195_27001 call n) K) <| ifF j 33001 (pA2 (p195_33001 call n) K) <| ifF j 36001 (pA3 (p195_36001 call n) K) <| ifF j 58001 (pA1 (p195_58001 call n) K) <| ifF j 58002 (pA1 (p195_58002 call n) K) <| ifF j 80001 (pA5 (p195_80001 call n (pF4 (pB 0 β))) K) <| noP
  fs := fun β j => noP
  rd := fun β j => ifF j 37 (pA5 (b195_37 call n (pF5 (pB 0 β))) K) <| ifF j 68 (pA4 (b195_68 call n (pF4 (pB 0 β))) K) <| noP
  lp := fun β j m => ifL j 37 (pC5 (l195_37 call n m) K) <| ifL j 68 (pC4 (l195_68 call n m) K) <| noP }
@[irreducible] noncomputable def A195 : AFun := (compFn Tryz.prog Tryz.f195).getD ⟨0, [], .skip⟩
noncomputable def w195 : Sh := shW 1 fun call n K => pA1 (s195 call n) K
theorem w195_ok {E : Env} (e : E.code 195 = some A195) (hp : E.prim 195 = none) : ShOK E 195 w195 := shW_ok (A := { pts := [(50, [4]), (81, [8]), (87, [])], lps := [(37, [4, 5, 43, 44, 45]), (68, [8, 68, 69, 70])], cuts := [(10, [(3, 11001, [17]), (1, 11002, [18])]), (22, [(2, 23001, [29])]), (26, [(2, 27001, [33])]), (32, [(3, 33001, [1, 39])]), (35, [(3, 36001, [4, 5, 43])]), (57, [(3, 58001, [62]), (1, 58002, [63])]), (79, [(3, 80001, [68, 69, 70, 74, 76])])] }) (S := T195) e hp (by kernel_rfl) (by kernel_rfl) (by kernel_rfl)

noncomputable def T196 (call : CallFn) (n : Nat) (K : Kont) : Sp := {
  pt := fun β j => noP
  fs := fun β j => noP
  rd := fun β j => ifF j 6 (pA4 (b196_6 call n (pF4 (pB 0 β))) K) <| noP
  lp := fun β j m => ifL j 6 (pC4 (l196_6 call n m) K) <| noP }
@[irreducible] noncomputable def A196 : AFun := (compFn Tryz.prog Tryz.f196).getD ⟨0, [], .skip⟩
noncomputable def w196 : Sh := shW 2 fun call n K => pA2 (s196 call n) K
theorem w196_ok {E : Env} (e : E.code 196 = some A196) (hp : E.prim 196 = none) : ShOK E 196 w196 := shW_ok (A := { pts := [], lps := [(6, [0, 1, 7, 8])] }) (S := T196) e hp (by kernel_rfl) (by kernel_rfl) (by kernel_rfl)

noncomputable def T197 (call : CallFn) (n : Nat) (K : Kont) : Sp := {
  pt := fun β j => noP
  fs := fun β j => noP
  rd := fun β j => ifF j 6 (pA4 (b197_6 call n (pF4 (pB 0 β))) K) <| noP
  lp := fun β j m => ifL j 6 (pC4 (l197_6 call n m) K) <| noP }
@[irreducible] noncomputable def A197 : AFun := (compFn Tryz.prog Tryz.f197).getD ⟨0, [], .skip⟩
noncomputable def w197 : Sh := shW 2 fun call n K => pA2 (s197 call n) K
theorem w197_ok {E : Env} (e : E.code 197 = some A197) (hp : E.prim 197 = none) : ShOK E 197 w197 := shW_ok (A := { pts := [], lps := [(6, [0, 1, 7, 8])] }) (S := T197) e hp (by kernel_rfl) (by kernel_rfl) (by kernel_rfl)

noncomputable def T198 (call : CallFn) (n : Nat) (K : Kont) : Sp := {
  pt := fun β j => ifF j 20001 (pA5 (p198_20001 call n (pF4 (pB 0 β))) K) <| noP
  fs := fun β j => noP
  rd := fun β j => ifF j 8 (pA4 (b198_8 call n (pF4 (pB 0 β))) K) <| noP
  lp := fun β j m => ifL j 8 (pC4 (l198_8 call n m) K) <| noP }
@[irreducible] noncomputable def A198 : AFun := (compFn Tryz.prog Tryz.f198).getD ⟨0, [], .skip⟩
noncomputable def w198 : Sh := shW 1 fun call n K => pA1 (s198 call n) K
theorem w198_ok {E : Env} (e : E.code 198 = some A198) (hp : E.prim 198 = none) : ShOK E 198 w198 := shW_ok (A := { pts := [], lps := [(8, [3, 6, 7, 8])], cuts := [(19, [(3, 20001, [6, 7, 8, 12, 14])])] }) (S := T198) e hp (by kernel_rfl) (by kernel_rfl) (by kernel_rfl)

@[irreducible] noncomputable def A199 : AFun := (compFn Tryz.prog Tryz.f199).getD ⟨0, [], .skip⟩
noncomputable def w199 : Sh := shW 1 fun call n K => pA1 (s199 call n) K
theorem w199_ok {E : Env} (e : E.code 199 = some A199) (hp : E.prim 199 = none) : ShOK E 199 w199 := shW_ok (A := { pts := [], lps := [] }) (S := noS) e hp (by kernel_rfl) (by kernel_rfl) (by kernel_rfl)

@[irreducible] noncomputable def A200 : AFun := (compFn Tryz.prog Tryz.f200).getD ⟨0, [], .skip⟩
noncomputable def w200 : Sh := shW 1 fun call n K => pA1 (s200 call n) K
theorem w200_ok {E : Env} (e : E.code 200 = some A200) (hp : E.prim 200 = none) : ShOK E 200 w200 := shW_ok (A := { pts := [], lps := [] }) (S := noS) e hp (by kernel_rfl) (by kernel_rfl) (by kernel_rfl)

noncomputable def T201 (call : CallFn) (n : Nat) (K : Kont) : Sp := {
  pt := fun β j => ifF j 23 (pA2 (p201_23 call n) K) <| ifF j 6001 (pA4 (p201_6001 call n) K) <| noP
  fs := fun β j => noP
  rd := fun β j => ifF j 10 (pA5 (b201_10 call n (pF5 (pB 0 β))) K) <| noP
  lp := fun β j m => ifL j 10 (pC5 (l201_10 call n m) K) <| noP }
@[irreducible] noncomputable def A201 : AFun := (compFn Tryz.prog Tryz.f201).getD ⟨0, [], .skip⟩
noncomputable def w201 : Sh := shW 1 fun call n K => pA1 (s201 call n) K
theorem w201_ok {E : Env} (e : E.code 201 = some A201) (hp : E.prim 201 = none) : ShOK E 201 w201 := shW_ok (A := { pts := [(23, [1, 2])], lps := [(10, [1, 2, 13, 14, 15])], cuts := [(5, [(3, 6001, [1, 2, 3, 10])])] }) (S := T201) e hp (by kernel_rfl) (by kernel_rfl) (by kernel_rfl)

noncomputable def T202 (call : CallFn) (n : Nat) (K : Kont) : Sp := {
  pt := fun β j => ifF j 156 (pA1 (p202_156 call n) K) <| noP
  fs := fun β j => noP
  rd := fun β j => noP
  lp := fun β j m => noP }
@[irreducible] noncomputable def A202 : AFun := (compFn Tryz.prog Tryz.f202).getD ⟨0, [], .skip⟩
noncomputable def w202 : Sh := shW 1 fun call n K => pA1 (s202 call n) K
theorem w202_ok {E : Env} (e : E.code 202 = some A202) (hp : E.prim 202 = none) : ShOK E 202 w202 := shW_ok (A := { pts := [(156, [4])], lps := [] }) (S := T202) e hp (by kernel_rfl) (by kernel_rfl) (by kernel_rfl)

noncomputable def T203 (call : CallFn) (n : Nat) (K : Kont) : Sp := {
  pt := fun β j => ifF j 14001 (pA4 (p203_14001 call n (pF4 (pB 0 β))) K) <| noP
  fs := fun β j => noP
  rd := fun β j => ifF j 3 (pA4 (b203_3 call n (pF4 (pB 0 β))) K) <| noP
  lp := fun β j m => ifL j 3 (pC4 (l203_3 call n m) K) <| noP }
@[irreducible] noncomputable def A203 : AFun := (compFn Tryz.prog Tryz.f203).getD ⟨0, [], .skip⟩
noncomputable def w203 : Sh := shW 3 fun call n K => pA3 (s203 call n) K
theorem w203_ok {E : Env} (e : E.code 203 = some A203) (hp : E.prim 203 = none) : ShOK E 203 w203 := shW_ok (A := { pts := [], lps := [(3, [0, 1, 4, 5])], cuts := [(13, [(9, 14001, [0, 1, 4, 40])])] }) (S := T203) e hp (by kernel_rfl) (by kernel_rfl) (by kernel_rfl)

@[irreducible] noncomputable def A207 : AFun := (compFn Tryz.prog Tryz.f207).getD ⟨0, [], .skip⟩
noncomputable def w207 : Sh := shW 1 fun call n K => pA1 (s207 call n) K
theorem w207_ok {E : Env} (e : E.code 207 = some A207) (hp : E.prim 207 = none) : ShOK E 207 w207 := shW_ok (A := { pts := [], lps := [] }) (S := noS) e hp (by kernel_rfl) (by kernel_rfl) (by kernel_rfl)

@[irreducible] noncomputable def A208 : AFun := (compFn Tryz.prog Tryz.f208).getD ⟨0, [], .skip⟩
noncomputable def w208 : Sh := shW 2 fun call n K => pA2 (s208 call n) K
theorem w208_ok {E : Env} (e : E.code 208 = some A208) (hp : E.prim 208 = none) : ShOK E 208 w208 := shW_ok (A := { pts := [], lps := [] }) (S := noS) e hp (by kernel_rfl) (by kernel_rfl) (by kernel_rfl)

noncomputable def T209 (call : CallFn) (n : Nat) (K : Kont) : Sp := {
  pt := fun β j => ifF j 5001 (pA2 (p209_5001 call n) K) <| noP
  fs := fun β j => noP
  rd := fun β j => noP
  lp := fun β j m => noP }
@[irreducible] noncomputable def A209 : AFun := (compFn Tryz.prog Tryz.f209).getD ⟨0, [], .skip⟩
noncomputable def w209 : Sh := shW 1 fun call n K => pA1 (s209 call n) K
theorem w209_ok {E : Env} (e : E.code 209 = some A209) (hp : E.prim 209 = none) : ShOK E 209 w209 := shW_ok (A := { pts := [], lps := [], cuts := [(4, [(2, 5001, [1, 5])])] }) (S := T209) e hp (by kernel_rfl) (by kernel_rfl) (by kernel_rfl)

@[irreducible] noncomputable def A210 : AFun := (compFn Tryz.prog Tryz.f210).getD ⟨0, [], .skip⟩
noncomputable def w210 : Sh := shW 2 fun call n K => pA2 (s210 call n) K
theorem w210_ok {E : Env} (e : E.code 210 = some A210) (hp : E.prim 210 = none) : ShOK E 210 w210 := shW_ok (A := { pts := [], lps := [] }) (S := noS) e hp (by kernel_rfl) (by kernel_rfl) (by kernel_rfl)

@[irreducible] noncomputable def A211 : AFun := (compFn Tryz.prog Tryz.f211).getD ⟨0, [], .skip⟩
noncomputable def w211 : Sh := shW 2 fun call n K => pA2 (s211 call n) K
theorem w211_ok {E : Env} (e : E.code 211 = some A211) (hp : E.prim 211 = none) : ShOK E 211 w211 := shW_ok (A := { pts := [], lps := [] }) (S := noS) e hp (by kernel_rfl) (by kernel_rfl) (by kernel_rfl)

@[irreducible] noncomputable def A212 : AFun := (compFn Tryz.prog Tryz.f212).getD ⟨0, [], .skip⟩
noncomputable def w212 : Sh := shW 3 fun call n K => pA3 (s212 call n) K
theorem w212_ok {E : Env} (e : E.code 212 = some A212) (hp : E.prim 212 = none) : ShOK E 212 w212 := shW_ok (A := { pts := [], lps := [] }) (S := noS) e hp (by kernel_rfl) (by kernel_rfl) (by kernel_rfl)

@[irreducible] noncomputable def A213 : AFun := (compFn Tryz.prog Tryz.f213).getD ⟨0, [], .skip⟩
noncomputable def w213 : Sh := shW 1 fun call n K => pA1 (s213 call n) K
theorem w213_ok {E : Env} (e : E.code 213 = some A213) (hp : E.prim 213 = none) : ShOK E 213 w213 := shW_ok (A := { pts := [], lps := [] }) (S := noS) e hp (by kernel_rfl) (by kernel_rfl) (by kernel_rfl)

noncomputable def T214 (call : CallFn) (n : Nat) (K : Kont) : Sp := {
  pt := fun β j => ifF j 5001 (pA3 (p214_5001 call n) K) <| ifF j 5002 (pA3 (p214_5002 call n) K) <| noP
  fs := fun β j => noP
  rd := fun β j => noP
  lp := fun β j m => noP }
@[irreducible] noncomputable def A214 : AFun := (compFn Tryz.prog Tryz.f214).getD ⟨0, [], .skip⟩
noncomputable def w214 : Sh := shW 2 fun call n K => pA2 (s214 call n) K
theorem w214_ok {E : Env} (e : E.code 214 = some A214) (hp : E.prim 214 = none) : ShOK E 214 w214 := shW_ok (A := { pts := [], lps := [], cuts := [(4, [(3, 5001, [0, 1, 7]), (1, 5002, [0, 1, 8])])] }) (S := T214) e hp (by kernel_rfl) (by kernel_rfl) (by kernel_rfl)

@[irreducible] noncomputable def A215 : AFun := (compFn Tryz.prog Tryz.f215).getD ⟨0, [], .skip⟩
noncomputable def w215 : Sh := shW 1 fun call n K => pA1 (s215 call n) K
theorem w215_ok {E : Env} (e : E.code 215 = some A215) (hp : E.prim 215 = none) : ShOK E 215 w215 := shW_ok (A := { pts := [], lps := [] }) (S := noS) e hp (by kernel_rfl) (by kernel_rfl) (by kernel_rfl)

noncomputable def T216 (call : CallFn) (n : Nat) (K : Kont) : Sp := {
  pt := fun β j => noP
  fs := fun β j => noP
  rd := fun β j => ifF j 6 (pA4 (b216_6 call n (pF4 (pB 0 β))) K) <| noP
  lp := fun β j m => ifL j 6 (pC4 (l216_6 call n m) K) <| noP }
@[irreducible] noncomputable def A216 : AFun := (compFn Tryz.prog Tryz.f216).getD ⟨0, [], .skip⟩
noncomputable def w216 : Sh := shW 3 fun call n K => pA3 (s216 call n) K
theorem w216_ok {E : Env} (e : E.code 216 = some A216) (hp : E.prim 216 = none) : ShOK E 216 w216 := shW_ok (A := { pts := [], lps := [(6, [0, 1, 2, 7])] }) (S := T216) e hp (by kernel_rfl) (by kernel_rfl) (by kernel_rfl)

noncomputable def T217 (call : CallFn) (n : Nat) (K : Kont) : Sp := {
  pt := fun β j => ifF j 49 (pA3 (p217_49 call n (pF3 (pB 0 β))) K) <| ifF j 25001 (pA2 (p217_25001 call n (pF3 (pB 0 β))) K) <| ifF j 33001 (pA4 (p217_33001 call n (pF3 (pB 0 β))) K) <| noP
  fs := fun β j => noP
  rd := fun β j => ifF j 8 (pA3 (b217_8 call n (pF3 (pB 0 β))) K) <| noP
  lp := fun β j m => ifL j 8 (pC3 (l217_8 call n m) K) <| noP }
@[irreducible] noncomputable def A217 : AFun := (compFn Tryz.prog Tryz.f217).getD ⟨0, [], .skip⟩
noncomputable def w217 : Sh := shW 1 fun call n K => pA1 (s217 call n) K
theorem w217_ok {E : Env} (e : E.code 217 = some A217) (hp : E.prim 217 = none) : ShOK E 217 w217 := shW_ok (A := { pts := [(49, [0, 4, 5])], lps := [(8, [0, 4, 5])], cuts := [(24, [(1, 25001, [5, 30])]), (32, [(3, 33001, [0, 4, 5, 40])])] }) (S := T217) e hp (by kernel_rfl) (by kernel_rfl) (by kernel_rfl)

noncomputable def T218 (call : CallFn) (n : Nat) (K : Kont) : Sp := {
  pt := fun β j => ifF j 25 (pA1 (p218_25 call n) K) <| noP
  fs := fun β j => noP
  rd := fun β j => ifF j 6 (pA4 (b218_6 call n (pF4 (pB 0 β))) K) <| noP
  lp := fun β j m => ifL j 6 (pC4 (l218_6 call n m) K) <| noP }
@[irreducible] noncomputable def A218 : AFun := (compFn Tryz.prog Tryz.f218).getD ⟨0, [], .skip⟩
noncomputable def w218 : Sh := shW 1 fun call n K => pA1 (s218 call n) K
theorem w218_ok {E : Env} (e : E.code 218 = some A218) (hp : E.prim 218 = none) : ShOK E 218 w218 := shW_ok (A := { pts := [(25, [0])], lps := [(6, [0, 5, 6, 7])] }) (S := T218) e hp (by kernel_rfl) (by kernel_rfl) (by kernel_rfl)

noncomputable def T228 (call : CallFn) (n : Nat) (K : Kont) : Sp := {
  pt := fun β j => ifF j 22 (pA5 (p228_22 call n (pF4 (pB 0 β))) K) <| ifF j 28 (pA5 (p228_28 call n (pF4 (pB 0 β))) K) <| noP
  fs := fun β j => noP
  rd := fun β j => ifF j 3 (pA4 (b228_3 call n (pF4 (pB 0 β))) K) <| noP
  lp := fun β j m => ifL j 3 (pC4 (l228_3 call n m) K) <| noP }
@[irreducible] noncomputable def A228 : AFun := (compFn Tryz.prog Tryz.f228).getD ⟨0, [], .skip⟩
noncomputable def w228 : Sh := shW 2 fun call n K => pA2 (s228 call n) K
theorem w228_ok {E : Env} (e : E.code 228 = some A228) (hp : E.prim 228 = none) : ShOK E 228 w228 := shW_ok (A := { pts := [(22, [0, 5, 6, 7, 8]), (28, [0, 5, 6, 7, 8])], lps := [(3, [0, 6, 7, 8])] }) (S := T228) e hp (by kernel_rfl) (by kernel_rfl) (by kernel_rfl)

noncomputable def T229 (call : CallFn) (n : Nat) (K : Kont) : Sp := {
  pt := fun β j => ifF j 30 (pA4 (p229_30 call n (pF4 (pB 0 β))) K) <| ifF j 31 (pA1 (p229_31 call n) K) <| noP
  fs := fun β j => noP
  rd := fun β j => ifF j 10 (pA4 (b229_10 call n (pF4 (pB 0 β))) K) <| noP
  lp := fun β j m => ifL j 10 (pC4 (l229_10 call n m) K) <| noP }
@[irreducible] noncomputable def A229 : AFun := (compFn Tryz.prog Tryz.f229).getD ⟨0, [], .skip⟩
noncomputable def w229 : Sh := shW 1 fun call n K => pA1 (s229 call n) K
theorem w229_ok {E : Env} (e : E.code 229 = some A229) (hp : E.prim 229 = none) : ShOK E 229 w229 := shW_ok (A := { pts := [(30, [0, 3, 8, 9]), (31, [3])], lps := [(10, [0, 3, 8, 9])] }) (S := T229) e hp (by kernel_rfl) (by kernel_rfl) (by kernel_rfl)

@[irreducible] noncomputable def A230 : AFun := (compFn Tryz.prog Tryz.f230).getD ⟨0, [], .skip⟩
noncomputable def w230 : Sh := shW 1 fun call n K => pA1 (s230 call n) K
theorem w230_ok {E : Env} (e : E.code 230 = some A230) (hp : E.prim 230 = none) : ShOK E 230 w230 := shW_ok (A := { pts := [], lps := [] }) (S := noS) e hp (by kernel_rfl) (by kernel_rfl) (by kernel_rfl)

noncomputable def T232 (call : CallFn) (n : Nat) (K : Kont) : Sp := {
  pt := fun β j => noP
  fs := fun β j => noP
  rd := fun β j => ifF j 3 (pA4 (b232_3 call n (pF4 (pB 0 β))) K) <| noP
  lp := fun β j m => ifL j 3 (pC4 (l232_3 call n m) K) <| noP }
@[irreducible] noncomputable def A232 : AFun := (compFn Tryz.prog Tryz.f232).getD ⟨0, [], .skip⟩
noncomputable def w232 : Sh := shW 2 fun call n K => pA2 (s232 call n) K
theorem w232_ok {E : Env} (e : E.code 232 = some A232) (hp : E.prim 232 = none) : ShOK E 232 w232 := shW_ok (A := { pts := [], lps := [(3, [0, 6, 7, 8])] }) (S := T232) e hp (by kernel_rfl) (by kernel_rfl) (by kernel_rfl)

noncomputable def T236 (call : CallFn) (n : Nat) (K : Kont) : Sp := {
  pt := fun β j => ifF j 10 (pA2 (p236_10 call n) K) <| noP
  fs := fun β j => noP
  rd := fun β j => ifF j 14 (pA4 (b236_14 call n (pF4 (pB 0 β))) K) <| noP
  lp := fun β j m => ifL j 14 (pC4 (l236_14 call n m) K) <| noP }
@[irreducible] noncomputable def A236 : AFun := (compFn Tryz.prog Tryz.f236).getD ⟨0, [], .skip⟩
noncomputable def w236 : Sh := shW 2 fun call n K => pA2 (s236 call n) K
theorem w236_ok {E : Env} (e : E.code 236 = some A236) (hp : E.prim 236 = none) : ShOK E 236 w236 := shW_ok (A := { pts := [(10, [0, 1])], lps := [(14, [0, 1, 12, 13])] }) (S := T236) e hp (by kernel_rfl) (by kernel_rfl) (by kernel_rfl)

@[irreducible] noncomputable def A237 : AFun := (compFn Tryz.prog Tryz.f237).getD ⟨0, [], .skip⟩
noncomputable def w237 : Sh := shW 2 fun call n K => pA2 (s237 call n) K
theorem w237_ok {E : Env} (e : E.code 237 = some A237) (hp : E.prim 237 = none) : ShOK E 237 w237 := shW_ok (A := { pts := [], lps := [] }) (S := noS) e hp (by kernel_rfl) (by kernel_rfl) (by kernel_rfl)

noncomputable def T238 (call : CallFn) (n : Nat) (K : Kont) : Sp := {
  pt := fun β j => ifF j 10 (pA3 (p238_10 call n) K) <| ifF j 29001 (pA6 (p238_29001 call n (pF5 (pB 0 β))) K) <| noP
  fs := fun β j => noP
  rd := fun β j => ifF j 14 (pA5 (b238_14 call n (pF5 (pB 0 β))) K) <| noP
  lp := fun β j m => ifL j 14 (pC5 (l238_14 call n m) K) <| noP }
@[irreducible] noncomputable def A238 : AFun := (compFn Tryz.prog Tryz.f238).getD ⟨0, [], .skip⟩
noncomputable def w238 : Sh := shW 3 fun call n K => pA3 (s238 call n) K
theorem w238_ok {E : Env} (e : E.code 238 = some A238) (hp : E.prim 238 = none) : ShOK E 238 w238 := shW_ok (A := { pts := [(10, [0, 1, 2])], lps := [(14, [1, 2, 15, 16, 17])], cuts := [(28, [(4, 29001, [1, 2, 15, 16, 17, 29])])] }) (S := T238) e hp (by kernel_rfl) (by kernel_rfl) (by kernel_rfl)

noncomputable def T242 (call : CallFn) (n : Nat) (K : Kont) : Sp := {
  pt := fun β j => ifF j 27 (pA4 (p242_27 call n) K) <| ifF j 33 (pA4 (p242_33 call n) K) <| ifF j 50 (pA2 (p242_50 call n) K) <| ifF j 6001 (pA4 (p242_6001 call n) K) <| noP
  fs := fun β j => noP
  rd := fun β j => ifF j 10 (pA7 (b242_10 call n (pF7 (pB 0 β))) K) <| ifF j 37 (pA7 (b242_37 call n (pF7 (pB 0 β))) K) <| noP
  lp := fun β j m => ifL j 10 (pC7 (l242_10 call n m) K) <| ifL j 37 (pC7 (l242_37 call n m) K) <| noP }
@[irreducible] noncomputable def A242 : AFun := (compFn Tryz.prog Tryz.f242).getD ⟨0, [], .skip⟩
noncomputable def w242 : Sh := shW 3 fun call n K => pA3 (s242 call n) K
theorem w242_ok {E : Env} (e : E.code 242 = some A242) (hp : E.prim 242 = none) : ShOK E 242 w242 := shW_ok (A := { pts := [(27, [2, 3, 4, 6]), (33, [2, 3, 4, 6]), (50, [2, 6])], lps := [(10, [2, 3, 4, 6, 36, 37, 38]), (37, [2, 3, 4, 6, 82, 83, 84])], cuts := [(5, [(2, 6001, [2, 3, 4, 34])])] }) (S := T242) e hp (by kernel_rfl) (by kernel_rfl) (by kernel_rfl)

noncomputable def T259 (call : CallFn) (n : Nat) (K : Kont) : Sp := {
  pt := fun β j => noP
  fs := fun β j => noP
  rd := fun β j => ifF j 8 (pA4 (b259_8 call n (pF4 (pB 0 β))) K) <| noP
  lp := fun β j m => ifL j 8 (pC4 (l259_8 call n m) K) <| noP }
@[irreducible] noncomputable def A259 : AFun := (compFn Tryz.prog Tryz.f259).getD ⟨0, [], .skip⟩
noncomputable def w259 : Sh := shW 1 fun call n K => pA1 (s259 call n) K
theorem w259_ok {E : Env} (e : E.code 259 = some A259) (hp : E.prim 259 = none) : ShOK E 259 w259 := shW_ok (A := { pts := [], lps := [(8, [3, 6, 7, 8])] }) (S := T259) e hp (by kernel_rfl) (by kernel_rfl) (by kernel_rfl)

noncomputable def T260 (call : CallFn) (n : Nat) (K : Kont) : Sp := {
  pt := fun β j => ifF j 23 (pA2 (p260_23 call n) K) <| noP
  fs := fun β j => noP
  rd := fun β j => ifF j 10 (pA5 (b260_10 call n (pF5 (pB 0 β))) K) <| noP
  lp := fun β j m => ifL j 10 (pC5 (l260_10 call n m) K) <| noP }
@[irreducible] noncomputable def A260 : AFun := (compFn Tryz.prog Tryz.f260).getD ⟨0, [], .skip⟩
noncomputable def w260 : Sh := shW 1 fun call n K => pA1 (s260 call n) K
theorem w260_ok {E : Env} (e : E.code 260 = some A260) (hp : E.prim 260 = none) : ShOK E 260 w260 := shW_ok (A := { pts := [(23, [1, 2])], lps := [(10, [1, 2, 9, 10, 11])] }) (S := T260) e hp (by kernel_rfl) (by kernel_rfl) (by kernel_rfl)

@[irreducible] noncomputable def A261 : AFun := (compFn Tryz.prog Tryz.f261).getD ⟨0, [], .skip⟩
noncomputable def w261 : Sh := shW 1 fun call n K => pA1 (s261 call n) K
theorem w261_ok {E : Env} (e : E.code 261 = some A261) (hp : E.prim 261 = none) : ShOK E 261 w261 := shW_ok (A := { pts := [], lps := [] }) (S := noS) e hp (by kernel_rfl) (by kernel_rfl) (by kernel_rfl)

noncomputable def T262 (call : CallFn) (n : Nat) (K : Kont) : Sp := {
  pt := fun β j => ifF j 4001 (pA2 (p262_4001 call n) K) <| noP
  fs := fun β j => noP
  rd := fun β j => noP
  lp := fun β j m => noP }
@[irreducible] noncomputable def A262 : AFun := (compFn Tryz.prog Tryz.f262).getD ⟨0, [], .skip⟩
noncomputable def w262 : Sh := shW 1 fun call n K => pA1 (s262 call n) K
theorem w262_ok {E : Env} (e : E.code 262 = some A262) (hp : E.prim 262 = none) : ShOK E 262 w262 := shW_ok (A := { pts := [], lps := [], cuts := [(3, [(4, 4001, [7, 10])])] }) (S := T262) e hp (by kernel_rfl) (by kernel_rfl) (by kernel_rfl)

@[irreducible] noncomputable def A263 : AFun := (compFn Tryz.prog Tryz.f263).getD ⟨0, [], .skip⟩
noncomputable def w263 : Sh := shW 1 fun call n K => pA1 (s263 call n) K
theorem w263_ok {E : Env} (e : E.code 263 = some A263) (hp : E.prim 263 = none) : ShOK E 263 w263 := shW_ok (A := { pts := [], lps := [] }) (S := noS) e hp (by kernel_rfl) (by kernel_rfl) (by kernel_rfl)

noncomputable def T264 (call : CallFn) (n : Nat) (K : Kont) : Sp := {
  pt := fun β j => ifF j 18 (pA4 (p264_18 call n) K) <| ifF j 12001 (pA2 (p264_12001 call n) K) <| noP
  fs := fun β j => noP
  rd := fun β j => ifF j 32 (pA4 (b264_32 call n (pF4 (pB 0 β))) K) <| noP
  lp := fun β j m => ifL j 32 (pC4 (l264_32 call n m) K) <| noP }
@[irreducible] noncomputable def A264 : AFun := (compFn Tryz.prog Tryz.f264).getD ⟨0, [], .skip⟩
noncomputable def w264 : Sh := shW 2 fun call n K => pA2 (s264 call n) K
theorem w264_ok {E : Env} (e : E.code 264 = some A264) (hp : E.prim 264 = none) : ShOK E 264 w264 := shW_ok (A := { pts := [(18, [0, 3, 14, 24])], lps := [(32, [0, 52, 53, 54])], cuts := [(11, [(4, 12001, [17, 20])])] }) (S := T264) e hp (by kernel_rfl) (by kernel_rfl) (by kernel_rfl)

@[irreducible] noncomputable def A265 : AFun := (compFn Tryz.prog Tryz.f265).getD ⟨0, [], .skip⟩
noncomputable def w265 : Sh := shW 2 fun call n K => pA2 (s265 call n) K
theorem w265_ok {E : Env} (e : E.code 265 = some A265) (hp : E.prim 265 = none) : ShOK E 265 w265 := shW_ok (A := { pts := [], lps := [] }) (S := noS) e hp (by kernel_rfl) (by kernel_rfl) (by kernel_rfl)

noncomputable def T266 (call : CallFn) (n : Nat) (K : Kont) : Sp := {
  pt := fun β j => ifF j 4001 (pA2 (p266_4001 call n) K) <| ifF j 4002 (pA3 (p266_4002 call n) K) <| noP
  fs := fun β j => noP
  rd := fun β j => noP
  lp := fun β j m => noP }
@[irreducible] noncomputable def A266 : AFun := (compFn Tryz.prog Tryz.f266).getD ⟨0, [], .skip⟩
noncomputable def w266 : Sh := shW 1 fun call n K => pA1 (s266 call n) K
theorem w266_ok {E : Env} (e : E.code 266 = some A266) (hp : E.prim 266 = none) : ShOK E 266 w266 := shW_ok (A := { pts := [], lps := [], cuts := [(3, [(2, 4001, [0, 4]), (3, 4002, [0, 5, 7])])] }) (S := T266) e hp (by kernel_rfl) (by kernel_rfl) (by kernel_rfl)

@[irreducible] noncomputable def A267 : AFun := (compFn Tryz.prog Tryz.f267).getD ⟨0, [], .skip⟩
noncomputable def w267 : Sh := shW 2 fun call n K => pA2 (s267 call n) K
theorem w267_ok {E : Env} (e : E.code 267 = some A267) (hp : E.prim 267 = none) : ShOK E 267 w267 := shW_ok (A := { pts := [], lps := [] }) (S := noS) e hp (by kernel_rfl) (by kernel_rfl) (by kernel_rfl)

@[irreducible] noncomputable def A268 : AFun := (compFn Tryz.prog Tryz.f268).getD ⟨0, [], .skip⟩
noncomputable def w268 : Sh := shW 2 fun call n K => pA2 (s268 call n) K
theorem w268_ok {E : Env} (e : E.code 268 = some A268) (hp : E.prim 268 = none) : ShOK E 268 w268 := shW_ok (A := { pts := [], lps := [] }) (S := noS) e hp (by kernel_rfl) (by kernel_rfl) (by kernel_rfl)

noncomputable def T274 (call : CallFn) (n : Nat) (K : Kont) : Sp := {
  pt := fun β j => ifF j 24 (pA1 (p274_24 call n) K) <| ifF j 44001 (pA1 (p274_44001 call n) K) <| noP
  fs := fun β j => noP
  rd := fun β j => noP
  lp := fun β j m => noP }
@[irreducible] noncomputable def A274 : AFun := (compFn Tryz.prog Tryz.f274).getD ⟨0, [], .skip⟩
noncomputable def w274 : Sh := shW 2 fun call n K => pA2 (s274 call n) K
theorem w274_ok {E : Env} (e : E.code 274 = some A274) (hp : E.prim 274 = none) : ShOK E 274 w274 := shW_ok (A := { pts := [(24, [6])], lps := [], cuts := [(43, [(6, 44001, [50])])] }) (S := T274) e hp (by kernel_rfl) (by kernel_rfl) (by kernel_rfl)

noncomputable def T275 (call : CallFn) (n : Nat) (K : Kont) : Sp := {
  pt := fun β j => ifF j 18 (pA4 (p275_18 call n) K) <| ifF j 62 (pA5 (p275_62 call n (pF4 (pB 0 β))) K) <| ifF j 64 (pA1 (p275_64 call n) K) <| ifF j 100 (pA1 (p275_100 call n) K) <| noP
  fs := fun β j => noP
  rd := fun β j => ifF j 45 (pA4 (b275_45 call n (pF4 (pB 0 β))) K) <| noP
  lp := fun β j m => ifL j 45 (pC4 (l275_45 call n m) K) <| noP }
@[irreducible] noncomputable def A275 : AFun := (compFn Tryz.prog Tryz.f275).getD ⟨0, [], .skip⟩
noncomputable def w275 : Sh := shW 2 fun call n K => pA2 (s275 call n) K
theorem w275_ok {E : Env} (e : E.code 275 = some A275) (hp : E.prim 275 = none) : ShOK E 275 w275 := shW_ok (A := { pts := [(18, [2, 3, 9, 17]), (62, [2, 5, 60, 61, 62]), (64, [2]), (100, [2])], lps := [(45, [2, 60, 61, 62])] }) (S := T275) e hp (by kernel_rfl) (by kernel_rfl) (by kernel_rfl)

noncomputable def T278 (call : CallFn) (n : Nat) (K : Kont) : Sp := {
  pt := fun β j => ifF j 10 (pA3 (p278_10 call n) K) <| ifF j 29001 (pA6 (p278_29001 call n (pF5 (pB 0 β))) K) <| noP
  fs := fun β j => noP
  rd := fun β j => ifF j 14 (pA5 (b278_14 call n (pF5 (pB 0 β))) K) <| noP
  lp := fun β j m => ifL j 14 (pC5 (l278_14 call n m) K) <| noP }
@[irreducible] noncomputable def A278 : AFun := (compFn Tryz.prog Tryz.f278).getD ⟨0, [], .skip⟩
noncomputable def w278 : Sh := shW 3 fun call n K => pA3 (s278 call n) K
theorem w278_ok {E : Env} (e : E.code 278 = some A278) (hp : E.prim 278 = none) : ShOK E 278 w278 := shW_ok (A := { pts := [(10, [0, 1, 2])], lps := [(14, [1, 2, 15, 16, 17])], cuts := [(28, [(4, 29001, [1, 2, 15, 16, 17, 29])])] }) (S := T278) e hp (by kernel_rfl) (by kernel_rfl) (by kernel_rfl)

noncomputable def T279 (call : CallFn) (n : Nat) (K : Kont) : Sp := {
  pt := fun β j => ifF j 4001 (pA4 (p279_4001 call n) K) <| ifF j 4002 (pA4 (p279_4002 call n) K) <| ifF j 4003 (pA4 (p279_4003 call n) K) <| ifF j 4004 (pA4 (p279_4004 call n) K) <| ifF j 4005 (pA4 (p279_4005 call n) K) <| ifF j 4006 (pA4 (p279_4006 call n) K) <| ifF j 4007 (pA2 (p279_4007 call n) K) <| noP
  fs := fun β j => noP
  rd := fun β j => noP
  lp := fun β j m => noP }
@[irreducible] noncomputable def A279 : AFun := (compFn Tryz.prog Tryz.f279).getD ⟨0, [], .skip⟩
noncomputable def w279 : Sh := shW 2 fun call n K => pA2 (s279 call n) K
theorem w279_ok {E : Env} (e : E.code 279 = some A279) (hp : E.prim 279 = none) : ShOK E 279 w279 := shW_ok (A := { pts := [], lps := [], cuts := [(3, [(39, 4001, [2, 3, 38, 43]), (7, 4002, [2, 3, 45, 50]), (7, 4003, [2, 3, 52, 57]), (7, 4004, [2, 3, 59, 64]), (7, 4005, [2, 3, 66, 71]), (7, 4006, [2, 3, 73, 78]), (7, 4007, [80, 85])])] }) (S := T279) e hp (by kernel_rfl) (by kernel_rfl) (by kernel_rfl)

noncomputable def T282 (call : CallFn) (n : Nat) (K : Kont) : Sp := {
  pt := fun β j => ifF j 4001 (pA4 (p282_4001 call n) K) <| ifF j 4002 (pA2 (p282_4002 call n) K) <| noP
  fs := fun β j => noP
  rd := fun β j => noP
  lp := fun β j m => noP }
@[irreducible] noncomputable def A282 : AFun := (compFn Tryz.prog Tryz.f282).getD ⟨0, [], .skip⟩
noncomputable def w282 : Sh := shW 2 fun call n K => pA2 (s282 call n) K
theorem w282_ok {E : Env} (e : E.code 282 = some A282) (hp : E.prim 282 = none) : ShOK E 282 w282 := shW_ok (A := { pts := [], lps := [], cuts := [(3, [(18, 4001, [2, 3, 17, 22]), (7, 4002, [24, 29])])] }) (S := T282) e hp (by kernel_rfl) (by kernel_rfl) (by kernel_rfl)

noncomputable def T284 (call : CallFn) (n : Nat) (K : Kont) : Sp := {
  pt := fun β j => noP
  fs := fun β j => noP
  rd := fun β j => ifF j 3 (pA2 (b284_3 call n (pF2 (pB 0 β))) K) <| noP
  lp := fun β j m => ifL j 3 (pC2 (l284_3 call n m) K) <| noP }
@[irreducible] noncomputable def A284 : AFun := (compFn Tryz.prog Tryz.f284).getD ⟨0, [], .skip⟩
noncomputable def w284 : Sh := shW 2 fun call n K => pA2 (s284 call n) K
theorem w284_ok {E : Env} (e : E.code 284 = some A284) (hp : E.prim 284 = none) : ShOK E 284 w284 := shW_ok (A := { pts := [], lps := [(3, [0, 7])] }) (S := T284) e hp (by kernel_rfl) (by kernel_rfl) (by kernel_rfl)

noncomputable def T293 (call : CallFn) (n : Nat) (K : Kont) : Sp := {
  pt := fun β j => ifF j 39 (pA3 (p293_39 call n) K) <| ifF j 64 (pA2 (p293_64 call n) K) <| ifF j 55001 (pA7 (p293_55001 call n (pF6 (pB 0 β))) K) <| noP
  fs := fun β j => noP
  rd := fun β j => ifF j 42 (pA6 (b293_42 call n (pF6 (pB 0 β))) K) <| noP
  lp := fun β j m => ifL j 42 (pC6 (l293_42 call n m) K) <| noP }
@[irreducible] noncomputable def A293 : AFun := (compFn Tryz.prog Tryz.f293).getD ⟨0, [], .skip⟩
noncomputable def w293 : Sh := shW 2 fun call n K => pA2 (s293 call n) K
theorem w293_ok {E : Env} (e : E.code 293 = some A293) (hp : E.prim 293 = none) : ShOK E 293 w293 := shW_ok (A := { pts := [(39, [1, 2, 5]), (64, [2, 5])], lps := [(42, [1, 2, 5, 47, 48, 49])], cuts := [(54, [(4, 55001, [1, 2, 5, 47, 48, 49, 56])])] }) (S := T293) e hp (by kernel_rfl) (by kernel_rfl) (by kernel_rfl)

@[irreducible] noncomputable def A297 : AFun := (compFn Tryz.prog Tryz.f297).getD ⟨0, [], .skip⟩
noncomputable def w297 : Sh := shW 2 fun call n K => pA2 (s297 call n) K
theorem w297_ok {E : Env} (e : E.code 297 = some A297) (hp : E.prim 297 = none) : ShOK E 297 w297 := shW_ok (A := { pts := [], lps := [] }) (S := noS) e hp (by kernel_rfl) (by kernel_rfl) (by kernel_rfl)

@[irreducible] noncomputable def A299 : AFun := (compFn Tryz.prog Tryz.f299).getD ⟨0, [], .skip⟩
noncomputable def w299 : Sh := shW 1 fun call n K => pA1 (s299 call n) K
theorem w299_ok {E : Env} (e : E.code 299 = some A299) (hp : E.prim 299 = none) : ShOK E 299 w299 := shW_ok (A := { pts := [], lps := [] }) (S := noS) e hp (by kernel_rfl) (by kernel_rfl) (by kernel_rfl)

@[irreducible] noncomputable def A303 : AFun := (compFn Tryz.prog Tryz.f303).getD ⟨0, [], .skip⟩
noncomputable def w303 : Sh := shW 1 fun call n K => pA1 (s303 call n) K
theorem w303_ok {E : Env} (e : E.code 303 = some A303) (hp : E.prim 303 = none) : ShOK E 303 w303 := shW_ok (A := { pts := [], lps := [] }) (S := noS) e hp (by kernel_rfl) (by kernel_rfl) (by kernel_rfl)

noncomputable def T304 (call : CallFn) (n : Nat) (K : Kont) : Sp := {
  pt := fun β j => ifF j 8 (pA2 (p304_8 call n) K) <| ifF j 18 (pA2 (p304_18 call n) K) <| noP
  fs := fun β j => noP
  rd := fun β j => noP
  lp := fun β j m => noP }
@[irreducible] noncomputable def A304 : AFun := (compFn Tryz.prog Tryz.f304).getD ⟨0, [], .skip⟩
noncomputable def w304 : Sh := shW 2 fun call n K => pA2 (s304 call n) K
theorem w304_ok {E : Env} (e : E.code 304 = some A304) (hp : E.prim 304 = none) : ShOK E 304 w304 := shW_ok (A := { pts := [(8, [2, 3]), (18, [2, 3])], lps := [] }) (S := T304) e hp (by kernel_rfl) (by kernel_rfl) (by kernel_rfl)

noncomputable def T311 (call : CallFn) (n : Nat) (K : Kont) : Sp := {
  pt := fun β j => ifF j 10 (pA2 (p311_10 call n) K) <| noP
  fs := fun β j => noP
  rd := fun β j => ifF j 14 (pA4 (b311_14 call n (pF4 (pB 0 β))) K) <| noP
  lp := fun β j m => ifL j 14 (pC4 (l311_14 call n m) K) <| noP }
@[irreducible] noncomputable def A311 : AFun := (compFn Tryz.prog Tryz.f311).getD ⟨0, [], .skip⟩
noncomputable def w311 : Sh := shW 2 fun call n K => pA2 (s311 call n) K
theorem w311_ok {E : Env} (e : E.code 311 = some A311) (hp : E.prim 311 = none) : ShOK E 311 w311 := shW_ok (A := { pts := [(10, [0, 1])], lps := [(14, [0, 1, 12, 13])] }) (S := T311) e hp (by kernel_rfl) (by kernel_rfl) (by kernel_rfl)

noncomputable def T312 (call : CallFn) (n : Nat) (K : Kont) : Sp := {
  pt := fun β j => ifF j 10 (pA3 (p312_10 call n) K) <| ifF j 29001 (pA6 (p312_29001 call n (pF5 (pB 0 β))) K) <| noP
  fs := fun β j => noP
  rd := fun β j => ifF j 14 (pA5 (b312_14 call n (pF5 (pB 0 β))) K) <| noP
  lp := fun β j m => ifL j 14 (pC5 (l312_14 call n m) K) <| noP }
@[irreducible] noncomputable def A312 : AFun := (compFn Tryz.prog Tryz.f312).getD ⟨0, [], .skip⟩
noncomputable def w312 : Sh := shW 3 fun call n K => pA3 (s312 call n) K
theorem w312_ok {E : Env} (e : E.code 312 = some A312) (hp : E.prim 312 = none) : ShOK E 312 w312 := shW_ok (A := { pts := [(10, [0, 1, 2])], lps := [(14, [1, 2, 15, 16, 17])], cuts := [(28, [(4, 29001, [1, 2, 15, 16, 17, 29])])] }) (S := T312) e hp (by kernel_rfl) (by kernel_rfl) (by kernel_rfl)

noncomputable def T313 (call : CallFn) (n : Nat) (K : Kont) : Sp := {
  pt := fun β j => ifF j 10 (pA3 (p313_10 call n) K) <| ifF j 29001 (pA6 (p313_29001 call n (pF5 (pB 0 β))) K) <| noP
  fs := fun β j => noP
  rd := fun β j => ifF j 14 (pA5 (b313_14 call n (pF5 (pB 0 β))) K) <| noP
  lp := fun β j m => ifL j 14 (pC5 (l313_14 call n m) K) <| noP }
@[irreducible] noncomputable def A313 : AFun := (compFn Tryz.prog Tryz.f313).getD ⟨0, [], .skip⟩
noncomputable def w313 : Sh := shW 3 fun call n K => pA3 (s313 call n) K
theorem w313_ok {E : Env} (e : E.code 313 = some A313) (hp : E.prim 313 = none) : ShOK E 313 w313 := shW_ok (A := { pts := [(10, [0, 1, 2])], lps := [(14, [1, 2, 15, 16, 17])], cuts := [(28, [(4, 29001, [1, 2, 15, 16, 17, 29])])] }) (S := T313) e hp (by kernel_rfl) (by kernel_rfl) (by kernel_rfl)

noncomputable def T314 (call : CallFn) (n : Nat) (K : Kont) : Sp := {
  pt := fun β j => ifF j 10 (pA3 (p314_10 call n) K) <| ifF j 29001 (pA6 (p314_29001 call n (pF5 (pB 0 β))) K) <| noP
  fs := fun β j => noP
  rd := fun β j => ifF j 14 (pA5 (b314_14 call n (pF5 (pB 0 β))) K) <| noP
  lp := fun β j m => ifL j 14 (pC5 (l314_14 call n m) K) <| noP }
@[irreducible] noncomputable def A314 : AFun := (compFn Tryz.prog Tryz.f314).getD ⟨0, [], .skip⟩
noncomputable def w314 : Sh := shW 3 fun call n K => pA3 (s314 call n) K
theorem w314_ok {E : Env} (e : E.code 314 = some A314) (hp : E.prim 314 = none) : ShOK E 314 w314 := shW_ok (A := { pts := [(10, [0, 1, 2])], lps := [(14, [1, 2, 15, 16, 17])], cuts := [(28, [(4, 29001, [1, 2, 15, 16, 17, 29])])] }) (S := T314) e hp (by kernel_rfl) (by kernel_rfl) (by kernel_rfl)

noncomputable def T316 (call : CallFn) (n : Nat) (K : Kont) : Sp := {
  pt := fun β j => ifF j 4001 (pA2 (p316_4001 call n) K) <| noP
  fs := fun β j => noP
  rd := fun β j => noP
  lp := fun β j m => noP }
@[irreducible] noncomputable def A316 : AFun := (compFn Tryz.prog Tryz.f316).getD ⟨0, [], .skip⟩
noncomputable def w316 : Sh := shW 2 fun call n K => pA2 (s316 call n) K
theorem w316_ok {E : Env} (e : E.code 316 = some A316) (hp : E.prim 316 = none) : ShOK E 316 w316 := shW_ok (A := { pts := [], lps := [], cuts := [(3, [(32, 4001, [31, 36])])] }) (S := T316) e hp (by kernel_rfl) (by kernel_rfl) (by kernel_rfl)

noncomputable def T326 (call : CallFn) (n : Nat) (K : Kont) : Sp := {
  pt := fun β j => ifF j 20 (pA6 (p326_20 call n (pF5 (pB 0 β))) K) <| noP
  fs := fun β j => noP
  rd := fun β j => ifF j 3 (pA5 (b326_3 call n (pF5 (pB 0 β))) K) <| noP
  lp := fun β j m => ifL j 3 (pC5 (l326_3 call n m) K) <| noP }
@[irreducible] noncomputable def A326 : AFun := (compFn Tryz.prog Tryz.f326).getD ⟨0, [], .skip⟩
noncomputable def w326 : Sh := shW 3 fun call n K => pA3 (s326 call n) K
theorem w326_ok {E : Env} (e : E.code 326 = some A326) (hp : E.prim 326 = none) : ShOK E 326 w326 := shW_ok (A := { pts := [(20, [0, 2, 7, 8, 9, 10])], lps := [(3, [0, 2, 8, 9, 10])] }) (S := T326) e hp (by kernel_rfl) (by kernel_rfl) (by kernel_rfl)

@[irreducible] noncomputable def A328 : AFun := (compFn Tryz.prog Tryz.f328).getD ⟨0, [], .skip⟩
noncomputable def w328 : Sh := shW 2 fun call n K => pA2 (s328 call n) K
theorem w328_ok {E : Env} (e : E.code 328 = some A328) (hp : E.prim 328 = none) : ShOK E 328 w328 := shW_ok (A := { pts := [], lps := [] }) (S := noS) e hp (by kernel_rfl) (by kernel_rfl) (by kernel_rfl)

noncomputable def T330 (call : CallFn) (n : Nat) (K : Kont) : Sp := {
  pt := fun β j => ifF j 10 (pA3 (p330_10 call n) K) <| ifF j 29001 (pA6 (p330_29001 call n (pF5 (pB 0 β))) K) <| noP
  fs := fun β j => noP
  rd := fun β j => ifF j 14 (pA5 (b330_14 call n (pF5 (pB 0 β))) K) <| noP
  lp := fun β j m => ifL j 14 (pC5 (l330_14 call n m) K) <| noP }
@[irreducible] noncomputable def A330 : AFun := (compFn Tryz.prog Tryz.f330).getD ⟨0, [], .skip⟩
noncomputable def w330 : Sh := shW 3 fun call n K => pA3 (s330 call n) K
theorem w330_ok {E : Env} (e : E.code 330 = some A330) (hp : E.prim 330 = none) : ShOK E 330 w330 := shW_ok (A := { pts := [(10, [0, 1, 2])], lps := [(14, [1, 2, 15, 16, 17])], cuts := [(28, [(4, 29001, [1, 2, 15, 16, 17, 29])])] }) (S := T330) e hp (by kernel_rfl) (by kernel_rfl) (by kernel_rfl)

noncomputable def T334 (call : CallFn) (n : Nat) (K : Kont) : Sp := {
  pt := fun β j => ifF j 20 (pA6 (p334_20 call n (pF5 (pB 0 β))) K) <| noP
  fs := fun β j => noP
  rd := fun β j => ifF j 3 (pA5 (b334_3 call n (pF5 (pB 0 β))) K) <| noP
  lp := fun β j m => ifL j 3 (pC5 (l334_3 call n m) K) <| noP }
@[irreducible] noncomputable def A334 : AFun := (compFn Tryz.prog Tryz.f334).getD ⟨0, [], .skip⟩
noncomputable def w334 : Sh := shW 3 fun call n K => pA3 (s334 call n) K
theorem w334_ok {E : Env} (e : E.code 334 = some A334) (hp : E.prim 334 = none) : ShOK E 334 w334 := shW_ok (A := { pts := [(20, [0, 2, 7, 8, 9, 10])], lps := [(3, [0, 2, 8, 9, 10])] }) (S := T334) e hp (by kernel_rfl) (by kernel_rfl) (by kernel_rfl)

end Go.Proofs.YtnddpaeagljnbaaGreatDoor
