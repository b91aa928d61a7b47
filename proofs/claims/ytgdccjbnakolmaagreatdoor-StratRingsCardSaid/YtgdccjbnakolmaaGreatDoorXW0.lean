/-
  The functions say no more than the code: so the kernel finds (printed by wip/tools/gen2.py).
-/
import Derived.Test.YtgdccjbnakolmaaGreatDoorXS1
import Derived.Test.YtgdccjbnakolmaaGreatDoorAbDn
import Derived.Test.YtgdccjbnakolmaaGreatDoorProg
import Derived.KernelRfl
namespace Go.Proofs.YtgdccjbnakolmaaGreatDoor
open Go.Ab
set_option linter.unusedVariables false

noncomputable def T4 (call : CallFn) (n : Nat) (K : Kont) : Sp := {
  pt := fun β j => ifF j 6001 (pA3 (p4_6001 call n) K) <| noP
  fs := fun β j => noP
  rd := fun β j => noP
  lp := fun β j m => noP }
@[irreducible] noncomputable def A4 : AFun := (compFn Tryz.prog Tryz.f4).getD ⟨0, [], .skip⟩
noncomputable def w4 : Sh := shW 1 fun call n K => pA1 (s4 call n) K
theorem w4_ok {E : Env} (e : E.code 4 = some A4) (hp : E.prim 4 = none) : ShOK E 4 w4 := shW_ok (A := { pts := [], lps := [], cuts := [(5, [(3, 6001, [2, 5, 11])])] }) (S := T4) e hp (by kernel_rfl) (by kernel_rfl) (by kernel_rfl)

noncomputable def T5 (call : CallFn) (n : Nat) (K : Kont) : Sp := {
  pt := fun β j => ifF j 4001 (pA1 (p5_4001 call n) K) <| noP
  fs := fun β j => noP
  rd := fun β j => noP
  lp := fun β j m => noP }
@[irreducible] noncomputable def A5 : AFun := (compFn Tryz.prog Tryz.f5).getD ⟨0, [], .skip⟩
noncomputable def w5 : Sh := shW 1 fun call n K => pA1 (s5 call n) K
theorem w5_ok {E : Env} (e : E.code 5 = some A5) (hp : E.prim 5 = none) : ShOK E 5 w5 := shW_ok (A := { pts := [], lps := [], cuts := [(3, [(2, 4001, [7])])] }) (S := T5) e hp (by kernel_rfl) (by kernel_rfl) (by kernel_rfl)

noncomputable def T6 (call : CallFn) (n : Nat) (K : Kont) : Sp := {
  pt := fun β j => ifF j 4001 (pA2 (p6_4001 call n) K) <| noP
  fs := fun β j => noP
  rd := fun β j => noP
  lp := fun β j m => noP }
@[irreducible] noncomputable def A6 : AFun := (compFn Tryz.prog Tryz.f6).getD ⟨0, [], .skip⟩
noncomputable def w6 : Sh := shW 1 fun call n K => pA1 (s6 call n) K
theorem w6_ok {E : Env} (e : E.code 6 = some A6) (hp : E.prim 6 = none) : ShOK E 6 w6 := shW_ok (A := { pts := [], lps := [], cuts := [(3, [(2, 4001, [2, 8])])] }) (S := T6) e hp (by kernel_rfl) (by kernel_rfl) (by kernel_rfl)

noncomputable def T7 (call : CallFn) (n : Nat) (K : Kont) : Sp := {
  pt := fun β j => ifF j 12 (pA2 (p7_12 call n) K) <| ifF j 22 (pA2 (p7_22 call n) K) <| ifF j 35 (pA5 (p7_35 call n (pF5 (pB 0 β))) K) <| ifF j 50 (pA6 (p7_50 call n (pF5 (pB 0 β))) K) <| ifF j 51 (pA5 (p7_51 call n (pF5 (pB 0 β))) K) <| ifF j 52 (pA1 (p7_52 call n) K) <| ifF j 4001 (pA2 (p7_4001 call n) K) <| ifF j 14001 (pA2 (p7_14001 call n) K) <| noP
  fs := fun β j => noP
  rd := fun β j => ifF j 28 (pA5 (b7_28 call n (pF5 (pB 0 β))) K) <| ifF j 41 (pA6 (b7_41 call n (pF5 (pB 1 β)) (pF6 (pB 0 β))) K) <| noP
  lp := fun β j m => ifL j 28 (pC5 (l7_28 call n m) K) <| ifL j 41 (pC6 (l7_41 call n (pF5 (pB 0 β)) m) K) <| noP }
@[irreducible] noncomputable def A7 : AFun := (compFn Tryz.prog Tryz.f7).getD ⟨0, [], .skip⟩
noncomputable def w7 : Sh := shW 1 fun call n K => pA1 (s7 call n) K
theorem w7_ok {E : Env} (e : E.code 7 = some A7) (hp : E.prim 7 = none) : ShOK E 7 w7 := shW_ok (A := { pts := [(12, [1, 4]), (22, [1, 6]), (35, [6, 8, 28, 29, 30]), (50, [6, 8, 10, 28, 29, 30]), (51, [6, 8, 28, 29, 30]), (52, [8])], lps := [(28, [6, 8, 28, 29, 30]), (41, [6, 8, 10, 28, 29, 30])], cuts := [(3, [(2, 4001, [1, 13])]), (13, [(3, 14001, [1, 22])])] }) (S := T7) e hp (by kernel_rfl) (by kernel_rfl) (by kernel_rfl)

noncomputable def T8 (call : CallFn) (n : Nat) (K : Kont) : Sp := {
  pt := fun β j => ifF j 6001 (pA2 (p8_6001 call n) K) <| ifF j 8001 (pA3 (p8_8001 call n) K) <| ifF j 10001 (pA3 (p8_10001 call n) K) <| ifF j 10002 (pA3 (p8_10002 call n) K) <| noP
  fs := fun β j => noP
  rd := fun β j => noP
  lp := fun β j m => noP }
@[irreducible] noncomputable def A8 : AFun := (compFn Tryz.prog Tryz.f8).getD ⟨0, [], .skip⟩
noncomputable def w8 : Sh := shW 0 fun call n K => pA0 (s8 call n) K
theorem w8_ok {E : Env} (e : E.code 8 = some A8) (hp : E.prim 8 = none) : ShOK E 8 w8 := shW_ok (A := { pts := [], lps := [], cuts := [(5, [(3, 6001, [1, 8])]), (7, [(3, 8001, [1, 2, 12])]), (9, [(3, 10001, [2, 3, 17]), (1, 10002, [2, 3, 18])])] }) (S := T8) e hp (by kernel_rfl) (by kernel_rfl) (by kernel_rfl)

noncomputable def T9 (call : CallFn) (n : Nat) (K : Kont) : Sp := {
  pt := fun β j => ifF j 4001 (pA3 (p9_4001 call n) K) <| ifF j 14001 (pA1 (p9_14001 call n) K) <| noP
  fs := fun β j => noP
  rd := fun β j => noP
  lp := fun β j m => noP }
@[irreducible] noncomputable def A9 : AFun := (compFn Tryz.prog Tryz.f9).getD ⟨0, [], .skip⟩
noncomputable def w9 : Sh := shW 2 fun call n K => pA2 (s9 call n) K
theorem w9_ok {E : Env} (e : E.code 9 = some A9) (hp : E.prim 9 = none) : ShOK E 9 w9 := shW_ok (A := { pts := [], lps := [], cuts := [(3, [(2, 4001, [0, 1, 9])]), (13, [(5, 14001, [21])])] }) (S := T9) e hp (by kernel_rfl) (by kernel_rfl) (by kernel_rfl)

noncomputable def T10 (call : CallFn) (n : Nat) (K : Kont) : Sp := {
  pt := fun β j => ifF j 1001 (pA2 (p10_1001 call n) K) <| noP
  fs := fun β j => noP
  rd := fun β j => noP
  lp := fun β j m => noP }
@[irreducible] noncomputable def A10 : AFun := (compFn Tryz.prog Tryz.f10).getD ⟨0, [], .skip⟩
noncomputable def w10 : Sh := shW 2 fun call n K => pA2 (s10 call n) K
theorem w10_ok {E : Env} (e : E.code 10 = some A10) (hp : E.prim 10 = none) : ShOK E 10 w10 := shW_ok (A := { pts := [], lps := [], cuts := [(0, [(2, 1001, [1, 4])])] }) (S := T10) e hp (by kernel_rfl) (by kernel_rfl) (by kernel_rfl)

noncomputable def T11 (call : CallFn) (n : Nat) (K : Kont) : Sp := {
  pt := fun β j => ifF j 26 (pA2 (p11_26 call n) K) <| noP
  fs := fun β j => noP
  rd := fun β j => ifF j 6 (pA3 (b11_6 call n (pF3 (pB 0 β))) K) <| noP
  lp := fun β j m => ifL j 6 (pC3 (l11_6 call n m) K) <| noP }
@[irreducible] noncomputable def A11 : AFun := (compFn Tryz.prog Tryz.f11).getD ⟨0, [], .skip⟩
noncomputable def w11 : Sh := shW 1 fun call n K => pA1 (s11 call n) K
theorem w11_ok {E : Env} (e : E.code 11 = some A11) (hp : E.prim 11 = none) : ShOK E 11 w11 := shW_ok (A := { pts := [(26, [2, 3])], lps := [(6, [0, 2, 3])] }) (S := T11) e hp (by kernel_rfl) (by kernel_rfl) (by kernel_rfl)

noncomputable def T12 (call : CallFn) (n : Nat) (K : Kont) : Sp := {
  pt := fun β j => ifF j 12 (pA1 (p12_12 call n) K) <| ifF j 25 (pA5 (p12_25 call n (pF5 (pB 0 β))) K) <| ifF j 50 (pA9 (p12_50 call n (pF5 (pB 1 β)) (pF9 (pB 0 β))) K) <| ifF j 51 (pA5 (p12_51 call n (pF5 (pB 0 β))) K) <| ifF j 52 (pA1 (p12_52 call n) K) <| ifF j 69 (pA1 (p12_69 call n) K) <| ifF j 5001 (pA2 (p12_5001 call n) K) <| noP
  fs := fun β j => noP
  rd := fun β j => ifF j 18 (pA5 (b12_18 call n (pF5 (pB 0 β))) K) <| ifF j 32 (pA9 (b12_32 call n (pF5 (pB 1 β)) (pF9 (pB 0 β))) K) <| ifF j 58 (pA2 (b12_58 call n (pF2 (pB 0 β))) K) <| noP
  lp := fun β j m => ifL j 18 (pC5 (l12_18 call n m) K) <| ifL j 32 (pC9 (l12_32 call n (pF5 (pB 0 β)) m) K) <| ifL j 58 (pC2 (l12_58 call n m) K) <| noP }
@[irreducible] noncomputable def A12 : AFun := (compFn Tryz.prog Tryz.f12).getD ⟨0, [], .skip⟩
noncomputable def w12 : Sh := shW 1 fun call n K => pA1 (s12 call n) K
theorem w12_ok {E : Env} (e : E.code 12 = some A12) (hp : E.prim 12 = none) : ShOK E 12 w12 := shW_ok (A := { pts := [(12, [1]), (25, [1, 6, 25, 26, 27]), (50, [1, 6, 8, 25, 26, 27, 32, 33, 34]), (51, [1, 6, 25, 26, 27]), (52, [6]), (69, [12])], lps := [(18, [1, 6, 25, 26, 27]), (32, [1, 6, 8, 25, 26, 27, 32, 33, 34]), (58, [12, 55])], cuts := [(4, [(2, 5001, [1, 17])])] }) (S := T12) e hp (by kernel_rfl) (by kernel_rfl) (by kernel_rfl)

noncomputable def T13 (call : CallFn) (n : Nat) (K : Kont) : Sp := {
  pt := fun β j => ifF j 23 (pA7 (p13_23 call n (pF4 (pB 2 β)) (pF4 (pB 1 β)) (pF7 (pB 0 β))) K) <| ifF j 58 (pA13 (p13_58 call n (pF4 (pB 3 β)) (pF4 (pB 2 β)) (pF7 (pB 1 β)) (pF12 (pB 0 β))) K) <| ifF j 59 (pA12 (p13_59 call n (pF4 (pB 3 β)) (pF4 (pB 2 β)) (pF7 (pB 1 β)) (pF12 (pB 0 β))) K) <| ifF j 60 (pA9 (p13_60 call n (pF4 (pB 2 β)) (pF4 (pB 1 β)) (pF7 (pB 0 β))) K) <| ifF j 75 (pA7 (p13_75 call n (pF4 (pB 2 β)) (pF4 (pB 1 β)) (pF7 (pB 0 β))) K) <| ifF j 95 (pA7 (p13_95 call n (pF4 (pB 2 β)) (pF4 (pB 1 β)) (pF7 (pB 0 β))) K) <| ifF j 130 (pA13 (p13_130 call n (pF4 (pB 3 β)) (pF4 (pB 2 β)) (pF7 (pB 1 β)) (pF12 (pB 0 β))) K) <| ifF j 131 (pA12 (p13_131 call n (pF4 (pB 3 β)) (pF4 (pB 2 β)) (pF7 (pB 1 β)) (pF12 (pB 0 β))) K) <| ifF j 132 (pA9 (p13_132 call n (pF4 (pB 2 β)) (pF4 (pB 1 β)) (pF7 (pB 0 β))) K) <| ifF j 147 (pA7 (p13_147 call n (pF4 (pB 2 β)) (pF4 (pB 1 β)) (pF7 (pB 0 β))) K) <| ifF j 5001 (pA3 (p13_5001 call n (pF4 (pB 0 β))) K) <| ifF j 47001 (pA14 (p13_47001 call n (pF4 (pB 3 β)) (pF4 (pB 2 β)) (pF7 (pB 1 β)) (pF12 (pB 0 β))) K) <| ifF j 119001 (pA14 (p13_119001 call n (pF4 (pB 3 β)) (pF4 (pB 2 β)) (pF7 (pB 1 β)) (pF12 (pB 0 β))) K) <| noP
  fs := fun β j => ifF j 2 (pA2 (f13_2 call n (pF4 (pB 0 β))) K) <| noP
  rd := fun β j => ifF j 2 (pA4 (j13_2 call n (pF4 (pB 0 β))) K) <| ifF j 10 (pA4 (b13_10 call n (pF4 (pB 1 β)) (pF4 (pB 0 β))) K) <| ifF j 16 (pA7 (b13_16 call n (pF4 (pB 2 β)) (pF4 (pB 1 β)) (pF7 (pB 0 β))) K) <| ifF j 33 (pA12 (b13_33 call n (pF4 (pB 3 β)) (pF4 (pB 2 β)) (pF7 (pB 1 β)) (pF12 (pB 0 β))) K) <| ifF j 82 (pA4 (b13_82 call n (pF4 (pB 1 β)) (pF4 (pB 0 β))) K) <| ifF j 88 (pA7 (b13_88 call n (pF4 (pB 2 β)) (pF4 (pB 1 β)) (pF7 (pB 0 β))) K) <| ifF j 105 (pA12 (b13_105 call n (pF4 (pB 3 β)) (pF4 (pB 2 β)) (pF7 (pB 1 β)) (pF12 (pB 0 β))) K) <| noP
  lp := fun β j m => ifL j 2 (pC4 (g13_2 call n m) K) <| ifL j 10 (pC4 (l13_10 call n (pF4 (pB 0 β)) m) K) <| ifL j 16 (pC7 (l13_16 call n (pF4 (pB 1 β)) (pF4 (pB 0 β)) m) K) <| ifL j 33 (pC12 (l13_33 call n (pF4 (pB 2 β)) (pF4 (pB 1 β)) (pF7 (pB 0 β)) m) K) <| ifL j 82 (pC4 (l13_82 call n (pF4 (pB 0 β)) m) K) <| ifL j 88 (pC7 (l13_88 call n (pF4 (pB 1 β)) (pF4 (pB 0 β)) m) K) <| ifL j 105 (pC12 (l13_105 call n (pF4 (pB 2 β)) (pF4 (pB 1 β)) (pF7 (pB 0 β)) m) K) <| noP }
@[irreducible] noncomputable def A13 : AFun := (compFn Tryz.prog Tryz.f13).getD ⟨0, [], .skip⟩
noncomputable def w13 : Sh := shW 2 fun call n K => pA2 (s13 call n) K
theorem w13_ok {E : Env} (e : E.code 13 = some A13) (hp : E.prim 13 = none) : ShOK E 13 w13 := shW_ok (A := { pts := [(23, [1, 2, 6, 8, 22, 23, 24]), (58, [1, 2, 6, 8, 10, 11, 14, 22, 23, 24, 33, 34, 35]), (59, [1, 2, 6, 8, 10, 11, 22, 23, 24, 33, 34, 35]), (60, [1, 2, 6, 8, 10, 11, 22, 23, 24]), (75, [1, 2, 6, 8, 22, 23, 24]), (95, [1, 2, 6, 8, 22, 23, 24]), (130, [1, 2, 6, 8, 10, 11, 14, 22, 23, 24, 33, 34, 35]), (131, [1, 2, 6, 8, 10, 11, 22, 23, 24, 33, 34, 35]), (132, [1, 2, 6, 8, 10, 11, 22, 23, 24]), (147, [1, 2, 6, 8, 22, 23, 24])], lps := [(2, [1, 2, 6, 8]), (10, [1, 2, 6, 8]), (16, [1, 2, 6, 8, 22, 23, 24]), (33, [1, 2, 6, 8, 10, 11, 22, 23, 24, 33, 34, 35]), (82, [1, 2, 6, 8]), (88, [1, 2, 6, 8, 22, 23, 24]), (105, [1, 2, 6, 8, 10, 11, 22, 23, 24, 33, 34, 35])], scs := [(2, [1, 2])], cuts := [(4, [(3, 5001, [1, 2, 18])]), (46, [(6, 47001, [1, 2, 6, 8, 10, 11, 13, 22, 23, 24, 33, 34, 35, 44])]), (118, [(6, 119001, [1, 2, 6, 8, 10, 11, 13, 22, 23, 24, 33, 34, 35, 44])])] }) (S := T13) e hp (by kernel_rfl) (by kernel_rfl) (by kernel_rfl)

noncomputable def T14 (call : CallFn) (n : Nat) (K : Kont) : Sp := {
  pt := fun β j => ifF j 12 (pA3 (p14_12 call n) K) <| ifF j 34 (pA4 (p14_34 call n (pF4 (pB 0 β))) K) <| ifF j 35 (pA2 (p14_35 call n) K) <| ifF j 29001 (pA6 (p14_29001 call n (pF4 (pB 0 β))) K) <| noP
  fs := fun β j => noP
  rd := fun β j => ifF j 16 (pA4 (b14_16 call n (pF4 (pB 0 β))) K) <| noP
  lp := fun β j m => ifL j 16 (pC4 (l14_16 call n m) K) <| noP }
@[irreducible] noncomputable def A14 : AFun := (compFn Tryz.prog Tryz.f14).getD ⟨0, [], .skip⟩
noncomputable def w14 : Sh := shW 2 fun call n K => pA2 (s14 call n) K
theorem w14_ok {E : Env} (e : E.code 14 = some A14) (hp : E.prim 14 = none) : ShOK E 14 w14 := shW_ok (A := { pts := [(12, [0, 1, 5]), (34, [0, 1, 5, 6]), (35, [0, 5])], lps := [(16, [0, 1, 5, 6])], cuts := [(28, [(3, 29001, [0, 1, 5, 6, 7, 28])])] }) (S := T14) e hp (by kernel_rfl) (by kernel_rfl) (by kernel_rfl)

@[irreducible] noncomputable def A15 : AFun := (compFn Tryz.prog Tryz.f15).getD ⟨0, [], .skip⟩
noncomputable def w15 : Sh := shW 1 fun call n K => pA1 (s15 call n) K
theorem w15_ok {E : Env} (e : E.code 15 = some A15) (hp : E.prim 15 = none) : ShOK E 15 w15 := shW_ok (A := { pts := [], lps := [] }) (S := noS) e hp (by kernel_rfl) (by kernel_rfl) (by kernel_rfl)

noncomputable def T16 (call : CallFn) (n : Nat) (K : Kont) : Sp := {
  pt := fun β j => ifF j 12001 (pA1 (p16_12001 call n) K) <| noP
  fs := fun β j => noP
  rd := fun β j => noP
  lp := fun β j m => noP }
@[irreducible] noncomputable def A16 : AFun := (compFn Tryz.prog Tryz.f16).getD ⟨0, [], .skip⟩
noncomputable def w16 : Sh := shW 1 fun call n K => pA1 (s16 call n) K
theorem w16_ok {E : Env} (e : E.code 16 = some A16) (hp : E.prim 16 = none) : ShOK E 16 w16 := shW_ok (A := { pts := [], lps := [], cuts := [(11, [(2, 12001, [9])])] }) (S := T16) e hp (by kernel_rfl) (by kernel_rfl) (by kernel_rfl)

noncomputable def T18 (call : CallFn) (n : Nat) (K : Kont) : Sp := {
  pt := fun β j => ifF j 5001 (pA2 (p18_5001 call n) K) <| noP
  fs := fun β j => noP
  rd := fun β j => noP
  lp := fun β j m => noP }
@[irreducible] noncomputable def A18 : AFun := (compFn Tryz.prog Tryz.f18).getD ⟨0, [], .skip⟩
noncomputable def w18 : Sh := shW 2 fun call n K => pA2 (s18 call n) K
theorem w18_ok {E : Env} (e : E.code 18 = some A18) (hp : E.prim 18 = none) : ShOK E 18 w18 := shW_ok (A := { pts := [], lps := [], cuts := [(4, [(3, 5001, [0, 7])])] }) (S := T18) e hp (by kernel_rfl) (by kernel_rfl) (by kernel_rfl)

noncomputable def T19 (call : CallFn) (n : Nat) (K : Kont) : Sp := {
  pt := fun β j => ifF j 10 (pA3 (p19_10 call n) K) <| ifF j 27 (pA3 (p19_27 call n) K) <| ifF j 4001 (pA3 (p19_4001 call n) K) <| ifF j 9001 (pA4 (p19_9001 call n) K) <| ifF j 20001 (pA6 (p19_20001 call n (pF4 (pB 0 β))) K) <| ifF j 20002 (pA6 (p19_20002 call n (pF4 (pB 0 β))) K) <| ifF j 20003 (pA7 (p19_20003 call n (pF4 (pB 0 β))) K) <| noP
  fs := fun β j => noP
  rd := fun β j => ifF j 16 (pA4 (b19_16 call n (pF4 (pB 0 β))) K) <| noP
  lp := fun β j m => ifL j 16 (pC4 (l19_16 call n m) K) <| noP }
@[irreducible] noncomputable def A19 : AFun := (compFn Tryz.prog Tryz.f19).getD ⟨0, [], .skip⟩
noncomputable def w19 : Sh := shW 1 fun call n K => pA1 (s19 call n) K
theorem w19_ok {E : Env} (e : E.code 19 = some A19) (hp : E.prim 19 = none) : ShOK E 19 w19 := shW_ok (A := { pts := [(10, [0, 2, 3]), (27, [0, 2, 3])], lps := [(16, [0, 2, 3, 4])], cuts := [(3, [(2, 4001, [0, 2, 6])]), (8, [(2, 9001, [0, 2, 3, 11])]), (19, [(4, 20001, [0, 2, 3, 4, 16, 18]), (8, 20002, [0, 2, 3, 21, 24, 26]), (3, 20003, [0, 2, 3, 21, 24, 27, 29])])] }) (S := T19) e hp (by kernel_rfl) (by kernel_rfl) (by kernel_rfl)

noncomputable def T20 (call : CallFn) (n : Nat) (K : Kont) : Sp := {
  pt := fun β j => ifF j 34 (pA3 (p20_34 call n) K) <| ifF j 49 (pA2 (p20_49 call n) K) <| ifF j 4001 (pA3 (p20_4001 call n) K) <| ifF j 10001 (pA4 (p20_10001 call n (pF3 (pB 0 β))) K) <| ifF j 19001 (pA4 (p20_19001 call n (pF3 (pB 0 β))) K) <| ifF j 23001 (pA4 (p20_23001 call n (pF3 (pB 0 β))) K) <| ifF j 27001 (pA4 (p20_27001 call n (pF3 (pB 0 β))) K) <| ifF j 36001 (pA4 (p20_36001 call n) K) <| ifF j 44001 (pA4 (p20_44001 call n (pF3 (pB 0 β))) K) <| noP
  fs := fun β j => noP
  rd := fun β j => ifF j 6 (pA3 (b20_6 call n (pF3 (pB 0 β))) K) <| ifF j 40 (pA3 (b20_40 call n (pF3 (pB 0 β))) K) <| noP
  lp := fun β j m => ifL j 6 (pC3 (l20_6 call n m) K) <| ifL j 40 (pC3 (l20_40 call n m) K) <| noP }
@[irreducible] noncomputable def A20 : AFun := (compFn Tryz.prog Tryz.f20).getD ⟨0, [], .skip⟩
noncomputable def w20 : Sh := shW 1 fun call n K => pA1 (s20 call n) K
theorem w20_ok {E : Env} (e : E.code 20 = some A20) (hp : E.prim 20 = none) : ShOK E 20 w20 := shW_ok (A := { pts := [(34, [0, 2, 3]), (49, [2, 3])], lps := [(6, [0, 2, 3]), (40, [0, 2, 3])], cuts := [(3, [(2, 4001, [0, 2, 5])]), (9, [(2, 10001, [0, 2, 3, 8])]), (18, [(2, 19001, [0, 2, 3, 18])]), (22, [(2, 23001, [0, 2, 3, 24])]), (26, [(2, 27001, [0, 2, 3, 30])]), (35, [(3, 36001, [0, 2, 3, 38])]), (43, [(2, 44001, [0, 2, 3, 44])])] }) (S := T20) e hp (by kernel_rfl) (by kernel_rfl) (by kernel_rfl)

noncomputable def T21 (call : CallFn) (n : Nat) (K : Kont) : Sp := {
  pt := fun β j => ifF j 15001 (pA6 (p21_15001 call n (pF4 (pB 0 β))) K) <| noP
  fs := fun β j => noP
  rd := fun β j => ifF j 3 (pA4 (b21_3 call n (pF4 (pB 0 β))) K) <| noP
  lp := fun β j m => ifL j 3 (pC4 (l21_3 call n m) K) <| noP }
@[irreducible] noncomputable def A21 : AFun := (compFn Tryz.prog Tryz.f21).getD ⟨0, [], .skip⟩
noncomputable def w21 : Sh := shW 2 fun call n K => pA2 (s21 call n) K
theorem w21_ok {E : Env} (e : E.code 21 = some A21) (hp : E.prim 21 = none) : ShOK E 21 w21 := shW_ok (A := { pts := [], lps := [(3, [0, 6, 7, 8])], cuts := [(14, [(4, 15001, [0, 6, 7, 8, 12, 15])])] }) (S := T21) e hp (by kernel_rfl) (by kernel_rfl) (by kernel_rfl)

noncomputable def T22 (call : CallFn) (n : Nat) (K : Kont) : Sp := {
  pt := fun β j => ifF j 4001 (pA3 (p22_4001 call n) K) <| ifF j 10001 (pA4 (p22_10001 call n) K) <| noP
  fs := fun β j => noP
  rd := fun β j => noP
  lp := fun β j m => noP }
@[irreducible] noncomputable def A22 : AFun := (compFn Tryz.prog Tryz.f22).getD ⟨0, [], .skip⟩
noncomputable def w22 : Sh := shW 1 fun call n K => pA1 (s22 call n) K
theorem w22_ok {E : Env} (e : E.code 22 = some A22) (hp : E.prim 22 = none) : ShOK E 22 w22 := shW_ok (A := { pts := [], lps := [], cuts := [(3, [(2, 4001, [1, 2, 5])]), (9, [(3, 10001, [1, 2, 3, 14])])] }) (S := T22) e hp (by kernel_rfl) (by kernel_rfl) (by kernel_rfl)

noncomputable def T23 (call : CallFn) (n : Nat) (K : Kont) : Sp := {
  pt := fun β j => ifF j 12 (pA1 (p23_12 call n) K) <| ifF j 22 (pA2 (p23_22 call n) K) <| ifF j 5001 (pA2 (p23_5001 call n) K) <| ifF j 14001 (pA2 (p23_14001 call n) K) <| ifF j 41001 (pA4 (p23_41001 call n (pF3 (pB 0 β))) K) <| noP
  fs := fun β j => noP
  rd := fun β j => ifF j 28 (pA3 (b23_28 call n (pF3 (pB 0 β))) K) <| noP
  lp := fun β j m => ifL j 28 (pC3 (l23_28 call n m) K) <| noP }
@[irreducible] noncomputable def A23 : AFun := (compFn Tryz.prog Tryz.f23).getD ⟨0, [], .skip⟩
noncomputable def w23 : Sh := shW 1 fun call n K => pA1 (s23 call n) K
theorem w23_ok {E : Env} (e : E.code 23 = some A23) (hp : E.prim 23 = none) : ShOK E 23 w23 := shW_ok (A := { pts := [(12, [1]), (22, [1, 6])], lps := [(28, [41, 42, 43])], cuts := [(4, [(2, 5001, [1, 14])]), (13, [(3, 14001, [1, 22])]), (40, [(2, 41001, [41, 42, 43, 49])])] }) (S := T23) e hp (by kernel_rfl) (by kernel_rfl) (by kernel_rfl)

noncomputable def T24 (call : CallFn) (n : Nat) (K : Kont) : Sp := {
  pt := fun β j => ifF j 10 (pA5 (p24_10 call n (pF5 (pB 0 β))) K) <| ifF j 27 (pA6 (p24_27 call n (pF5 (pB 0 β))) K) <| ifF j 47 (pA5 (p24_47 call n (pF5 (pB 0 β))) K) <| noP
  fs := fun β j => noP
  rd := fun β j => ifF j 3 (pA5 (b24_3 call n (pF5 (pB 0 β))) K) <| ifF j 34 (pA8 (b24_34 call n (pF5 (pB 1 β)) (pF8 (pB 0 β))) K) <| noP
  lp := fun β j m => ifL j 3 (pC5 (l24_3 call n m) K) <| ifL j 34 (pC8 (l24_34 call n (pF5 (pB 0 β)) m) K) <| noP }
@[irreducible] noncomputable def A24 : AFun := (compFn Tryz.prog Tryz.f24).getD ⟨0, [], .skip⟩
noncomputable def w24 : Sh := shW 3 fun call n K => pA3 (s24 call n) K
theorem w24_ok {E : Env} (e : E.code 24 = some A24) (hp : E.prim 24 = none) : ShOK E 24 w24 := shW_ok (A := { pts := [(10, [0, 2, 10, 11, 12]), (27, [0, 2, 7, 10, 11, 12]), (47, [0, 2, 10, 11, 12])], lps := [(3, [0, 2, 10, 11, 12]), (34, [0, 2, 10, 11, 12, 50, 51, 52])] }) (S := T24) e hp (by kernel_rfl) (by kernel_rfl) (by kernel_rfl)

@[irreducible] noncomputable def A25 : AFun := (compFn Tryz.prog Tryz.f25).getD ⟨0, [], .skip⟩
noncomputable def w25 : Sh := shW 1 fun call n K => pA1 (s25 call n) K
theorem w25_ok {E : Env} (e : E.code 25 = some A25) (hp : E.prim 25 = none) : ShOK E 25 w25 := shW_ok (A := { pts := [], lps := [] }) (S := noS) e hp (by kernel_rfl) (by kernel_rfl) (by kernel_rfl)

noncomputable def T26 (call : CallFn) (n : Nat) (K : Kont) : Sp := {
  pt := fun β j => ifF j 3001 (pA4 (p26_3001 call n) K) <| noP
  fs := fun β j => noP
  rd := fun β j => noP
  lp := fun β j m => noP }
@[irreducible] noncomputable def A26 : AFun := (compFn Tryz.prog Tryz.f26).getD ⟨0, [], .skip⟩
noncomputable def w26 : Sh := shW 2 fun call n K => pA2 (s26 call n) K
theorem w26_ok {E : Env} (e : E.code 26 = some A26) (hp : E.prim 26 = none) : ShOK E 26 w26 := shW_ok (A := { pts := [], lps := [], cuts := [(2, [(5, 3001, [1, 7, 8, 11])])] }) (S := T26) e hp (by kernel_rfl) (by kernel_rfl) (by kernel_rfl)

@[irreducible] noncomputable def A27 : AFun := (compFn Tryz.prog Tryz.f27).getD ⟨0, [], .skip⟩
noncomputable def w27 : Sh := shW 3 fun call n K => pA3 (s27 call n) K
theorem w27_ok {E : Env} (e : E.code 27 = some A27) (hp : E.prim 27 = none) : ShOK E 27 w27 := shW_ok (A := { pts := [], lps := [] }) (S := noS) e hp (by kernel_rfl) (by kernel_rfl) (by kernel_rfl)

noncomputable def T28 (call : CallFn) (n : Nat) (K : Kont) : Sp := {
  pt := fun β j => noP
  fs := fun β j => noP
  rd := fun β j => ifF j 8 (pA4 (b28_8 call n (pF4 (pB 0 β))) K) <| noP
  lp := fun β j m => ifL j 8 (pC4 (l28_8 call n m) K) <| noP }
@[irreducible] noncomputable def A28 : AFun := (compFn Tryz.prog Tryz.f28).getD ⟨0, [], .skip⟩
noncomputable def w28 : Sh := shW 1 fun call n K => pA1 (s28 call n) K
theorem w28_ok {E : Env} (e : E.code 28 = some A28) (hp : E.prim 28 = none) : ShOK E 28 w28 := shW_ok (A := { pts := [], lps := [(8, [3, 6, 7, 8])] }) (S := T28) e hp (by kernel_rfl) (by kernel_rfl) (by kernel_rfl)

@[irreducible] noncomputable def A29 : AFun := (compFn Tryz.prog Tryz.f29).getD ⟨0, [], .skip⟩
noncomputable def w29 : Sh := shW 2 fun call n K => pA2 (s29 call n) K
theorem w29_ok {E : Env} (e : E.code 29 = some A29) (hp : E.prim 29 = none) : ShOK E 29 w29 := shW_ok (A := { pts := [], lps := [] }) (S := noS) e hp (by kernel_rfl) (by kernel_rfl) (by kernel_rfl)

@[irreducible] noncomputable def A30 : AFun := (compFn Tryz.prog Tryz.f30).getD ⟨0, [], .skip⟩
noncomputable def w30 : Sh := shW 2 fun call n K => pA2 (s30 call n) K
theorem w30_ok {E : Env} (e : E.code 30 = some A30) (hp : E.prim 30 = none) : ShOK E 30 w30 := shW_ok (A := { pts := [], lps := [] }) (S := noS) e hp (by kernel_rfl) (by kernel_rfl) (by kernel_rfl)

noncomputable def T31 (call : CallFn) (n : Nat) (K : Kont) : Sp := {
  pt := fun β j => ifF j 12 (pA2 (p31_12 call n) K) <| ifF j 30001 (pA8 (p31_30001 call n (pF5 (pB 0 β))) K) <| ifF j 39001 (pA7 (p31_39001 call n (pF5 (pB 0 β))) K) <| noP
  fs := fun β j => noP
  rd := fun β j => ifF j 16 (pA5 (b31_16 call n (pF5 (pB 0 β))) K) <| noP
  lp := fun β j m => ifL j 16 (pC5 (l31_16 call n m) K) <| noP }
@[irreducible] noncomputable def A31 : AFun := (compFn Tryz.prog Tryz.f31).getD ⟨0, [], .skip⟩
noncomputable def w31 : Sh := shW 1 fun call n K => pA1 (s31 call n) K
theorem w31_ok {E : Env} (e : E.code 31 = some A31) (hp : E.prim 31 = none) : ShOK E 31 w31 := shW_ok (A := { pts := [(12, [0, 4])], lps := [(16, [0, 4, 13, 14, 15])], cuts := [(29, [(9, 30001, [0, 4, 6, 13, 14, 15, 23, 27])]), (38, [(3, 39001, [0, 4, 6, 13, 14, 15, 43])])] }) (S := T31) e hp (by kernel_rfl) (by kernel_rfl) (by kernel_rfl)

noncomputable def T33 (call : CallFn) (n : Nat) (K : Kont) : Sp := {
  pt := fun β j => noP
  fs := fun β j => noP
  rd := fun β j => ifF j 6 (pA4 (b33_6 call n (pF4 (pB 0 β))) K) <| noP
  lp := fun β j m => ifL j 6 (pC4 (l33_6 call n m) K) <| noP }
@[irreducible] noncomputable def A33 : AFun := (compFn Tryz.prog Tryz.f33).getD ⟨0, [], .skip⟩
noncomputable def w33 : Sh := shW 2 fun call n K => pA2 (s33 call n) K
theorem w33_ok {E : Env} (e : E.code 33 = some A33) (hp : E.prim 33 = none) : ShOK E 33 w33 := shW_ok (A := { pts := [], lps := [(6, [0, 1, 7, 8])] }) (S := T33) e hp (by kernel_rfl) (by kernel_rfl) (by kernel_rfl)

@[irreducible] noncomputable def A36 : AFun := (compFn Tryz.prog Tryz.f36).getD ⟨0, [], .skip⟩
noncomputable def w36 : Sh := shW 0 fun call n K => pA0 (s36 call n) K
theorem w36_ok {E : Env} (e : E.code 36 = some A36) (hp : E.prim 36 = none) : ShOK E 36 w36 := shW_ok (A := { pts := [], lps := [] }) (S := noS) e hp (by kernel_rfl) (by kernel_rfl) (by kernel_rfl)

noncomputable def T37 (call : CallFn) (n : Nat) (K : Kont) : Sp := {
  pt := fun β j => ifF j 4001 (pA1 (p37_4001 call n) K) <| noP
  fs := fun β j => noP
  rd := fun β j => noP
  lp := fun β j m => noP }
@[irreducible] noncomputable def A37 : AFun := (compFn Tryz.prog Tryz.f37).getD ⟨0, [], .skip⟩
noncomputable def w37 : Sh := shW 2 fun call n K => pA2 (s37 call n) K
theorem w37_ok {E : Env} (e : E.code 37 = some A37) (hp : E.prim 37 = none) : ShOK E 37 w37 := shW_ok (A := { pts := [], lps := [], cuts := [(3, [(2, 4001, [7])])] }) (S := T37) e hp (by kernel_rfl) (by kernel_rfl) (by kernel_rfl)

noncomputable def T38 (call : CallFn) (n : Nat) (K : Kont) : Sp := {
  pt := fun β j => ifF j 4001 (pA2 (p38_4001 call n) K) <| ifF j 6001 (pA4 (p38_6001 call n) K) <| noP
  fs := fun β j => noP
  rd := fun β j => noP
  lp := fun β j m => noP }
@[irreducible] noncomputable def A38 : AFun := (compFn Tryz.prog Tryz.f38).getD ⟨0, [], .skip⟩
noncomputable def w38 : Sh := shW 3 fun call n K => pA3 (s38 call n) K
theorem w38_ok {E : Env} (e : E.code 38 = some A38) (hp : E.prim 38 = none) : ShOK E 38 w38 := shW_ok (A := { pts := [], lps := [], cuts := [(3, [(3, 4001, [2, 10])]), (5, [(15, 6001, [15, 19, 23, 25])])] }) (S := T38) e hp (by kernel_rfl) (by kernel_rfl) (by kernel_rfl)

noncomputable def T39 (call : CallFn) (n : Nat) (K : Kont) : Sp := {
  pt := fun β j => ifF j 4001 (pA3 (p39_4001 call n) K) <| ifF j 4002 (pA4 (p39_4002 call n) K) <| noP
  fs := fun β j => noP
  rd := fun β j => noP
  lp := fun β j m => noP }
@[irreducible] noncomputable def A39 : AFun := (compFn Tryz.prog Tryz.f39).getD ⟨0, [], .skip⟩
noncomputable def w39 : Sh := shW 1 fun call n K => pA1 (s39 call n) K
theorem w39_ok {E : Env} (e : E.code 39 = some A39) (hp : E.prim 39 = none) : ShOK E 39 w39 := shW_ok (A := { pts := [], lps := [], cuts := [(3, [(3, 4001, [0, 3, 5]), (3, 4002, [0, 3, 6, 8])])] }) (S := T39) e hp (by kernel_rfl) (by kernel_rfl) (by kernel_rfl)

@[irreducible] noncomputable def A40 : AFun := (compFn Tryz.prog Tryz.f40).getD ⟨0, [], .skip⟩
noncomputable def w40 : Sh := shW 2 fun call n K => pA2 (s40 call n) K
theorem w40_ok {E : Env} (e : E.code 40 = some A40) (hp : E.prim 40 = none) : ShOK E 40 w40 := shW_ok (A := { pts := [], lps := [] }) (S := noS) e hp (by kernel_rfl) (by kernel_rfl) (by kernel_rfl)

noncomputable def T41 (call : CallFn) (n : Nat) (K : Kont) : Sp := {
  pt := fun β j => ifF j 4001 (pA1 (p41_4001 call n) K) <| ifF j 6001 (pA2 (p41_6001 call n) K) <| noP
  fs := fun β j => noP
  rd := fun β j => noP
  lp := fun β j m => noP }
@[irreducible] noncomputable def A41 : AFun := (compFn Tryz.prog Tryz.f41).getD ⟨0, [], .skip⟩
noncomputable def w41 : Sh := shW 2 fun call n K => pA2 (s41 call n) K
theorem w41_ok {E : Env} (e : E.code 41 = some A41) (hp : E.prim 41 = none) : ShOK E 41 w41 := shW_ok (A := { pts := [], lps := [], cuts := [(3, [(3, 4001, [8])]), (5, [(7, 6001, [12, 15])])] }) (S := T41) e hp (by kernel_rfl) (by kernel_rfl) (by kernel_rfl)

noncomputable def T42 (call : CallFn) (n : Nat) (K : Kont) : Sp := {
  pt := fun β j => ifF j 31 (pA2 (p42_31 call n) K) <| ifF j 4001 (pA3 (p42_4001 call n) K) <| ifF j 31001 (pA3 (p42_31001 call n) K) <| noP
  fs := fun β j => noP
  rd := fun β j => noP
  lp := fun β j m => noP }
@[irreducible] noncomputable def A42 : AFun := (compFn Tryz.prog Tryz.f42).getD ⟨0, [], .skip⟩
noncomputable def w42 : Sh := shW 1 fun call n K => pA1 (s42 call n) K
theorem w42_ok {E : Env} (e : E.code 42 = some A42) (hp : E.prim 42 = none) : ShOK E 42 w42 := shW_ok (A := { pts := [(31, [2, 3])], lps := [], cuts := [(3, [(2, 4001, [0, 2, 5])]), (30, [(2, 31001, [2, 3, 14])])] }) (S := T42) e hp (by kernel_rfl) (by kernel_rfl) (by kernel_rfl)

@[irreducible] noncomputable def A43 : AFun := (compFn Tryz.prog Tryz.f43).getD ⟨0, [], .skip⟩
noncomputable def w43 : Sh := shW 2 fun call n K => pA2 (s43 call n) K
theorem w43_ok {E : Env} (e : E.code 43 = some A43) (hp : E.prim 43 = none) : ShOK E 43 w43 := shW_ok (A := { pts := [], lps := [] }) (S := noS) e hp (by kernel_rfl) (by kernel_rfl) (by kernel_rfl)

noncomputable def T44 (call : CallFn) (n : Nat) (K : Kont) : Sp := {
  pt := fun β j => ifF j 4001 (pA3 (p44_4001 call n) K) <| noP
  fs := fun β j => noP
  rd := fun β j => noP
  lp := fun β j m => noP }
@[irreducible] noncomputable def A44 : AFun := (compFn Tryz.prog Tryz.f44).getD ⟨0, [], .skip⟩
noncomputable def w44 : Sh := shW 1 fun call n K => pA1 (s44 call n) K
theorem w44_ok {E : Env} (e : E.code 44 = some A44) (hp : E.prim 44 = none) : ShOK E 44 w44 := shW_ok (A := { pts := [], lps := [], cuts := [(3, [(3, 4001, [0, 3, 5])])] }) (S := T44) e hp (by kernel_rfl) (by kernel_rfl) (by kernel_rfl)

noncomputable def T46 (call : CallFn) (n : Nat) (K : Kont) : Sp := {
  pt := fun β j => ifF j 30 (pA3 (p46_30 call n (pF3 (pB 0 β))) K) <| ifF j 31001 (pA4 (p46_31001 call n (pF3 (pB 0 β))) K) <| noP
  fs := fun β j => noP
  rd := fun β j => ifF j 5 (pA3 (b46_5 call n (pF3 (pB 0 β))) K) <| ifF j 11 (pA6 (b46_11 call n (pF3 (pB 1 β)) (pF6 (pB 0 β))) K) <| noP
  lp := fun β j m => ifL j 5 (pC3 (l46_5 call n m) K) <| ifL j 11 (pC6 (l46_11 call n (pF3 (pB 0 β)) m) K) <| noP }
@[irreducible] noncomputable def A46 : AFun := (compFn Tryz.prog Tryz.f46).getD ⟨0, [], .skip⟩
noncomputable def w46 : Sh := shW 2 fun call n K => pA2 (s46 call n) K
theorem w46_ok {E : Env} (e : E.code 46 = some A46) (hp : E.prim 46 = none) : ShOK E 46 w46 := shW_ok (A := { pts := [(30, [0, 1, 5])], lps := [(5, [0, 1, 5]), (11, [0, 1, 5, 8, 9, 10])], cuts := [(30, [(3, 31001, [0, 1, 19, 21])])] }) (S := T46) e hp (by kernel_rfl) (by kernel_rfl) (by kernel_rfl)

noncomputable def T47 (call : CallFn) (n : Nat) (K : Kont) : Sp := {
  pt := fun β j => ifF j 12 (pA4 (p47_12 call n) K) <| ifF j 21 (pA3 (p47_21 call n) K) <| ifF j 45 (pA3 (p47_45 call n) K) <| ifF j 18001 (pA4 (p47_18001 call n) K) <| ifF j 23001 (pA4 (p47_23001 call n) K) <| ifF j 24001 (pA4 (p47_24001 call n) K) <| ifF j 29001 (pA4 (p47_29001 call n) K) <| ifF j 30001 (pA4 (p47_30001 call n) K) <| ifF j 34001 (pA4 (p47_34001 call n) K) <| ifF j 38001 (pA4 (p47_38001 call n) K) <| ifF j 42001 (pA4 (p47_42001 call n) K) <| noP
  fs := fun β j => noP
  rd := fun β j => noP
  lp := fun β j m => noP }
@[irreducible] noncomputable def A47 : AFun := (compFn Tryz.prog Tryz.f47).getD ⟨0, [], .skip⟩
noncomputable def w47 : Sh := shW 1 fun call n K => pA1 (s47 call n) K
theorem w47_ok {E : Env} (e : E.code 47 = some A47) (hp : E.prim 47 = none) : ShOK E 47 w47 := shW_ok (A := { pts := [(12, [0, 2, 3, 8]), (21, [0, 2, 3]), (45, [0, 2, 3])], lps := [], cuts := [(17, [(2, 18001, [0, 2, 3, 15])]), (22, [(2, 23001, [0, 2, 3, 19])]), (23, [(2, 24001, [0, 2, 3, 22])]), (28, [(2, 29001, [0, 2, 3, 28])]), (29, [(2, 30001, [0, 2, 3, 32])]), (33, [(2, 34001, [0, 2, 3, 38])]), (37, [(2, 38001, [0, 2, 3, 45])]), (41, [(2, 42001, [0, 2, 3, 52])])] }) (S := T47) e hp (by kernel_rfl) (by kernel_rfl) (by kernel_rfl)

noncomputable def T48 (call : CallFn) (n : Nat) (K : Kont) : Sp := {
  pt := fun β j => ifF j 15 (pA2 (p48_15 call n) K) <| ifF j 8001 (pA6 (p48_8001 call n (pF4 (pB 0 β))) K) <| ifF j 8002 (pA6 (p48_8002 call n (pF4 (pB 0 β))) K) <| noP
  fs := fun β j => noP
  rd := fun β j => ifF j 4 (pA4 (b48_4 call n (pF4 (pB 0 β))) K) <| noP
  lp := fun β j m => ifL j 4 (pC4 (l48_4 call n m) K) <| noP }
@[irreducible] noncomputable def A48 : AFun := (compFn Tryz.prog Tryz.f48).getD ⟨0, [], .skip⟩
noncomputable def w48 : Sh := shW 3 fun call n K => pA3 (s48 call n) K
theorem w48_ok {E : Env} (e : E.code 48 = some A48) (hp : E.prim 48 = none) : ShOK E 48 w48 := shW_ok (A := { pts := [(15, [0, 1])], lps := [(4, [0, 1, 2, 6])], cuts := [(7, [(5, 8001, [0, 1, 2, 6, 8, 11]), (8, 8002, [0, 1, 2, 14, 17, 19])])] }) (S := T48) e hp (by kernel_rfl) (by kernel_rfl) (by kernel_rfl)

@[irreducible] noncomputable def A49 : AFun := (compFn Tryz.prog Tryz.f49).getD ⟨0, [], .skip⟩
noncomputable def w49 : Sh := shW 2 fun call n K => pA2 (s49 call n) K
theorem w49_ok {E : Env} (e : E.code 49 = some A49) (hp : E.prim 49 = none) : ShOK E 49 w49 := shW_ok (A := { pts := [], lps := [] }) (S := noS) e hp (by kernel_rfl) (by kernel_rfl) (by kernel_rfl)

noncomputable def T50 (call : CallFn) (n : Nat) (K : Kont) : Sp := {
  pt := fun β j => ifF j 4001 (pA3 (p50_4001 call n) K) <| ifF j 4002 (pA4 (p50_4002 call n) K) <| noP
  fs := fun β j => noP
  rd := fun β j => noP
  lp := fun β j m => noP }
@[irreducible] noncomputable def A50 : AFun := (compFn Tryz.prog Tryz.f50).getD ⟨0, [], .skip⟩
noncomputable def w50 : Sh := shW 1 fun call n K => pA1 (s50 call n) K
theorem w50_ok {E : Env} (e : E.code 50 = some A50) (hp : E.prim 50 = none) : ShOK E 50 w50 := shW_ok (A := { pts := [], lps := [], cuts := [(3, [(3, 4001, [0, 3, 5]), (3, 4002, [0, 3, 6, 8])])] }) (S := T50) e hp (by kernel_rfl) (by kernel_rfl) (by kernel_rfl)

noncomputable def T51 (call : CallFn) (n : Nat) (K : Kont) : Sp := {
  pt := fun β j => ifF j 4001 (pA2 (p51_4001 call n) K) <| ifF j 15001 (pA3 (p51_15001 call n) K) <| ifF j 17001 (pA3 (p51_17001 call n) K) <| ifF j 24001 (pA1 (p51_24001 call n) K) <| noP
  fs := fun β j => noP
  rd := fun β j => noP
  lp := fun β j m => noP }
@[irreducible] noncomputable def A51 : AFun := (compFn Tryz.prog Tryz.f51).getD ⟨0, [], .skip⟩
noncomputable def w51 : Sh := shW 1 fun call n K => pA1 (s51 call n) K
theorem w51_ok {E : Env} (e : E.code 51 = some A51) (hp : E.prim 51 = none) : ShOK E 51 w51 := shW_ok (A := { pts := [], lps := [], cuts := [(3, [(2, 4001, [1, 10])]), (14, [(2, 15001, [1, 4, 17])]), (16, [(6, 17001, [4, 22, 25])]), (23, [(2, 24001, [29])])] }) (S := T51) e hp (by kernel_rfl) (by kernel_rfl) (by kernel_rfl)

noncomputable def T52 (call : CallFn) (n : Nat) (K : Kont) : Sp := {
  pt := fun β j => ifF j 16 (pA3 (p52_16 call n) K) <| ifF j 10001 (pA3 (p52_10001 call n) K) <| ifF j 15001 (pA2 (p52_15001 call n) K) <| noP
  fs := fun β j => noP
  rd := fun β j => noP
  lp := fun β j m => noP }
@[irreducible] noncomputable def A52 : AFun := (compFn Tryz.prog Tryz.f52).getD ⟨0, [], .skip⟩
noncomputable def w52 : Sh := shW 1 fun call n K => pA1 (s52 call n) K
theorem w52_ok {E : Env} (e : E.code 52 = some A52) (hp : E.prim 52 = none) : ShOK E 52 w52 := shW_ok (A := { pts := [(16, [0, 8, 9])], lps := [], cuts := [(9, [(4, 10001, [0, 7, 16])]), (14, [(3, 15001, [0, 23])])] }) (S := T52) e hp (by kernel_rfl) (by kernel_rfl) (by kernel_rfl)

noncomputable def T53 (call : CallFn) (n : Nat) (K : Kont) : Sp := {
  pt := fun β j => ifF j 4001 (pA1 (p53_4001 call n) K) <| noP
  fs := fun β j => noP
  rd := fun β j => noP
  lp := fun β j m => noP }
@[irreducible] noncomputable def A53 : AFun := (compFn Tryz.prog Tryz.f53).getD ⟨0, [], .skip⟩
noncomputable def w53 : Sh := shW 1 fun call n K => pA1 (s53 call n) K
theorem w53_ok {E : Env} (e : E.code 53 = some A53) (hp : E.prim 53 = none) : ShOK E 53 w53 := shW_ok (A := { pts := [], lps := [], cuts := [(3, [(4, 4001, [7])])] }) (S := T53) e hp (by kernel_rfl) (by kernel_rfl) (by kernel_rfl)

noncomputable def T54 (call : CallFn) (n : Nat) (K : Kont) : Sp := {
  pt := fun β j => ifF j 4001 (pA1 (p54_4001 call n) K) <| noP
  fs := fun β j => noP
  rd := fun β j => noP
  lp := fun β j m => noP }
@[irreducible] noncomputable def A54 : AFun := (compFn Tryz.prog Tryz.f54).getD ⟨0, [], .skip⟩
noncomputable def w54 : Sh := shW 1 fun call n K => pA1 (s54 call n) K
theorem w54_ok {E : Env} (e : E.code 54 = some A54) (hp : E.prim 54 = none) : ShOK E 54 w54 := shW_ok (A := { pts := [], lps := [], cuts := [(3, [(3, 4001, [6])])] }) (S := T54) e hp (by kernel_rfl) (by kernel_rfl) (by kernel_rfl)

noncomputable def T55 (call : CallFn) (n : Nat) (K : Kont) : Sp := {
  pt := fun β j => ifF j 29 (pA4 (p55_29 call n) K) <| ifF j 40 (pA4 (p55_40 call n (pF5 (pB 0 β))) K) <| ifF j 53 (pA8 (p55_53 call n (pF5 (pB 1 β)) (pF8 (pB 0 β))) K) <| ifF j 76 (pA11 (p55_76 call n (pF5 (pB 2 β)) (pF8 (pB 1 β)) (pF11 (pB 0 β))) K) <| ifF j 77 (pA8 (p55_77 call n (pF5 (pB 1 β)) (pF8 (pB 0 β))) K) <| ifF j 78 (pA3 (p55_78 call n) K) <| ifF j 82001 (pA1 (p55_82001 call n) K) <| noP
  fs := fun β j => noP
  rd := fun β j => ifF j 12 (pA7 (b55_12 call n (pF7 (pB 0 β))) K) <| ifF j 33 (pA5 (b55_33 call n (pF5 (pB 0 β))) K) <| ifF j 46 (pA8 (b55_46 call n (pF5 (pB 1 β)) (pF8 (pB 0 β))) K) <| ifF j 60 (pA11 (b55_60 call n (pF5 (pB 2 β)) (pF8 (pB 1 β)) (pF11 (pB 0 β))) K) <| noP
  lp := fun β j m => ifL j 12 (pC7 (l55_12 call n m) K) <| ifL j 33 (pC5 (l55_33 call n m) K) <| ifL j 46 (pC8 (l55_46 call n (pF5 (pB 0 β)) m) K) <| ifL j 60 (pC11 (l55_60 call n (pF5 (pB 1 β)) (pF8 (pB 0 β)) m) K) <| noP }
@[irreducible] noncomputable def A55 : AFun := (compFn Tryz.prog Tryz.f55).getD ⟨0, [], .skip⟩
noncomputable def w55 : Sh := shW 1 fun call n K => pA1 (s55 call n) K
theorem w55_ok {E : Env} (e : E.code 55 = some A55) (hp : E.prim 55 = none) : ShOK E 55 w55 := shW_ok (A := { pts := [(29, [1, 4, 5, 6]), (40, [1, 4, 5, 6]), (53, [1, 4, 5, 6, 9, 50, 51, 52]), (76, [1, 4, 5, 6, 9, 11, 50, 51, 52, 56, 57]), (77, [1, 4, 5, 6, 9, 50, 51, 52]), (78, [1, 4, 6])], lps := [(12, [1, 4, 5, 6, 26, 27, 28]), (33, [1, 4, 5, 6, 9]), (46, [1, 4, 5, 6, 9, 50, 51, 52]), (60, [1, 4, 5, 6, 9, 11, 50, 51, 52, 56, 57])], cuts := [(81, [(3, 82001, [90])])] }) (S := T55) e hp (by kernel_rfl) (by kernel_rfl) (by kernel_rfl)

noncomputable def T56 (call : CallFn) (n : Nat) (K : Kont) : Sp := {
  pt := fun β j => ifF j 6001 (pA2 (p56_6001 call n) K) <| noP
  fs := fun β j => noP
  rd := fun β j => noP
  lp := fun β j m => noP }
@[irreducible] noncomputable def A56 : AFun := (compFn Tryz.prog Tryz.f56).getD ⟨0, [], .skip⟩
noncomputable def w56 : Sh := shW 1 fun call n K => pA1 (s56 call n) K
theorem w56_ok {E : Env} (e : E.code 56 = some A56) (hp : E.prim 56 = none) : ShOK E 56 w56 := shW_ok (A := { pts := [], lps := [], cuts := [(5, [(3, 6001, [4, 10])])] }) (S := T56) e hp (by kernel_rfl) (by kernel_rfl) (by kernel_rfl)

noncomputable def T57 (call : CallFn) (n : Nat) (K : Kont) : Sp := {
  pt := fun β j => ifF j 10 (pA2 (p57_10 call n) K) <| ifF j 31 (pA5 (p57_31 call n (pF5 (pB 0 β))) K) <| noP
  fs := fun β j => noP
  rd := fun β j => ifF j 15 (pA5 (b57_15 call n (pF5 (pB 0 β))) K) <| noP
  lp := fun β j m => ifL j 15 (pC5 (l57_15 call n m) K) <| noP }
@[irreducible] noncomputable def A57 : AFun := (compFn Tryz.prog Tryz.f57).getD ⟨0, [], .skip⟩
noncomputable def w57 : Sh := shW 2 fun call n K => pA2 (s57 call n) K
theorem w57_ok {E : Env} (e : E.code 57 = some A57) (hp : E.prim 57 = none) : ShOK E 57 w57 := shW_ok (A := { pts := [(10, [0, 3]), (31, [0, 3, 28, 29, 30])], lps := [(15, [0, 3, 28, 29, 30])] }) (S := T57) e hp (by kernel_rfl) (by kernel_rfl) (by kernel_rfl)

noncomputable def T58 (call : CallFn) (n : Nat) (K : Kont) : Sp := {
  pt := fun β j => ifF j 33 (pA8 (p58_33 call n (pF7 (pB 0 β))) K) <| ifF j 45 (pA10 (p58_45 call n (pF7 (pB 0 β))) K) <| ifF j 55 (pA9 (p58_55 call n (pF7 (pB 0 β))) K) <| ifF j 35001 (pA9 (p58_35001 call n (pF7 (pB 0 β))) K) <| ifF j 67001 (pA7 (p58_67001 call n (pF7 (pB 0 β))) K) <| noP
  fs := fun β j => noP
  rd := fun β j => ifF j 5 (pA7 (b58_5 call n (pF7 (pB 0 β))) K) <| noP
  lp := fun β j m => ifL j 5 (pC7 (l58_5 call n m) K) <| noP }
@[irreducible] noncomputable def A58 : AFun := (compFn Tryz.prog Tryz.f58).getD ⟨0, [], .skip⟩
noncomputable def w58 : Sh := shW 5 fun call n K => pA5 (s58 call n) K
theorem w58_ok {E : Env} (e : E.code 58 = some A58) (hp : E.prim 58 = none) : ShOK E 58 w58 := shW_ok (A := { pts := [(33, [0, 1, 2, 3, 4, 10, 11, 12]), (45, [0, 1, 2, 3, 4, 10, 11, 12, 13, 14]), (55, [0, 1, 2, 3, 4, 10, 11, 12, 13])], lps := [(5, [0, 1, 2, 3, 4, 10, 11])], cuts := [(34, [(5, 35001, [0, 1, 2, 3, 4, 10, 11, 12, 52])]), (66, [(6, 67001, [0, 1, 2, 3, 4, 12, 111])])] }) (S := T58) e hp (by kernel_rfl) (by kernel_rfl) (by kernel_rfl)

@[irreducible] noncomputable def A59 : AFun := (compFn Tryz.prog Tryz.f59).getD ⟨0, [], .skip⟩
noncomputable def w59 : Sh := shW 1 fun call n K => pA1 (s59 call n) K
theorem w59_ok {E : Env} (e : E.code 59 = some A59) (hp : E.prim 59 = none) : ShOK E 59 w59 := shW_ok (A := { pts := [], lps := [] }) (S := noS) e hp (by kernel_rfl) (by kernel_rfl) (by kernel_rfl)

@[irreducible] noncomputable def A60 : AFun := (compFn Tryz.prog Tryz.f60).getD ⟨0, [], .skip⟩
noncomputable def w60 : Sh := shW 1 fun call n K => pA1 (s60 call n) K
theorem w60_ok {E : Env} (e : E.code 60 = some A60) (hp : E.prim 60 = none) : ShOK E 60 w60 := shW_ok (A := { pts := [], lps := [] }) (S := noS) e hp (by kernel_rfl) (by kernel_rfl) (by kernel_rfl)

@[irreducible] noncomputable def A61 : AFun := (compFn Tryz.prog Tryz.f61).getD ⟨0, [], .skip⟩
noncomputable def w61 : Sh := shW 1 fun call n K => pA1 (s61 call n) K
theorem w61_ok {E : Env} (e : E.code 61 = some A61) (hp : E.prim 61 = none) : ShOK E 61 w61 := shW_ok (A := { pts := [], lps := [] }) (S := noS) e hp (by kernel_rfl) (by kernel_rfl) (by kernel_rfl)

@[irreducible] noncomputable def A63 : AFun := (compFn Tryz.prog Tryz.f63).getD ⟨0, [], .skip⟩
noncomputable def w63 : Sh := shW 1 fun call n K => pA1 (s63 call n) K
theorem w63_ok {E : Env} (e : E.code 63 = some A63) (hp : E.prim 63 = none) : ShOK E 63 w63 := shW_ok (A := { pts := [], lps := [] }) (S := noS) e hp (by kernel_rfl) (by kernel_rfl) (by kernel_rfl)

@[irreducible] noncomputable def A64 : AFun := (compFn Tryz.prog Tryz.f64).getD ⟨0, [], .skip⟩
noncomputable def w64 : Sh := shW 2 fun call n K => pA2 (s64 call n) K
theorem w64_ok {E : Env} (e : E.code 64 = some A64) (hp : E.prim 64 = none) : ShOK E 64 w64 := shW_ok (A := { pts := [], lps := [] }) (S := noS) e hp (by kernel_rfl) (by kernel_rfl) (by kernel_rfl)

@[irreducible] noncomputable def A65 : AFun := (compFn Tryz.prog Tryz.f65).getD ⟨0, [], .skip⟩
noncomputable def w65 : Sh := shW 1 fun call n K => pA1 (s65 call n) K
theorem w65_ok {E : Env} (e : E.code 65 = some A65) (hp : E.prim 65 = none) : ShOK E 65 w65 := shW_ok (A := { pts := [], lps := [] }) (S := noS) e hp (by kernel_rfl) (by kernel_rfl) (by kernel_rfl)

@[irreducible] noncomputable def A67 : AFun := (compFn Tryz.prog Tryz.f67).getD ⟨0, [], .skip⟩
noncomputable def w67 : Sh := shW 1 fun call n K => pA1 (s67 call n) K
theorem w67_ok {E : Env} (e : E.code 67 = some A67) (hp : E.prim 67 = none) : ShOK E 67 w67 := shW_ok (A := { pts := [], lps := [] }) (S := noS) e hp (by kernel_rfl) (by kernel_rfl) (by kernel_rfl)

@[irreducible] noncomputable def A68 : AFun := (compFn Tryz.prog Tryz.f68).getD ⟨0, [], .skip⟩
noncomputable def w68 : Sh := shW 2 fun call n K => pA2 (s68 call n) K
theorem w68_ok {E : Env} (e : E.code 68 = some A68) (hp : E.prim 68 = none) : ShOK E 68 w68 := shW_ok (A := { pts := [], lps := [] }) (S := noS) e hp (by kernel_rfl) (by kernel_rfl) (by kernel_rfl)

noncomputable def T69 (call : CallFn) (n : Nat) (K : Kont) : Sp := {
  pt := fun β j => ifF j 156 (pA1 (p69_156 call n) K) <| noP
  fs := fun β j => noP
  rd := fun β j => noP
  lp := fun β j m => noP }
@[irreducible] noncomputable def A69 : AFun := (compFn Tryz.prog Tryz.f69).getD ⟨0, [], .skip⟩
noncomputable def w69 : Sh := shW 1 fun call n K => pA1 (s69 call n) K
theorem w69_ok {E : Env} (e : E.code 69 = some A69) (hp : E.prim 69 = none) : ShOK E 69 w69 := shW_ok (A := { pts := [(156, [4])], lps := [] }) (S := T69) e hp (by kernel_rfl) (by kernel_rfl) (by kernel_rfl)

@[irreducible] noncomputable def A70 : AFun := (compFn Tryz.prog Tryz.f70).getD ⟨0, [], .skip⟩
noncomputable def w70 : Sh := shW 1 fun call n K => pA1 (s70 call n) K
theorem w70_ok {E : Env} (e : E.code 70 = some A70) (hp : E.prim 70 = none) : ShOK E 70 w70 := shW_ok (A := { pts := [], lps := [] }) (S := noS) e hp (by kernel_rfl) (by kernel_rfl) (by kernel_rfl)

@[irreducible] noncomputable def A71 : AFun := (compFn Tryz.prog Tryz.f71).getD ⟨0, [], .skip⟩
noncomputable def w71 : Sh := shW 2 fun call n K => pA2 (s71 call n) K
theorem w71_ok {E : Env} (e : E.code 71 = some A71) (hp : E.prim 71 = none) : ShOK E 71 w71 := shW_ok (A := { pts := [], lps := [] }) (S := noS) e hp (by kernel_rfl) (by kernel_rfl) (by kernel_rfl)

noncomputable def T72 (call : CallFn) (n : Nat) (K : Kont) : Sp := {
  pt := fun β j => ifF j 4001 (pA2 (p72_4001 call n) K) <| noP
  fs := fun β j => noP
  rd := fun β j => noP
  lp := fun β j m => noP }
@[irreducible] noncomputable def A72 : AFun := (compFn Tryz.prog Tryz.f72).getD ⟨0, [], .skip⟩
noncomputable def w72 : Sh := shW 2 fun call n K => pA2 (s72 call n) K
theorem w72_ok {E : Env} (e : E.code 72 = some A72) (hp : E.prim 72 = none) : ShOK E 72 w72 := shW_ok (A := { pts := [], lps := [], cuts := [(3, [(2, 4001, [1, 6])])] }) (S := T72) e hp (by kernel_rfl) (by kernel_rfl) (by kernel_rfl)

noncomputable def T74 (call : CallFn) (n : Nat) (K : Kont) : Sp := {
  pt := fun β j => ifF j 9001 (pA2 (p74_9001 call n) K) <| ifF j 15001 (pA2 (p74_15001 call n) K) <| ifF j 23001 (pA3 (p74_23001 call n) K) <| ifF j 27001 (pA4 (p74_27001 call n) K) <| ifF j 37001 (pA2 (p74_37001 call n) K) <| ifF j 45001 (pA3 (p74_45001 call n) K) <| ifF j 55001 (pA2 (p74_55001 call n) K) <| ifF j 61001 (pA2 (p74_61001 call n) K) <| ifF j 64001 (pA3 (p74_64001 call n) K) <| ifF j 64002 (pA4 (p74_64002 call n) K) <| ifF j 67001 (pA3 (p74_67001 call n) K) <| ifF j 71001 (pA3 (p74_71001 call n) K) <| ifF j 77001 (pA2 (p74_77001 call n) K) <| noP
  fs := fun β j => noP
  rd := fun β j => noP
  lp := fun β j m => noP }
@[irreducible] noncomputable def A74 : AFun := (compFn Tryz.prog Tryz.f74).getD ⟨0, [], .skip⟩
noncomputable def w74 : Sh := shW 1 fun call n K => pA1 (s74 call n) K
theorem w74_ok {E : Env} (e : E.code 74 = some A74) (hp : E.prim 74 = none) : ShOK E 74 w74 := shW_ok (A := { pts := [], lps := [], cuts := [(8, [(2, 9001, [2, 10])]), (14, [(2, 15001, [2, 16])]), (22, [(3, 23001, [0, 2, 25])]), (26, [(3, 27001, [0, 2, 3, 32])]), (36, [(2, 37001, [2, 41])]), (44, [(2, 45001, [0, 2, 48])]), (54, [(2, 55001, [2, 57])]), (60, [(2, 61001, [2, 62])]), (63, [(2, 64001, [0, 2, 65]), (3, 64002, [0, 2, 66, 68])]), (66, [(2, 67001, [0, 2, 72])]), (70, [(2, 71001, [2, 5, 78])]), (76, [(2, 77001, [2, 82])])] }) (S := T74) e hp (by kernel_rfl) (by kernel_rfl) (by kernel_rfl)

noncomputable def T75 (call : CallFn) (n : Nat) (K : Kont) : Sp := {
  pt := fun β j => ifF j 12 (pA2 (p75_12 call n) K) <| noP
  fs := fun β j => noP
  rd := fun β j => noP
  lp := fun β j m => noP }
@[irreducible] noncomputable def A75 : AFun := (compFn Tryz.prog Tryz.f75).getD ⟨0, [], .skip⟩
noncomputable def w75 : Sh := shW 2 fun call n K => pA2 (s75 call n) K
theorem w75_ok {E : Env} (e : E.code 75 = some A75) (hp : E.prim 75 = none) : ShOK E 75 w75 := shW_ok (A := { pts := [(12, [2, 5])], lps := [] }) (S := T75) e hp (by kernel_rfl) (by kernel_rfl) (by kernel_rfl)

noncomputable def T76 (call : CallFn) (n : Nat) (K : Kont) : Sp := {
  pt := fun β j => ifF j 4001 (pA2 (p76_4001 call n) K) <| noP
  fs := fun β j => noP
  rd := fun β j => noP
  lp := fun β j m => noP }
@[irreducible] noncomputable def A76 : AFun := (compFn Tryz.prog Tryz.f76).getD ⟨0, [], .skip⟩
noncomputable def w76 : Sh := shW 1 fun call n K => pA1 (s76 call n) K
theorem w76_ok {E : Env} (e : E.code 76 = some A76) (hp : E.prim 76 = none) : ShOK E 76 w76 := shW_ok (A := { pts := [], lps := [], cuts := [(3, [(2, 4001, [2, 4])])] }) (S := T76) e hp (by kernel_rfl) (by kernel_rfl) (by kernel_rfl)

@[irreducible] noncomputable def A78 : AFun := (compFn Tryz.prog Tryz.f78).getD ⟨0, [], .skip⟩
noncomputable def w78 : Sh := shW 2 fun call n K => pA2 (s78 call n) K
theorem w78_ok {E : Env} (e : E.code 78 = some A78) (hp : E.prim 78 = none) : ShOK E 78 w78 := shW_ok (A := { pts := [], lps := [] }) (S := noS) e hp (by kernel_rfl) (by kernel_rfl) (by kernel_rfl)

noncomputable def T79 (call : CallFn) (n : Nat) (K : Kont) : Sp := {
  pt := fun β j => ifF j 19 (pA2 (p79_19 call n) K) <| ifF j 36 (pA2 (p79_36 call n) K) <| noP
  fs := fun β j => noP
  rd := fun β j => ifF j 6 (pA5 (b79_6 call n (pF5 (pB 0 β))) K) <| ifF j 23 (pA5 (b79_23 call n (pF5 (pB 0 β))) K) <| ifF j 39 (pA4 (b79_39 call n (pF4 (pB 0 β))) K) <| noP
  lp := fun β j m => ifL j 6 (pC5 (l79_6 call n m) K) <| ifL j 23 (pC5 (l79_23 call n m) K) <| ifL j 39 (pC4 (l79_39 call n m) K) <| noP }
@[irreducible] noncomputable def A79 : AFun := (compFn Tryz.prog Tryz.f79).getD ⟨0, [], .skip⟩
noncomputable def w79 : Sh := shW 2 fun call n K => pA2 (s79 call n) K
theorem w79_ok {E : Env} (e : E.code 79 = some A79) (hp : E.prim 79 = none) : ShOK E 79 w79 := shW_ok (A := { pts := [(19, [0, 3]), (36, [0, 3])], lps := [(6, [0, 3, 11, 12, 13]), (23, [0, 3, 22, 23, 24]), (39, [0, 33, 34, 35])] }) (S := T79) e hp (by kernel_rfl) (by kernel_rfl) (by kernel_rfl)

noncomputable def T80 (call : CallFn) (n : Nat) (K : Kont) : Sp := {
  pt := fun β j => ifF j 4001 (pA3 (p80_4001 call n) K) <| ifF j 16001 (pA3 (p80_16001 call n) K) <| noP
  fs := fun β j => noP
  rd := fun β j => noP
  lp := fun β j m => noP }
@[irreducible] noncomputable def A80 : AFun := (compFn Tryz.prog Tryz.f80).getD ⟨0, [], .skip⟩
noncomputable def w80 : Sh := shW 1 fun call n K => pA1 (s80 call n) K
theorem w80_ok {E : Env} (e : E.code 80 = some A80) (hp : E.prim 80 = none) : ShOK E 80 w80 := shW_ok (A := { pts := [], lps := [], cuts := [(3, [(2, 4001, [0, 2, 10])]), (15, [(5, 16001, [2, 7, 22])])] }) (S := T80) e hp (by kernel_rfl) (by kernel_rfl) (by kernel_rfl)

noncomputable def T81 (call : CallFn) (n : Nat) (K : Kont) : Sp := {
  pt := fun β j => ifF j 4001 (pA3 (p81_4001 call n) K) <| ifF j 4002 (pA4 (p81_4002 call n) K) <| ifF j 4003 (pA2 (p81_4003 call n) K) <| noP
  fs := fun β j => noP
  rd := fun β j => noP
  lp := fun β j m => noP }
@[irreducible] noncomputable def A81 : AFun := (compFn Tryz.prog Tryz.f81).getD ⟨0, [], .skip⟩
noncomputable def w81 : Sh := shW 2 fun call n K => pA2 (s81 call n) K
theorem w81_ok {E : Env} (e : E.code 81 = some A81) (hp : E.prim 81 = none) : ShOK E 81 w81 := shW_ok (A := { pts := [], lps := [], cuts := [(3, [(5, 4001, [2, 3, 9]), (6, 4002, [2, 3, 10, 15]), (7, 4003, [17, 22])])] }) (S := T81) e hp (by kernel_rfl) (by kernel_rfl) (by kernel_rfl)

@[irreducible] noncomputable def A82 : AFun := (compFn Tryz.prog Tryz.f82).getD ⟨0, [], .skip⟩
noncomputable def w82 : Sh := shW 1 fun call n K => pA1 (s82 call n) K
theorem w82_ok {E : Env} (e : E.code 82 = some A82) (hp : E.prim 82 = none) : ShOK E 82 w82 := shW_ok (A := { pts := [], lps := [] }) (S := noS) e hp (by kernel_rfl) (by kernel_rfl) (by kernel_rfl)

noncomputable def T83 (call : CallFn) (n : Nat) (K : Kont) : Sp := {
  pt := fun β j => ifF j 4001 (pA3 (p83_4001 call n) K) <| noP
  fs := fun β j => noP
  rd := fun β j => noP
  lp := fun β j m => noP }
@[irreducible] noncomputable def A83 : AFun := (compFn Tryz.prog Tryz.f83).getD ⟨0, [], .skip⟩
noncomputable def w83 : Sh := shW 2 fun call n K => pA2 (s83 call n) K
theorem w83_ok {E : Env} (e : E.code 83 = some A83) (hp : E.prim 83 = none) : ShOK E 83 w83 := shW_ok (A := { pts := [], lps := [], cuts := [(3, [(3, 4001, [0, 1, 8])])] }) (S := T83) e hp (by kernel_rfl) (by kernel_rfl) (by kernel_rfl)

@[irreducible] noncomputable def A84 : AFun := (compFn Tryz.prog Tryz.f84).getD ⟨0, [], .skip⟩
noncomputable def w84 : Sh := shW 2 fun call n K => pA2 (s84 call n) K
theorem w84_ok {E : Env} (e : E.code 84 = some A84) (hp : E.prim 84 = none) : ShOK E 84 w84 := shW_ok (A := { pts := [], lps := [] }) (S := noS) e hp (by kernel_rfl) (by kernel_rfl) (by kernel_rfl)

@[irreducible] noncomputable def A85 : AFun := (compFn Tryz.prog Tryz.f85).getD ⟨0, [], .skip⟩
noncomputable def w85 : Sh := shW 2 fun call n K => pA2 (s85 call n) K
theorem w85_ok {E : Env} (e : E.code 85 = some A85) (hp : E.prim 85 = none) : ShOK E 85 w85 := shW_ok (A := { pts := [], lps := [] }) (S := noS) e hp (by kernel_rfl) (by kernel_rfl) (by kernel_rfl)

@[irreducible] noncomputable def A86 : AFun := (compFn Tryz.prog Tryz.f86).getD ⟨0, [], .skip⟩
noncomputable def w86 : Sh := shW 1 fun call n K => pA1 (s86 call n) K
theorem w86_ok {E : Env} (e : E.code 86 = some A86) (hp : E.prim 86 = none) : ShOK E 86 w86 := shW_ok (A := { pts := [], lps := [] }) (S := noS) e hp (by kernel_rfl) (by kernel_rfl) (by kernel_rfl)

noncomputable def T87 (call : CallFn) (n : Nat) (K : Kont) : Sp := {
  pt := fun β j => ifF j 25 (pA2 (p87_25 call n) K) <| ifF j 19001 (pA8 (p87_19001 call n (pF6 (pB 0 β))) K) <| ifF j 42001 (pA6 (p87_42001 call n (pF4 (pB 0 β))) K) <| noP
  fs := fun β j => noP
  rd := fun β j => ifF j 6 (pA6 (b87_6 call n (pF6 (pB 0 β))) K) <| ifF j 29 (pA4 (b87_29 call n (pF4 (pB 0 β))) K) <| noP
  lp := fun β j m => ifL j 6 (pC6 (l87_6 call n m) K) <| ifL j 29 (pC4 (l87_29 call n m) K) <| noP }
@[irreducible] noncomputable def A87 : AFun := (compFn Tryz.prog Tryz.f87).getD ⟨0, [], .skip⟩
noncomputable def w87 : Sh := shW 3 fun call n K => pA3 (s87 call n) K
theorem w87_ok {E : Env} (e : E.code 87 = some A87) (hp : E.prim 87 = none) : ShOK E 87 w87 := shW_ok (A := { pts := [(25, [0, 2])], lps := [(6, [0, 1, 2, 16, 17, 18]), (29, [2, 33, 34, 35])], cuts := [(18, [(3, 19001, [0, 1, 2, 9, 16, 17, 18, 24])]), (41, [(3, 42001, [2, 11, 33, 34, 35, 41])])] }) (S := T87) e hp (by kernel_rfl) (by kernel_rfl) (by kernel_rfl)

@[irreducible] noncomputable def A88 : AFun := (compFn Tryz.prog Tryz.f88).getD ⟨0, [], .skip⟩
noncomputable def w88 : Sh := shW 3 fun call n K => pA3 (s88 call n) K
theorem w88_ok {E : Env} (e : E.code 88 = some A88) (hp : E.prim 88 = none) : ShOK E 88 w88 := shW_ok (A := { pts := [], lps := [] }) (S := noS) e hp (by kernel_rfl) (by kernel_rfl) (by kernel_rfl)

@[irreducible] noncomputable def A89 : AFun := (compFn Tryz.prog Tryz.f89).getD ⟨0, [], .skip⟩
noncomputable def w89 : Sh := shW 3 fun call n K => pA3 (s89 call n) K
theorem w89_ok {E : Env} (e : E.code 89 = some A89) (hp : E.prim 89 = none) : ShOK E 89 w89 := shW_ok (A := { pts := [], lps := [] }) (S := noS) e hp (by kernel_rfl) (by kernel_rfl) (by kernel_rfl)

@[irreducible] noncomputable def A90 : AFun := (compFn Tryz.prog Tryz.f90).getD ⟨0, [], .skip⟩
noncomputable def w90 : Sh := shW 1 fun call n K => pA1 (s90 call n) K
theorem w90_ok {E : Env} (e : E.code 90 = some A90) (hp : E.prim 90 = none) : ShOK E 90 w90 := shW_ok (A := { pts := [], lps := [] }) (S := noS) e hp (by kernel_rfl) (by kernel_rfl) (by kernel_rfl)

noncomputable def T91 (call : CallFn) (n : Nat) (K : Kont) : Sp := {
  pt := fun β j => noP
  fs := fun β j => noP
  rd := fun β j => ifF j 8 (pA4 (b91_8 call n (pF4 (pB 0 β))) K) <| noP
  lp := fun β j m => ifL j 8 (pC4 (l91_8 call n m) K) <| noP }
@[irreducible] noncomputable def A91 : AFun := (compFn Tryz.prog Tryz.f91).getD ⟨0, [], .skip⟩
noncomputable def w91 : Sh := shW 1 fun call n K => pA1 (s91 call n) K
theorem w91_ok {E : Env} (e : E.code 91 = some A91) (hp : E.prim 91 = none) : ShOK E 91 w91 := shW_ok (A := { pts := [], lps := [(8, [3, 8, 9, 10])] }) (S := T91) e hp (by kernel_rfl) (by kernel_rfl) (by kernel_rfl)

@[irreducible] noncomputable def A92 : AFun := (compFn Tryz.prog Tryz.f92).getD ⟨0, [], .skip⟩
noncomputable def w92 : Sh := shW 2 fun call n K => pA2 (s92 call n) K
theorem w92_ok {E : Env} (e : E.code 92 = some A92) (hp : E.prim 92 = none) : ShOK E 92 w92 := shW_ok (A := { pts := [], lps := [] }) (S := noS) e hp (by kernel_rfl) (by kernel_rfl) (by kernel_rfl)

@[irreducible] noncomputable def A94 : AFun := (compFn Tryz.prog Tryz.f94).getD ⟨0, [], .skip⟩
noncomputable def w94 : Sh := shW 2 fun call n K => pA2 (s94 call n) K
theorem w94_ok {E : Env} (e : E.code 94 = some A94) (hp : E.prim 94 = none) : ShOK E 94 w94 := shW_ok (A := { pts := [], lps := [] }) (S := noS) e hp (by kernel_rfl) (by kernel_rfl) (by kernel_rfl)

noncomputable def T95 (call : CallFn) (n : Nat) (K : Kont) : Sp := {
  pt := fun β j => noP
  fs := fun β j => noP
  rd := fun β j => ifF j 8 (pA5 (b95_8 call n (pF5 (pB 0 β))) K) <| noP
  lp := fun β j m => ifL j 8 (pC5 (l95_8 call n m) K) <| noP }
@[irreducible] noncomputable def A95 : AFun := (compFn Tryz.prog Tryz.f95).getD ⟨0, [], .skip⟩
noncomputable def w95 : Sh := shW 3 fun call n K => pA3 (s95 call n) K
theorem w95_ok {E : Env} (e : E.code 95 = some A95) (hp : E.prim 95 = none) : ShOK E 95 w95 := shW_ok (A := { pts := [], lps := [(8, [0, 2, 11, 12, 13])] }) (S := T95) e hp (by kernel_rfl) (by kernel_rfl) (by kernel_rfl)

@[irreducible] noncomputable def A97 : AFun := (compFn Tryz.prog Tryz.f97).getD ⟨0, [], .skip⟩
noncomputable def w97 : Sh := shW 1 fun call n K => pA1 (s97 call n) K
theorem w97_ok {E : Env} (e : E.code 97 = some A97) (hp : E.prim 97 = none) : ShOK E 97 w97 := shW_ok (A := { pts := [], lps := [] }) (S := noS) e hp (by kernel_rfl) (by kernel_rfl) (by kernel_rfl)

@[irreducible] noncomputable def A98 : AFun := (compFn Tryz.prog Tryz.f98).getD ⟨0, [], .skip⟩
noncomputable def w98 : Sh := shW 2 fun call n K => pA2 (s98 call n) K
theorem w98_ok {E : Env} (e : E.code 98 = some A98) (hp : E.prim 98 = none) : ShOK E 98 w98 := shW_ok (A := { pts := [], lps := [] }) (S := noS) e hp (by kernel_rfl) (by kernel_rfl) (by kernel_rfl)

@[irreducible] noncomputable def A99 : AFun := (compFn Tryz.prog Tryz.f99).getD ⟨0, [], .skip⟩
noncomputable def w99 : Sh := shW 2 fun call n K => pA2 (s99 call n) K
theorem w99_ok {E : Env} (e : E.code 99 = some A99) (hp : E.prim 99 = none) : ShOK E 99 w99 := shW_ok (A := { pts := [], lps := [] }) (S := noS) e hp (by kernel_rfl) (by kernel_rfl) (by kernel_rfl)

noncomputable def T100 (call : CallFn) (n : Nat) (K : Kont) : Sp := {
  pt := fun β j => noP
  fs := fun β j => noP
  rd := fun β j => ifF j 5 (pA5 (b100_5 call n (pF5 (pB 0 β))) K) <| noP
  lp := fun β j m => ifL j 5 (pC5 (l100_5 call n m) K) <| noP }
@[irreducible] noncomputable def A100 : AFun := (compFn Tryz.prog Tryz.f100).getD ⟨0, [], .skip⟩
noncomputable def w100 : Sh := shW 2 fun call n K => pA2 (s100 call n) K
theorem w100_ok {E : Env} (e : E.code 100 = some A100) (hp : E.prim 100 = none) : ShOK E 100 w100 := shW_ok (A := { pts := [], lps := [(5, [0, 2, 11, 12, 13])] }) (S := T100) e hp (by kernel_rfl) (by kernel_rfl) (by kernel_rfl)

noncomputable def T101 (call : CallFn) (n : Nat) (K : Kont) : Sp := {
  pt := fun β j => ifF j 11 (pA5 (p101_11 call n) K) <| ifF j 27 (pA3 (p101_27 call n) K) <| noP
  fs := fun β j => noP
  rd := fun β j => noP
  lp := fun β j m => noP }
@[irreducible] noncomputable def A101 : AFun := (compFn Tryz.prog Tryz.f101).getD ⟨0, [], .skip⟩
noncomputable def w101 : Sh := shW 3 fun call n K => pA3 (s101 call n) K
theorem w101_ok {E : Env} (e : E.code 101 = some A101) (hp : E.prim 101 = none) : ShOK E 101 w101 := shW_ok (A := { pts := [(11, [0, 2, 4, 7, 8]), (27, [2, 4, 33])], lps := [] }) (S := T101) e hp (by kernel_rfl) (by kernel_rfl) (by kernel_rfl)

@[irreducible] noncomputable def A102 : AFun := (compFn Tryz.prog Tryz.f102).getD ⟨0, [], .skip⟩
noncomputable def w102 : Sh := shW 1 fun call n K => pA1 (s102 call n) K
theorem w102_ok {E : Env} (e : E.code 102 = some A102) (hp : E.prim 102 = none) : ShOK E 102 w102 := shW_ok (A := { pts := [], lps := [] }) (S := noS) e hp (by kernel_rfl) (by kernel_rfl) (by kernel_rfl)

noncomputable def T103 (call : CallFn) (n : Nat) (K : Kont) : Sp := {
  pt := fun β j => ifF j 10 (pA5 (p103_10 call n (pF5 (pB 0 β))) K) <| ifF j 20 (pA6 (p103_20 call n (pF5 (pB 0 β))) K) <| ifF j 40 (pA5 (p103_40 call n (pF5 (pB 0 β))) K) <| noP
  fs := fun β j => noP
  rd := fun β j => ifF j 3 (pA5 (b103_3 call n (pF5 (pB 0 β))) K) <| ifF j 27 (pA8 (b103_27 call n (pF5 (pB 1 β)) (pF8 (pB 0 β))) K) <| noP
  lp := fun β j m => ifL j 3 (pC5 (l103_3 call n m) K) <| ifL j 27 (pC8 (l103_27 call n (pF5 (pB 0 β)) m) K) <| noP }
@[irreducible] noncomputable def A103 : AFun := (compFn Tryz.prog Tryz.f103).getD ⟨0, [], .skip⟩
noncomputable def w103 : Sh := shW 3 fun call n K => pA3 (s103 call n) K
theorem w103_ok {E : Env} (e : E.code 103 = some A103) (hp : E.prim 103 = none) : ShOK E 103 w103 := shW_ok (A := { pts := [(10, [1, 2, 10, 11, 12]), (20, [1, 2, 7, 10, 11, 12]), (40, [1, 2, 10, 11, 12])], lps := [(3, [1, 2, 10, 11, 12]), (27, [1, 2, 10, 11, 12, 44, 45, 46])] }) (S := T103) e hp (by kernel_rfl) (by kernel_rfl) (by kernel_rfl)

@[irreducible] noncomputable def A104 : AFun := (compFn Tryz.prog Tryz.f104).getD ⟨0, [], .skip⟩
noncomputable def w104 : Sh := shW 5 fun call n K => pA5 (s104 call n) K
theorem w104_ok {E : Env} (e : E.code 104 = some A104) (hp : E.prim 104 = none) : ShOK E 104 w104 := shW_ok (A := { pts := [], lps := [] }) (S := noS) e hp (by kernel_rfl) (by kernel_rfl) (by kernel_rfl)

noncomputable def T105 (call : CallFn) (n : Nat) (K : Kont) : Sp := {
  pt := fun β j => noP
  fs := fun β j => noP
  rd := fun β j => ifF j 6 (pA4 (b105_6 call n (pF4 (pB 0 β))) K) <| noP
  lp := fun β j m => ifL j 6 (pC4 (l105_6 call n m) K) <| noP }
@[irreducible] noncomputable def A105 : AFun := (compFn Tryz.prog Tryz.f105).getD ⟨0, [], .skip⟩
noncomputable def w105 : Sh := shW 2 fun call n K => pA2 (s105 call n) K
theorem w105_ok {E : Env} (e : E.code 105 = some A105) (hp : E.prim 105 = none) : ShOK E 105 w105 := shW_ok (A := { pts := [], lps := [(6, [0, 1, 7, 8])] }) (S := T105) e hp (by kernel_rfl) (by kernel_rfl) (by kernel_rfl)

@[irreducible] noncomputable def A106 : AFun := (compFn Tryz.prog Tryz.f106).getD ⟨0, [], .skip⟩
noncomputable def w106 : Sh := shW 2 fun call n K => pA2 (s106 call n) K
theorem w106_ok {E : Env} (e : E.code 106 = some A106) (hp : E.prim 106 = none) : ShOK E 106 w106 := shW_ok (A := { pts := [], lps := [] }) (S := noS) e hp (by kernel_rfl) (by kernel_rfl) (by kernel_rfl)

@[irreducible] noncomputable def A107 : AFun := (compFn Tryz.prog Tryz.f107).getD ⟨0, [], .skip⟩
noncomputable def w107 : Sh := shW 1 fun call n K => pA1 (s107 call n) K
theorem w107_ok {E : Env} (e : E.code 107 = some A107) (hp : E.prim 107 = none) : ShOK E 107 w107 := shW_ok (A := { pts := [], lps := [] }) (S := noS) e hp (by kernel_rfl) (by kernel_rfl) (by kernel_rfl)

noncomputable def T108 (call : CallFn) (n : Nat) (K : Kont) : Sp := {
  pt := fun β j => ifF j 27 (pA3 (p108_27 call n) K) <| ifF j 21001 (pA8 (p108_21001 call n (pF7 (pB 0 β))) K) <| ifF j 29001 (pA1 (p108_29001 call n) K) <| noP
  fs := fun β j => noP
  rd := fun β j => ifF j 8 (pA7 (b108_8 call n (pF7 (pB 0 β))) K) <| noP
  lp := fun β j m => ifL j 8 (pC7 (l108_8 call n m) K) <| noP }
@[irreducible] noncomputable def A108 : AFun := (compFn Tryz.prog Tryz.f108).getD ⟨0, [], .skip⟩
noncomputable def w108 : Sh := shW 4 fun call n K => pA4 (s108 call n) K
theorem w108_ok {E : Env} (e : E.code 108 = some A108) (hp : E.prim 108 = none) : ShOK E 108 w108 := shW_ok (A := { pts := [(27, [1, 2, 3])], lps := [(8, [1, 2, 3, 4, 11, 12, 13])], cuts := [(20, [(4, 21001, [1, 2, 3, 4, 11, 12, 13, 20])]), (28, [(3, 29001, [25])])] }) (S := T108) e hp (by kernel_rfl) (by kernel_rfl) (by kernel_rfl)

noncomputable def T109 (call : CallFn) (n : Nat) (K : Kont) : Sp := {
  pt := fun β j => ifF j 23001 (pA2 (p109_23001 call n (pF4 (pB 0 β))) K) <| noP
  fs := fun β j => noP
  rd := fun β j => ifF j 6 (pA4 (b109_6 call n (pF4 (pB 0 β))) K) <| noP
  lp := fun β j m => ifL j 6 (pC4 (l109_6 call n m) K) <| noP }
@[irreducible] noncomputable def A109 : AFun := (compFn Tryz.prog Tryz.f109).getD ⟨0, [], .skip⟩
noncomputable def w109 : Sh := shW 2 fun call n K => pA2 (s109 call n) K
theorem w109_ok {E : Env} (e : E.code 109 = some A109) (hp : E.prim 109 = none) : ShOK E 109 w109 := shW_ok (A := { pts := [], lps := [(6, [3, 7, 8, 9])], cuts := [(22, [(8, 23001, [21, 25])])] }) (S := T109) e hp (by kernel_rfl) (by kernel_rfl) (by kernel_rfl)

noncomputable def T110 (call : CallFn) (n : Nat) (K : Kont) : Sp := {
  pt := fun β j => ifF j 4001 (pA1 (p110_4001 call n) K) <| noP
  fs := fun β j => noP
  rd := fun β j => noP
  lp := fun β j m => noP }
@[irreducible] noncomputable def A110 : AFun := (compFn Tryz.prog Tryz.f110).getD ⟨0, [], .skip⟩
noncomputable def w110 : Sh := shW 2 fun call n K => pA2 (s110 call n) K
theorem w110_ok {E : Env} (e : E.code 110 = some A110) (hp : E.prim 110 = none) : ShOK E 110 w110 := shW_ok (A := { pts := [], lps := [], cuts := [(3, [(3, 4001, [7])])] }) (S := T110) e hp (by kernel_rfl) (by kernel_rfl) (by kernel_rfl)

@[irreducible] noncomputable def A111 : AFun := (compFn Tryz.prog Tryz.f111).getD ⟨0, [], .skip⟩
noncomputable def w111 : Sh := shW 3 fun call n K => pA3 (s111 call n) K
theorem w111_ok {E : Env} (e : E.code 111 = some A111) (hp : E.prim 111 = none) : ShOK E 111 w111 := shW_ok (A := { pts := [], lps := [] }) (S := noS) e hp (by kernel_rfl) (by kernel_rfl) (by kernel_rfl)

noncomputable def T112 (call : CallFn) (n : Nat) (K : Kont) : Sp := {
  pt := fun β j => ifF j 4001 (pA3 (p112_4001 call n) K) <| ifF j 4002 (pA2 (p112_4002 call n) K) <| noP
  fs := fun β j => noP
  rd := fun β j => noP
  lp := fun β j m => noP }
@[irreducible] noncomputable def A112 : AFun := (compFn Tryz.prog Tryz.f112).getD ⟨0, [], .skip⟩
noncomputable def w112 : Sh := shW 2 fun call n K => pA2 (s112 call n) K
theorem w112_ok {E : Env} (e : E.code 112 = some A112) (hp : E.prim 112 = none) : ShOK E 112 w112 := shW_ok (A := { pts := [], lps := [], cuts := [(3, [(3, 4001, [1, 2, 6]), (4, 4002, [8, 10])])] }) (S := T112) e hp (by kernel_rfl) (by kernel_rfl) (by kernel_rfl)

noncomputable def T113 (call : CallFn) (n : Nat) (K : Kont) : Sp := {
  pt := fun β j => ifF j 15 (pA4 (p113_15 call n (pF4 (pB 0 β))) K) <| ifF j 37 (pA4 (p113_37 call n (pF4 (pB 0 β))) K) <| ifF j 36001 (pA8 (p113_36001 call n (pF4 (pB 1 β)) (pF7 (pB 0 β))) K) <| noP
  fs := fun β j => noP
  rd := fun β j => ifF j 8 (pA4 (b113_8 call n (pF4 (pB 0 β))) K) <| ifF j 24 (pA7 (b113_24 call n (pF4 (pB 1 β)) (pF7 (pB 0 β))) K) <| noP
  lp := fun β j m => ifL j 8 (pC4 (l113_8 call n m) K) <| ifL j 24 (pC7 (l113_24 call n (pF4 (pB 0 β)) m) K) <| noP }
@[irreducible] noncomputable def A113 : AFun := (compFn Tryz.prog Tryz.f113).getD ⟨0, [], .skip⟩
noncomputable def w113 : Sh := shW 1 fun call n K => pA1 (s113 call n) K
theorem w113_ok {E : Env} (e : E.code 113 = some A113) (hp : E.prim 113 = none) : ShOK E 113 w113 := shW_ok (A := { pts := [(15, [3, 8, 9, 10]), (37, [3, 8, 9, 10])], lps := [(8, [3, 8, 9, 10]), (24, [3, 8, 9, 10, 25, 26, 27])], cuts := [(35, [(3, 36001, [8, 9, 10, 25, 26, 27, 31, 33])])] }) (S := T113) e hp (by kernel_rfl) (by kernel_rfl) (by kernel_rfl)

@[irreducible] noncomputable def A114 : AFun := (compFn Tryz.prog Tryz.f114).getD ⟨0, [], .skip⟩
noncomputable def w114 : Sh := shW 2 fun call n K => pA2 (s114 call n) K
theorem w114_ok {E : Env} (e : E.code 114 = some A114) (hp : E.prim 114 = none) : ShOK E 114 w114 := shW_ok (A := { pts := [], lps := [] }) (S := noS) e hp (by kernel_rfl) (by kernel_rfl) (by kernel_rfl)

noncomputable def T115 (call : CallFn) (n : Nat) (K : Kont) : Sp := {
  pt := fun β j => ifF j 15 (pA4 (p115_15 call n (pF4 (pB 0 β))) K) <| ifF j 36 (pA8 (p115_36 call n (pF4 (pB 1 β)) (pF8 (pB 0 β))) K) <| ifF j 58 (pA8 (p115_58 call n (pF4 (pB 1 β)) (pF8 (pB 0 β))) K) <| ifF j 60 (pA4 (p115_60 call n (pF4 (pB 0 β))) K) <| noP
  fs := fun β j => noP
  rd := fun β j => ifF j 8 (pA4 (b115_8 call n (pF4 (pB 0 β))) K) <| ifF j 29 (pA8 (b115_29 call n (pF4 (pB 1 β)) (pF8 (pB 0 β))) K) <| ifF j 43 (pA12 (b115_43 call n (pF4 (pB 2 β)) (pF8 (pB 1 β)) (pF12 (pB 0 β))) K) <| noP
  lp := fun β j m => ifL j 8 (pC4 (l115_8 call n m) K) <| ifL j 29 (pC8 (l115_29 call n (pF4 (pB 0 β)) m) K) <| ifL j 43 (pC12 (l115_43 call n (pF4 (pB 1 β)) (pF8 (pB 0 β)) m) K) <| noP }
@[irreducible] noncomputable def A115 : AFun := (compFn Tryz.prog Tryz.f115).getD ⟨0, [], .skip⟩
noncomputable def w115 : Sh := shW 1 fun call n K => pA1 (s115 call n) K
theorem w115_ok {E : Env} (e : E.code 115 = some A115) (hp : E.prim 115 = none) : ShOK E 115 w115 := shW_ok (A := { pts := [(15, [3, 13, 14, 15]), (36, [6, 7, 13, 14, 15, 28, 29, 30]), (58, [6, 7, 13, 14, 15, 28, 29, 30]), (60, [3, 13, 14, 15])], lps := [(8, [3, 13, 14, 15]), (29, [6, 7, 13, 14, 15, 28, 29, 30]), (43, [6, 7, 9, 13, 14, 15, 28, 29, 30, 34, 35, 36])] }) (S := T115) e hp (by kernel_rfl) (by kernel_rfl) (by kernel_rfl)

noncomputable def T116 (call : CallFn) (n : Nat) (K : Kont) : Sp := {
  pt := fun β j => ifF j 4001 (pA1 (p116_4001 call n) K) <| noP
  fs := fun β j => noP
  rd := fun β j => noP
  lp := fun β j m => noP }
@[irreducible] noncomputable def A116 : AFun := (compFn Tryz.prog Tryz.f116).getD ⟨0, [], .skip⟩
noncomputable def w116 : Sh := shW 1 fun call n K => pA1 (s116 call n) K
theorem w116_ok {E : Env} (e : E.code 116 = some A116) (hp : E.prim 116 = none) : ShOK E 116 w116 := shW_ok (A := { pts := [], lps := [], cuts := [(3, [(3, 4001, [5])])] }) (S := T116) e hp (by kernel_rfl) (by kernel_rfl) (by kernel_rfl)

noncomputable def T117 (call : CallFn) (n : Nat) (K : Kont) : Sp := {
  pt := fun β j => ifF j 10 (pA5 (p117_10 call n (pF5 (pB 0 β))) K) <| ifF j 26 (pA5 (p117_26 call n (pF5 (pB 0 β))) K) <| noP
  fs := fun β j => noP
  rd := fun β j => ifF j 3 (pA5 (b117_3 call n (pF5 (pB 0 β))) K) <| ifF j 15 (pA6 (b117_15 call n (pF5 (pB 1 β)) (pF6 (pB 0 β))) K) <| noP
  lp := fun β j m => ifL j 3 (pC5 (l117_3 call n m) K) <| ifL j 15 (pC6 (l117_15 call n (pF5 (pB 0 β)) m) K) <| noP }
@[irreducible] noncomputable def A117 : AFun := (compFn Tryz.prog Tryz.f117).getD ⟨0, [], .skip⟩
noncomputable def w117 : Sh := shW 4 fun call n K => pA4 (s117 call n) K
theorem w117_ok {E : Env} (e : E.code 117 = some A117) (hp : E.prim 117 = none) : ShOK E 117 w117 := shW_ok (A := { pts := [(10, [0, 1, 2, 3, 8]), (26, [0, 1, 2, 3, 8])], lps := [(3, [0, 1, 2, 3, 8]), (15, [0, 1, 2, 3, 8, 9])] }) (S := T117) e hp (by kernel_rfl) (by kernel_rfl) (by kernel_rfl)

noncomputable def T126 (call : CallFn) (n : Nat) (K : Kont) : Sp := {
  pt := fun β j => ifF j 10 (pA2 (p126_10 call n) K) <| ifF j 18 (pA2 (p126_18 call n) K) <| ifF j 26 (pA2 (p126_26 call n) K) <| noP
  fs := fun β j => noP
  rd := fun β j => noP
  lp := fun β j m => noP }
@[irreducible] noncomputable def A126 : AFun := (compFn Tryz.prog Tryz.f126).getD ⟨0, [], .skip⟩
noncomputable def w126 : Sh := shW 1 fun call n K => pA1 (s126 call n) K
theorem w126_ok {E : Env} (e : E.code 126 = some A126) (hp : E.prim 126 = none) : ShOK E 126 w126 := shW_ok (A := { pts := [(10, [0, 2]), (18, [0, 2]), (26, [0, 2])], lps := [] }) (S := T126) e hp (by kernel_rfl) (by kernel_rfl) (by kernel_rfl)

noncomputable def T127 (call : CallFn) (n : Nat) (K : Kont) : Sp := {
  pt := fun β j => ifF j 29 (pA1 (p127_29 call n) K) <| ifF j 31001 (pA2 (p127_31001 call n) K) <| noP
  fs := fun β j => noP
  rd := fun β j => ifF j 6 (pA3 (b127_6 call n (pF3 (pB 0 β))) K) <| noP
  lp := fun β j m => ifL j 6 (pC3 (l127_6 call n m) K) <| noP }
@[irreducible] noncomputable def A127 : AFun := (compFn Tryz.prog Tryz.f127).getD ⟨0, [], .skip⟩
noncomputable def w127 : Sh := shW 1 fun call n K => pA1 (s127 call n) K
theorem w127_ok {E : Env} (e : E.code 127 = some A127) (hp : E.prim 127 = none) : ShOK E 127 w127 := shW_ok (A := { pts := [(29, [0])], lps := [(6, [0, 7, 8])], cuts := [(30, [(11, 31001, [55, 57])])] }) (S := T127) e hp (by kernel_rfl) (by kernel_rfl) (by kernel_rfl)

@[irreducible] noncomputable def A128 : AFun := (compFn Tryz.prog Tryz.f128).getD ⟨0, [], .skip⟩
noncomputable def w128 : Sh := shW 2 fun call n K => pA2 (s128 call n) K
theorem w128_ok {E : Env} (e : E.code 128 = some A128) (hp : E.prim 128 = none) : ShOK E 128 w128 := shW_ok (A := { pts := [], lps := [] }) (S := noS) e hp (by kernel_rfl) (by kernel_rfl) (by kernel_rfl)

noncomputable def T131 (call : CallFn) (n : Nat) (K : Kont) : Sp := {
  pt := fun β j => ifF j 14001 (pA4 (p131_14001 call n (pF4 (pB 0 β))) K) <| noP
  fs := fun β j => noP
  rd := fun β j => ifF j 3 (pA4 (b131_3 call n (pF4 (pB 0 β))) K) <| noP
  lp := fun β j m => ifL j 3 (pC4 (l131_3 call n m) K) <| noP }
@[irreducible] noncomputable def A131 : AFun := (compFn Tryz.prog Tryz.f131).getD ⟨0, [], .skip⟩
noncomputable def w131 : Sh := shW 3 fun call n K => pA3 (s131 call n) K
theorem w131_ok {E : Env} (e : E.code 131 = some A131) (hp : E.prim 131 = none) : ShOK E 131 w131 := shW_ok (A := { pts := [], lps := [(3, [0, 1, 4, 5])], cuts := [(13, [(9, 14001, [0, 1, 4, 40])])] }) (S := T131) e hp (by kernel_rfl) (by kernel_rfl) (by kernel_rfl)

noncomputable def T132 (call : CallFn) (n : Nat) (K : Kont) : Sp := {
  pt := fun β j => ifF j 13001 (pA3 (p132_13001 call n (pF2 (pB 0 β))) K) <| ifF j 27001 (pA3 (p132_27001 call n (pF2 (pB 0 β))) K) <| noP
  fs := fun β j => noP
  rd := fun β j => ifF j 1 (pA2 (b132_1 call n (pF2 (pB 0 β))) K) <| noP
  lp := fun β j m => ifL j 1 (pC2 (l132_1 call n m) K) <| noP }
@[irreducible] noncomputable def A132 : AFun := (compFn Tryz.prog Tryz.f132).getD ⟨0, [], .skip⟩
noncomputable def w132 : Sh := shW 2 fun call n K => pA2 (s132 call n) K
theorem w132_ok {E : Env} (e : E.code 132 = some A132) (hp : E.prim 132 = none) : ShOK E 132 w132 := shW_ok (A := { pts := [], lps := [(1, [0, 1])], cuts := [(12, [(2, 13001, [0, 1, 19])]), (26, [(3, 27001, [0, 1, 49])])] }) (S := T132) e hp (by kernel_rfl) (by kernel_rfl) (by kernel_rfl)

noncomputable def T133 (call : CallFn) (n : Nat) (K : Kont) : Sp := {
  pt := fun β j => ifF j 23 (pA2 (p133_23 call n (pF1 (pB 0 β))) K) <| ifF j 49 (pA2 (p133_49 call n (pF1 (pB 0 β))) K) <| ifF j 14001 (pA3 (p133_14001 call n (pF1 (pB 0 β))) K) <| ifF j 40001 (pA3 (p133_40001 call n (pF1 (pB 0 β))) K) <| noP
  fs := fun β j => ifF j 0 (pA1 (f133_0 call n (pF1 (pB 0 β))) K) <| noP
  rd := fun β j => ifF j 0 (pA1 (j133_0 call n (pF1 (pB 0 β))) K) <| noP
  lp := fun β j m => ifL j 0 (pC1 (g133_0 call n m) K) <| noP }
@[irreducible] noncomputable def A133 : AFun := (compFn Tryz.prog Tryz.f133).getD ⟨0, [], .skip⟩
noncomputable def w133 : Sh := shW 1 fun call n K => pA1 (s133 call n) K
theorem w133_ok {E : Env} (e : E.code 133 = some A133) (hp : E.prim 133 = none) : ShOK E 133 w133 := shW_ok (A := { pts := [(23, [0, 3]), (49, [0, 3])], lps := [(0, [0])], scs := [(0, [0])], cuts := [(13, [(5, 14001, [0, 31, 33])]), (39, [(5, 40001, [0, 31, 33])])] }) (S := T133) e hp (by kernel_rfl) (by kernel_rfl) (by kernel_rfl)

noncomputable def T134 (call : CallFn) (n : Nat) (K : Kont) : Sp := {
  pt := fun β j => ifF j 15001 (pA3 (p134_15001 call n) K) <| ifF j 27001 (pA3 (p134_27001 call n) K) <| ifF j 39001 (pA3 (p134_39001 call n) K) <| ifF j 45001 (pA2 (p134_45001 call n) K) <| ifF j 53001 (pA3 (p134_53001 call n) K) <| noP
  fs := fun β j => noP
  rd := fun β j => noP
  lp := fun β j m => noP }
@[irreducible] noncomputable def A134 : AFun := (compFn Tryz.prog Tryz.f134).getD ⟨0, [], .skip⟩
noncomputable def w134 : Sh := shW 1 fun call n K => pA1 (s134 call n) K
theorem w134_ok {E : Env} (e : E.code 134 = some A134) (hp : E.prim 134 = none) : ShOK E 134 w134 := shW_ok (A := { pts := [], lps := [], cuts := [(14, [(3, 15001, [2, 3, 18])]), (26, [(3, 27001, [2, 3, 30])]), (38, [(3, 39001, [2, 3, 42])]), (44, [(2, 45001, [2, 50])]), (52, [(3, 53001, [2, 3, 60])])] }) (S := T134) e hp (by kernel_rfl) (by kernel_rfl) (by kernel_rfl)

@[irreducible] noncomputable def A137 : AFun := (compFn Tryz.prog Tryz.f137).getD ⟨0, [], .skip⟩
noncomputable def w137 : Sh := shW 1 fun call n K => pA1 (s137 call n) K
theorem w137_ok {E : Env} (e : E.code 137 = some A137) (hp : E.prim 137 = none) : ShOK E 137 w137 := shW_ok (A := { pts := [], lps := [] }) (S := noS) e hp (by kernel_rfl) (by kernel_rfl) (by kernel_rfl)

noncomputable def T138 (call : CallFn) (n : Nat) (K : Kont) : Sp := {
  pt := fun β j => ifF j 4001 (pA3 (p138_4001 call n) K) <| noP
  fs := fun β j => noP
  rd := fun β j => noP
  lp := fun β j m => noP }
@[irreducible] noncomputable def A138 : AFun := (compFn Tryz.prog Tryz.f138).getD ⟨0, [], .skip⟩
noncomputable def w138 : Sh := shW 2 fun call n K => pA2 (s138 call n) K
theorem w138_ok {E : Env} (e : E.code 138 = some A138) (hp : E.prim 138 = none) : ShOK E 138 w138 := shW_ok (A := { pts := [], lps := [], cuts := [(3, [(2, 4001, [0, 1, 7])])] }) (S := T138) e hp (by kernel_rfl) (by kernel_rfl) (by kernel_rfl)

noncomputable def T140 (call : CallFn) (n : Nat) (K : Kont) : Sp := {
  pt := fun β j => ifF j 14 (pA3 (p140_14 call n) K) <| ifF j 6001 (pA3 (p140_6001 call n) K) <| ifF j 14001 (pA4 (p140_14001 call n) K) <| ifF j 18001 (pA4 (p140_18001 call n) K) <| ifF j 24001 (pA4 (p140_24001 call n) K) <| noP
  fs := fun β j => noP
  rd := fun β j => noP
  lp := fun β j m => noP }
@[irreducible] noncomputable def A140 : AFun := (compFn Tryz.prog Tryz.f140).getD ⟨0, [], .skip⟩
noncomputable def w140 : Sh := shW 1 fun call n K => pA1 (s140 call n) K
theorem w140_ok {E : Env} (e : E.code 140 = some A140) (hp : E.prim 140 = none) : ShOK E 140 w140 := shW_ok (A := { pts := [(14, [0, 2, 3])], lps := [], cuts := [(5, [(2, 6001, [0, 2, 7])]), (13, [(2, 14001, [0, 2, 3, 16])]), (17, [(2, 18001, [0, 2, 3, 21])]), (23, [(3, 24001, [0, 2, 3, 30])])] }) (S := T140) e hp (by kernel_rfl) (by kernel_rfl) (by kernel_rfl)

noncomputable def T141 (call : CallFn) (n : Nat) (K : Kont) : Sp := {
  pt := fun β j => ifF j 4001 (pA3 (p141_4001 call n) K) <| noP
  fs := fun β j => noP
  rd := fun β j => noP
  lp := fun β j m => noP }
@[irreducible] noncomputable def A141 : AFun := (compFn Tryz.prog Tryz.f141).getD ⟨0, [], .skip⟩
noncomputable def w141 : Sh := shW 1 fun call n K => pA1 (s141 call n) K
theorem w141_ok {E : Env} (e : E.code 141 = some A141) (hp : E.prim 141 = none) : ShOK E 141 w141 := shW_ok (A := { pts := [], lps := [], cuts := [(3, [(2, 4001, [1, 2, 5])])] }) (S := T141) e hp (by kernel_rfl) (by kernel_rfl) (by kernel_rfl)

noncomputable def T142 (call : CallFn) (n : Nat) (K : Kont) : Sp := {
  pt := fun β j => ifF j 12 (pA3 (p142_12 call n) K) <| ifF j 10001 (pA4 (p142_10001 call n) K) <| ifF j 14001 (pA4 (p142_14001 call n) K) <| noP
  fs := fun β j => noP
  rd := fun β j => noP
  lp := fun β j m => noP }
@[irreducible] noncomputable def A142 : AFun := (compFn Tryz.prog Tryz.f142).getD ⟨0, [], .skip⟩
noncomputable def w142 : Sh := shW 1 fun call n K => pA1 (s142 call n) K
theorem w142_ok {E : Env} (e : E.code 142 = some A142) (hp : E.prim 142 = none) : ShOK E 142 w142 := shW_ok (A := { pts := [(12, [1, 2, 3])], lps := [], cuts := [(9, [(2, 10001, [1, 2, 3, 8])]), (13, [(2, 14001, [1, 2, 3, 14])])] }) (S := T142) e hp (by kernel_rfl) (by kernel_rfl) (by kernel_rfl)

noncomputable def T144 (call : CallFn) (n : Nat) (K : Kont) : Sp := {
  pt := fun β j => ifF j 10 (pA3 (p144_10 call n) K) <| ifF j 8001 (pA2 (p144_8001 call n) K) <| ifF j 12001 (pA4 (p144_12001 call n) K) <| ifF j 17001 (pA5 (p144_17001 call n (pF4 (pB 0 β))) K) <| ifF j 17002 (pA6 (p144_17002 call n (pF4 (pB 0 β))) K) <| noP
  fs := fun β j => noP
  rd := fun β j => ifF j 13 (pA4 (b144_13 call n (pF4 (pB 0 β))) K) <| noP
  lp := fun β j m => ifL j 13 (pC4 (l144_13 call n m) K) <| noP }
@[irreducible] noncomputable def A144 : AFun := (compFn Tryz.prog Tryz.f144).getD ⟨0, [], .skip⟩
noncomputable def w144 : Sh := shW 2 fun call n K => pA2 (s144 call n) K
theorem w144_ok {E : Env} (e : E.code 144 = some A144) (hp : E.prim 144 = none) : ShOK E 144 w144 := shW_ok (A := { pts := [(10, [0, 1, 4])], lps := [(13, [0, 1, 4, 5])], cuts := [(7, [(2, 8001, [4, 13])]), (11, [(4, 12001, [0, 1, 4, 17])]), (16, [(2, 17001, [0, 1, 4, 5, 19]), (2, 17002, [0, 1, 4, 5, 19, 21])])] }) (S := T144) e hp (by kernel_rfl) (by kernel_rfl) (by kernel_rfl)

noncomputable def T146 (call : CallFn) (n : Nat) (K : Kont) : Sp := {
  pt := fun β j => ifF j 10 (pA2 (p146_10 call n) K) <| ifF j 50 (pA7 (p146_50 call n (pF4 (pB 0 β))) K) <| ifF j 57 (pA4 (p146_57 call n (pF4 (pB 0 β))) K) <| ifF j 58 (pA1 (p146_58 call n) K) <| noP
  fs := fun β j => noP
  rd := fun β j => ifF j 16 (pA4 (b146_16 call n (pF4 (pB 0 β))) K) <| noP
  lp := fun β j m => ifL j 16 (pC4 (l146_16 call n m) K) <| noP }
@[irreducible] noncomputable def A146 : AFun := (compFn Tryz.prog Tryz.f146).getD ⟨0, [], .skip⟩
noncomputable def w146 : Sh := shW 2 fun call n K => pA2 (s146 call n) K
theorem w146_ok {E : Env} (e : E.code 146 = some A146) (hp : E.prim 146 = none) : ShOK E 146 w146 := shW_ok (A := { pts := [(10, [0, 3]), (50, [0, 5, 23, 24, 25, 35, 38]), (57, [0, 23, 24, 25]), (58, [0])], lps := [(16, [0, 23, 24, 25])] }) (S := T146) e hp (by kernel_rfl) (by kernel_rfl) (by kernel_rfl)

noncomputable def T147 (call : CallFn) (n : Nat) (K : Kont) : Sp := {
  pt := fun β j => ifF j 22 (pA3 (p147_22 call n) K) <| ifF j 24 (pA2 (p147_24 call n) K) <| ifF j 30 (pA2 (p147_30 call n) K) <| ifF j 36 (pA2 (p147_36 call n) K) <| ifF j 42 (pA2 (p147_42 call n) K) <| ifF j 48 (pA2 (p147_48 call n) K) <| ifF j 71 (pA1 (p147_71 call n) K) <| ifF j 4001 (pA4 (p147_4001 call n) K) <| ifF j 23001 (pA4 (p147_23001 call n) K) <| ifF j 29001 (pA4 (p147_29001 call n) K) <| ifF j 35001 (pA4 (p147_35001 call n) K) <| noP
  fs := fun β j => noP
  rd := fun β j => ifF j 58 (pA4 (b147_58 call n (pF4 (pB 0 β))) K) <| noP
  lp := fun β j m => ifL j 58 (pC4 (l147_58 call n m) K) <| noP }
@[irreducible] noncomputable def A147 : AFun := (compFn Tryz.prog Tryz.f147).getD ⟨0, [], .skip⟩
noncomputable def w147 : Sh := shW 2 fun call n K => pA2 (s147 call n) K
theorem w147_ok {E : Env} (e : E.code 147 = some A147) (hp : E.prim 147 = none) : ShOK E 147 w147 := shW_ok (A := { pts := [(22, [0, 3, 4]), (24, [0, 3]), (30, [0, 3]), (36, [0, 3]), (42, [0, 3]), (48, [0, 3]), (71, [0])], lps := [(58, [0, 79, 80, 81])], cuts := [(3, [(4, 4001, [0, 3, 7, 10])]), (22, [(3, 23001, [0, 3, 35, 37])]), (28, [(4, 29001, [0, 3, 43, 46])]), (34, [(4, 35001, [0, 3, 52, 55])])] }) (S := T147) e hp (by kernel_rfl) (by kernel_rfl) (by kernel_rfl)

@[irreducible] noncomputable def A148 : AFun := (compFn Tryz.prog Tryz.f148).getD ⟨0, [], .skip⟩
noncomputable def w148 : Sh := shW 2 fun call n K => pA2 (s148 call n) K
theorem w148_ok {E : Env} (e : E.code 148 = some A148) (hp : E.prim 148 = none) : ShOK E 148 w148 := shW_ok (A := { pts := [], lps := [] }) (S := noS) e hp (by kernel_rfl) (by kernel_rfl) (by kernel_rfl)

noncomputable def T149 (call : CallFn) (n : Nat) (K : Kont) : Sp := {
  pt := fun β j => ifF j 1001 (pA2 (p149_1001 call n) K) <| noP
  fs := fun β j => noP
  rd := fun β j => noP
  lp := fun β j m => noP }
@[irreducible] noncomputable def A149 : AFun := (compFn Tryz.prog Tryz.f149).getD ⟨0, [], .skip⟩
noncomputable def w149 : Sh := shW 2 fun call n K => pA2 (s149 call n) K
theorem w149_ok {E : Env} (e : E.code 149 = some A149) (hp : E.prim 149 = none) : ShOK E 149 w149 := shW_ok (A := { pts := [], lps := [], cuts := [(0, [(2, 1001, [1, 4])])] }) (S := T149) e hp (by kernel_rfl) (by kernel_rfl) (by kernel_rfl)

noncomputable def T150 (call : CallFn) (n : Nat) (K : Kont) : Sp := {
  pt := fun β j => ifF j 10 (pA3 (p150_10 call n) K) <| ifF j 29001 (pA6 (p150_29001 call n (pF5 (pB 0 β))) K) <| noP
  fs := fun β j => noP
  rd := fun β j => ifF j 14 (pA5 (b150_14 call n (pF5 (pB 0 β))) K) <| noP
  lp := fun β j m => ifL j 14 (pC5 (l150_14 call n m) K) <| noP }
@[irreducible] noncomputable def A150 : AFun := (compFn Tryz.prog Tryz.f150).getD ⟨0, [], .skip⟩
noncomputable def w150 : Sh := shW 3 fun call n K => pA3 (s150 call n) K
theorem w150_ok {E : Env} (e : E.code 150 = some A150) (hp : E.prim 150 = none) : ShOK E 150 w150 := shW_ok (A := { pts := [(10, [0, 1, 2])], lps := [(14, [1, 2, 15, 16, 17])], cuts := [(28, [(4, 29001, [1, 2, 15, 16, 17, 29])])] }) (S := T150) e hp (by kernel_rfl) (by kernel_rfl) (by kernel_rfl)

noncomputable def T151 (call : CallFn) (n : Nat) (K : Kont) : Sp := {
  pt := fun β j => ifF j 4001 (pA2 (p151_4001 call n) K) <| noP
  fs := fun β j => noP
  rd := fun β j => noP
  lp := fun β j m => noP }
@[irreducible] noncomputable def A151 : AFun := (compFn Tryz.prog Tryz.f151).getD ⟨0, [], .skip⟩
noncomputable def w151 : Sh := shW 2 fun call n K => pA2 (s151 call n) K
theorem w151_ok {E : Env} (e : E.code 151 = some A151) (hp : E.prim 151 = none) : ShOK E 151 w151 := shW_ok (A := { pts := [], lps := [], cuts := [(3, [(18, 4001, [17, 22])])] }) (S := T151) e hp (by kernel_rfl) (by kernel_rfl) (by kernel_rfl)

noncomputable def T152 (call : CallFn) (n : Nat) (K : Kont) : Sp := {
  pt := fun β j => ifF j 10 (pA3 (p152_10 call n) K) <| ifF j 29001 (pA6 (p152_29001 call n (pF5 (pB 0 β))) K) <| noP
  fs := fun β j => noP
  rd := fun β j => ifF j 14 (pA5 (b152_14 call n (pF5 (pB 0 β))) K) <| noP
  lp := fun β j m => ifL j 14 (pC5 (l152_14 call n m) K) <| noP }
@[irreducible] noncomputable def A152 : AFun := (compFn Tryz.prog Tryz.f152).getD ⟨0, [], .skip⟩
noncomputable def w152 : Sh := shW 3 fun call n K => pA3 (s152 call n) K
theorem w152_ok {E : Env} (e : E.code 152 = some A152) (hp : E.prim 152 = none) : ShOK E 152 w152 := shW_ok (A := { pts := [(10, [0, 1, 2])], lps := [(14, [1, 2, 15, 16, 17])], cuts := [(28, [(4, 29001, [1, 2, 15, 16, 17, 29])])] }) (S := T152) e hp (by kernel_rfl) (by kernel_rfl) (by kernel_rfl)

noncomputable def T153 (call : CallFn) (n : Nat) (K : Kont) : Sp := {
  pt := fun β j => ifF j 4001 (pA4 (p153_4001 call n) K) <| ifF j 4002 (pA2 (p153_4002 call n) K) <| noP
  fs := fun β j => noP
  rd := fun β j => noP
  lp := fun β j m => noP }
@[irreducible] noncomputable def A153 : AFun := (compFn Tryz.prog Tryz.f153).getD ⟨0, [], .skip⟩
noncomputable def w153 : Sh := shW 2 fun call n K => pA2 (s153 call n) K
theorem w153_ok {E : Env} (e : E.code 153 = some A153) (hp : E.prim 153 = none) : ShOK E 153 w153 := shW_ok (A := { pts := [], lps := [], cuts := [(3, [(46, 4001, [2, 3, 45, 50]), (7, 4002, [52, 57])])] }) (S := T153) e hp (by kernel_rfl) (by kernel_rfl) (by kernel_rfl)

noncomputable def T154 (call : CallFn) (n : Nat) (K : Kont) : Sp := {
  pt := fun β j => ifF j 10 (pA3 (p154_10 call n) K) <| ifF j 29001 (pA6 (p154_29001 call n (pF5 (pB 0 β))) K) <| noP
  fs := fun β j => noP
  rd := fun β j => ifF j 14 (pA5 (b154_14 call n (pF5 (pB 0 β))) K) <| noP
  lp := fun β j m => ifL j 14 (pC5 (l154_14 call n m) K) <| noP }
@[irreducible] noncomputable def A154 : AFun := (compFn Tryz.prog Tryz.f154).getD ⟨0, [], .skip⟩
noncomputable def w154 : Sh := shW 3 fun call n K => pA3 (s154 call n) K
theorem w154_ok {E : Env} (e : E.code 154 = some A154) (hp : E.prim 154 = none) : ShOK E 154 w154 := shW_ok (A := { pts := [(10, [0, 1, 2])], lps := [(14, [1, 2, 15, 16, 17])], cuts := [(28, [(4, 29001, [1, 2, 15, 16, 17, 29])])] }) (S := T154) e hp (by kernel_rfl) (by kernel_rfl) (by kernel_rfl)

noncomputable def T155 (call : CallFn) (n : Nat) (K : Kont) : Sp := {
  pt := fun β j => ifF j 4001 (pA4 (p155_4001 call n) K) <| ifF j 4002 (pA2 (p155_4002 call n) K) <| noP
  fs := fun β j => noP
  rd := fun β j => noP
  lp := fun β j m => noP }
@[irreducible] noncomputable def A155 : AFun := (compFn Tryz.prog Tryz.f155).getD ⟨0, [], .skip⟩
noncomputable def w155 : Sh := shW 2 fun call n K => pA2 (s155 call n) K
theorem w155_ok {E : Env} (e : E.code 155 = some A155) (hp : E.prim 155 = none) : ShOK E 155 w155 := shW_ok (A := { pts := [], lps := [], cuts := [(3, [(11, 4001, [2, 3, 10, 15]), (7, 4002, [17, 22])])] }) (S := T155) e hp (by kernel_rfl) (by kernel_rfl) (by kernel_rfl)

@[irreducible] noncomputable def A156 : AFun := (compFn Tryz.prog Tryz.f156).getD ⟨0, [], .skip⟩
noncomputable def w156 : Sh := shW 1 fun call n K => pA1 (s156 call n) K
theorem w156_ok {E : Env} (e : E.code 156 = some A156) (hp : E.prim 156 = none) : ShOK E 156 w156 := shW_ok (A := { pts := [], lps := [] }) (S := noS) e hp (by kernel_rfl) (by kernel_rfl) (by kernel_rfl)

noncomputable def T158 (call : CallFn) (n : Nat) (K : Kont) : Sp := {
  pt := fun β j => ifF j 12001 (pA1 (p158_12001 call n) K) <| noP
  fs := fun β j => noP
  rd := fun β j => noP
  lp := fun β j m => noP }
@[irreducible] noncomputable def A158 : AFun := (compFn Tryz.prog Tryz.f158).getD ⟨0, [], .skip⟩
noncomputable def w158 : Sh := shW 1 fun call n K => pA1 (s158 call n) K
theorem w158_ok {E : Env} (e : E.code 158 = some A158) (hp : E.prim 158 = none) : ShOK E 158 w158 := shW_ok (A := { pts := [], lps := [], cuts := [(11, [(3, 12001, [7])])] }) (S := T158) e hp (by kernel_rfl) (by kernel_rfl) (by kernel_rfl)

noncomputable def T159 (call : CallFn) (n : Nat) (K : Kont) : Sp := {
  pt := fun β j => ifF j 59 (pA2 (p159_59 call n) K) <| ifF j 78 (pA4 (p159_78 call n (pF4 (pB 0 β))) K) <| ifF j 85 (pA5 (p159_85 call n) K) <| ifF j 34001 (pA4 (p159_34001 call n) K) <| ifF j 34002 (pA4 (p159_34002 call n) K) <| noP
  fs := fun β j => noP
  rd := fun β j => ifF j 46 (pA5 (b159_46 call n (pF5 (pB 0 β))) K) <| ifF j 62 (pA4 (b159_62 call n (pF4 (pB 0 β))) K) <| noP
  lp := fun β j m => ifL j 46 (pC5 (l159_46 call n m) K) <| ifL j 62 (pC4 (l159_62 call n m) K) <| noP }
@[irreducible] noncomputable def A159 : AFun := (compFn Tryz.prog Tryz.f159).getD ⟨0, [], .skip⟩
noncomputable def w159 : Sh := shW 3 fun call n K => pA3 (s159 call n) K
theorem w159_ok {E : Env} (e : E.code 159 = some A159) (hp : E.prim 159 = none) : ShOK E 159 w159 := shW_ok (A := { pts := [(59, [2, 4]), (78, [2, 124, 125, 126]), (85, [0, 2, 4, 13, 139])], lps := [(46, [2, 4, 112, 113, 114]), (62, [2, 124, 125, 126])], cuts := [(33, [(4, 34001, [2, 4, 6, 70]), (5, 34002, [2, 4, 71, 75])])] }) (S := T159) e hp (by kernel_rfl) (by kernel_rfl) (by kernel_rfl)

noncomputable def T160 (call : CallFn) (n : Nat) (K : Kont) : Sp := {
  pt := fun β j => ifF j 30 (pA8 (p160_30 call n (pF7 (pB 0 β))) K) <| ifF j 20001 (pA9 (p160_20001 call n (pF7 (pB 0 β))) K) <| noP
  fs := fun β j => noP
  rd := fun β j => ifF j 7 (pA7 (b160_7 call n (pF7 (pB 0 β))) K) <| noP
  lp := fun β j m => ifL j 7 (pC7 (l160_7 call n m) K) <| noP }
@[irreducible] noncomputable def A160 : AFun := (compFn Tryz.prog Tryz.f160).getD ⟨0, [], .skip⟩
noncomputable def w160 : Sh := shW 3 fun call n K => pA3 (s160 call n) K
theorem w160_ok {E : Env} (e : E.code 160 = some A160) (hp : E.prim 160 = none) : ShOK E 160 w160 := shW_ok (A := { pts := [(30, [0, 2, 4, 6, 8, 12, 13, 14])], lps := [(7, [0, 2, 4, 6, 12, 13, 14])], cuts := [(19, [(4, 20001, [0, 2, 4, 6, 8, 12, 13, 14, 21])])] }) (S := T160) e hp (by kernel_rfl) (by kernel_rfl) (by kernel_rfl)

@[irreducible] noncomputable def A161 : AFun := (compFn Tryz.prog Tryz.f161).getD ⟨0, [], .skip⟩
noncomputable def w161 : Sh := shW 2 fun call n K => pA2 (s161 call n) K
theorem w161_ok {E : Env} (e : E.code 161 = some A161) (hp : E.prim 161 = none) : ShOK E 161 w161 := shW_ok (A := { pts := [], lps := [] }) (S := noS) e hp (by kernel_rfl) (by kernel_rfl) (by kernel_rfl)

noncomputable def T162 (call : CallFn) (n : Nat) (K : Kont) : Sp := {
  pt := fun β j => ifF j 4001 (pA1 (p162_4001 call n) K) <| noP
  fs := fun β j => noP
  rd := fun β j => noP
  lp := fun β j m => noP }
@[irreducible] noncomputable def A162 : AFun := (compFn Tryz.prog Tryz.f162).getD ⟨0, [], .skip⟩
noncomputable def w162 : Sh := shW 2 fun call n K => pA2 (s162 call n) K
theorem w162_ok {E : Env} (e : E.code 162 = some A162) (hp : E.prim 162 = none) : ShOK E 162 w162 := shW_ok (A := { pts := [], lps := [], cuts := [(3, [(3, 4001, [7])])] }) (S := T162) e hp (by kernel_rfl) (by kernel_rfl) (by kernel_rfl)

noncomputable def T163 (call : CallFn) (n : Nat) (K : Kont) : Sp := {
  pt := fun β j => ifF j 15 (pA6 (p163_15 call n (pF6 (pB 0 β))) K) <| ifF j 49 (pA9 (p163_49 call n (pF6 (pB 0 β))) K) <| ifF j 73 (pA9 (p163_73 call n (pF6 (pB 1 β)) (pF9 (pB 0 β))) K) <| ifF j 98 (pA6 (p163_98 call n (pF6 (pB 0 β))) K) <| ifF j 99 (pA1 (p163_99 call n) K) <| ifF j 82001 (pA7 (p163_82001 call n (pF6 (pB 0 β))) K) <| noP
  fs := fun β j => noP
  rd := fun β j => ifF j 8 (pA6 (b163_8 call n (pF6 (pB 0 β))) K) <| ifF j 30 (pA9 (b163_30 call n (pF6 (pB 1 β)) (pF9 (pB 0 β))) K) <| ifF j 57 (pA9 (b163_57 call n (pF6 (pB 1 β)) (pF9 (pB 0 β))) K) <| ifF j 83 (pA9 (b163_83 call n (pF6 (pB 1 β)) (pF9 (pB 0 β))) K) <| noP
  lp := fun β j m => ifL j 8 (pC6 (l163_8 call n m) K) <| ifL j 30 (pC9 (l163_30 call n (pF6 (pB 0 β)) m) K) <| ifL j 57 (pC9 (l163_57 call n (pF6 (pB 0 β)) m) K) <| ifL j 83 (pC9 (l163_83 call n (pF6 (pB 0 β)) m) K) <| noP }
@[irreducible] noncomputable def A163 : AFun := (compFn Tryz.prog Tryz.f163).getD ⟨0, [], .skip⟩
noncomputable def w163 : Sh := shW 3 fun call n K => pA3 (s163 call n) K
theorem w163_ok {E : Env} (e : E.code 163 = some A163) (hp : E.prim 163 = none) : ShOK E 163 w163 := shW_ok (A := { pts := [(15, [2, 4, 7, 17, 18, 19]), (49, [2, 4, 7, 9, 17, 18, 19, 24, 43]), (73, [2, 4, 7, 17, 18, 19, 53, 54, 55]), (98, [2, 4, 7, 17, 18, 19]), (99, [4])], lps := [(8, [2, 4, 7, 17, 18, 19]), (30, [2, 4, 7, 17, 18, 19, 32, 33, 34]), (57, [2, 4, 7, 17, 18, 19, 53, 54, 55]), (83, [2, 4, 7, 17, 18, 19, 75, 76, 77])], cuts := [(81, [(4, 82001, [2, 4, 7, 17, 18, 19, 75])])] }) (S := T163) e hp (by kernel_rfl) (by kernel_rfl) (by kernel_rfl)

noncomputable def T167 (call : CallFn) (n : Nat) (K : Kont) : Sp := {
  pt := fun β j => noP
  fs := fun β j => noP
  rd := fun β j => ifF j 6 (pA4 (b167_6 call n (pF4 (pB 0 β))) K) <| noP
  lp := fun β j m => ifL j 6 (pC4 (l167_6 call n m) K) <| noP }
@[irreducible] noncomputable def A167 : AFun := (compFn Tryz.prog Tryz.f167).getD ⟨0, [], .skip⟩
noncomputable def w167 : Sh := shW 2 fun call n K => pA2 (s167 call n) K
theorem w167_ok {E : Env} (e : E.code 167 = some A167) (hp : E.prim 167 = none) : ShOK E 167 w167 := shW_ok (A := { pts := [], lps := [(6, [0, 1, 7, 8])] }) (S := T167) e hp (by kernel_rfl) (by kernel_rfl) (by kernel_rfl)

noncomputable def T168 (call : CallFn) (n : Nat) (K : Kont) : Sp := {
  pt := fun β j => ifF j 50 (pA1 (p168_50 call n) K) <| ifF j 81 (pA1 (p168_81 call n) K) <| ifF j 87 (pA0 (p168_87 call n) K) <| ifF j 11001 (pA1 (p168_11001 call n) K) <| ifF j 11002 (pA1 (p168_11002 call n) K) <| ifF j 23001 (pA1 (p168_23001 call n) K) <| ifF j 27001 (pA1 (p168_27001 call n) K) <| ifF j 33001 (pA2 (p168_33001 call n) K) <| ifF j 36001 (pA3 (p168_36001 call n) K) <| ifF j 58001 (pA1 (p168_58001 call n) K) <| ifF j 58002 (pA1 (p168_58002 call n) K) <| ifF j 80001 (pA5 (p168_80001 call n (pF4 (pB 0 β))) K) <| noP
  fs := fun β j => noP
  rd := fun β j => ifF j 37 (pA5 (b168_37 call n (pF5 (pB 0 β))) K) <| ifF j 68 (pA4 (b168_68 call n (pF4 (pB 0 β))) K) <| noP
  lp := fun β j m => ifL j 37 (pC5 (l168_37 call n m) K) <| ifL j 68 (pC4 (l168_68 call n m) K) <| noP }
@[irreducible] noncomputable def A168 : AFun := (compFn Tryz.prog Tryz.f168).getD ⟨0, [], .skip⟩
noncomputable def w168 : Sh := shW 1 fun call n K => pA1 (s168 call n) K
theorem w168_ok {E : Env} (e : E.code 168 = some A168) (hp : E.prim 168 = none) : ShOK E 168 w168 := shW_ok (A := { pts := [(50, [4]), (81, [8]), (87, [])], lps := [(37, [4, 5, 43, 44, 45]), (68, [8, 68, 69, 70])], cuts := [(10, [(3, 11001, [17]), (1, 11002, [18])]), (22, [(2, 23001, [29])]), (26, [(2, 27001, [33])]), (32, [(3, 33001, [1, 39])]), (35, [(3, 36001, [4, 5, 43])]), (57, [(3, 58001, [62]), (1, 58002, [63])]), (79, [(3, 80001, [68, 69, 70, 74, 76])])] }) (S := T168) e hp (by kernel_rfl) (by kernel_rfl) (by kernel_rfl)

noncomputable def T174 (call : CallFn) (n : Nat) (K : Kont) : Sp := {
  pt := fun β j => ifF j 156 (pA1 (p174_156 call n) K) <| noP
  fs := fun β j => noP
  rd := fun β j => noP
  lp := fun β j m => noP }
@[irreducible] noncomputable def A174 : AFun := (compFn Tryz.prog Tryz.f174).getD ⟨0, [], .skip⟩
noncomputable def w174 : Sh := shW 1 fun call n K => pA1 (s174 call n) K
theorem w174_ok {E : Env} (e : E.code 174 = some A174) (hp : E.prim 174 = none) : ShOK E 174 w174 := shW_ok (A := { pts := [(156, [4])], lps := [] }) (S := T174) e hp (by kernel_rfl) (by kernel_rfl) (by kernel_rfl)

@[irreducible] noncomputable def A176 : AFun := (compFn Tryz.prog Tryz.f176).getD ⟨0, [], .skip⟩
noncomputable def w176 : Sh := shW 2 fun call n K => pA2 (s176 call n) K
theorem w176_ok {E : Env} (e : E.code 176 = some A176) (hp : E.prim 176 = none) : ShOK E 176 w176 := shW_ok (A := { pts := [], lps := [] }) (S := noS) e hp (by kernel_rfl) (by kernel_rfl) (by kernel_rfl)

@[irreducible] noncomputable def A177 : AFun := (compFn Tryz.prog Tryz.f177).getD ⟨0, [], .skip⟩
noncomputable def w177 : Sh := shW 2 fun call n K => pA2 (s177 call n) K
theorem w177_ok {E : Env} (e : E.code 177 = some A177) (hp : E.prim 177 = none) : ShOK E 177 w177 := shW_ok (A := { pts := [], lps := [] }) (S := noS) e hp (by kernel_rfl) (by kernel_rfl) (by kernel_rfl)

@[irreducible] noncomputable def A178 : AFun := (compFn Tryz.prog Tryz.f178).getD ⟨0, [], .skip⟩
noncomputable def w178 : Sh := shW 3 fun call n K => pA3 (s178 call n) K
theorem w178_ok {E : Env} (e : E.code 178 = some A178) (hp : E.prim 178 = none) : ShOK E 178 w178 := shW_ok (A := { pts := [], lps := [] }) (S := noS) e hp (by kernel_rfl) (by kernel_rfl) (by kernel_rfl)

@[irreducible] noncomputable def A179 : AFun := (compFn Tryz.prog Tryz.f179).getD ⟨0, [], .skip⟩
noncomputable def w179 : Sh := shW 1 fun call n K => pA1 (s179 call n) K
theorem w179_ok {E : Env} (e : E.code 179 = some A179) (hp : E.prim 179 = none) : ShOK E 179 w179 := shW_ok (A := { pts := [], lps := [] }) (S := noS) e hp (by kernel_rfl) (by kernel_rfl) (by kernel_rfl)

noncomputable def T180 (call : CallFn) (n : Nat) (K : Kont) : Sp := {
  pt := fun β j => ifF j 5001 (pA3 (p180_5001 call n) K) <| ifF j 5002 (pA3 (p180_5002 call n) K) <| noP
  fs := fun β j => noP
  rd := fun β j => noP
  lp := fun β j m => noP }
@[irreducible] noncomputable def A180 : AFun := (compFn Tryz.prog Tryz.f180).getD ⟨0, [], .skip⟩
noncomputable def w180 : Sh := shW 2 fun call n K => pA2 (s180 call n) K
theorem w180_ok {E : Env} (e : E.code 180 = some A180) (hp : E.prim 180 = none) : ShOK E 180 w180 := shW_ok (A := { pts := [], lps := [], cuts := [(4, [(3, 5001, [0, 1, 7]), (1, 5002, [0, 1, 8])])] }) (S := T180) e hp (by kernel_rfl) (by kernel_rfl) (by kernel_rfl)

@[irreducible] noncomputable def A181 : AFun := (compFn Tryz.prog Tryz.f181).getD ⟨0, [], .skip⟩
noncomputable def w181 : Sh := shW 1 fun call n K => pA1 (s181 call n) K
theorem w181_ok {E : Env} (e : E.code 181 = some A181) (hp : E.prim 181 = none) : ShOK E 181 w181 := shW_ok (A := { pts := [], lps := [] }) (S := noS) e hp (by kernel_rfl) (by kernel_rfl) (by kernel_rfl)

noncomputable def T182 (call : CallFn) (n : Nat) (K : Kont) : Sp := {
  pt := fun β j => noP
  fs := fun β j => noP
  rd := fun β j => ifF j 6 (pA4 (b182_6 call n (pF4 (pB 0 β))) K) <| noP
  lp := fun β j m => ifL j 6 (pC4 (l182_6 call n m) K) <| noP }
@[irreducible] noncomputable def A182 : AFun := (compFn Tryz.prog Tryz.f182).getD ⟨0, [], .skip⟩
noncomputable def w182 : Sh := shW 3 fun call n K => pA3 (s182 call n) K
theorem w182_ok {E : Env} (e : E.code 182 = some A182) (hp : E.prim 182 = none) : ShOK E 182 w182 := shW_ok (A := { pts := [], lps := [(6, [0, 1, 2, 7])] }) (S := T182) e hp (by kernel_rfl) (by kernel_rfl) (by kernel_rfl)

noncomputable def T183 (call : CallFn) (n : Nat) (K : Kont) : Sp := {
  pt := fun β j => ifF j 49 (pA3 (p183_49 call n (pF3 (pB 0 β))) K) <| ifF j 25001 (pA2 (p183_25001 call n (pF3 (pB 0 β))) K) <| ifF j 33001 (pA4 (p183_33001 call n (pF3 (pB 0 β))) K) <| noP
  fs := fun β j => noP
  rd := fun β j => ifF j 8 (pA3 (b183_8 call n (pF3 (pB 0 β))) K) <| noP
  lp := fun β j m => ifL j 8 (pC3 (l183_8 call n m) K) <| noP }
@[irreducible] noncomputable def A183 : AFun := (compFn Tryz.prog Tryz.f183).getD ⟨0, [], .skip⟩
noncomputable def w183 : Sh := shW 1 fun call n K => pA1 (s183 call n) K
theorem w183_ok {E : Env} (e : E.code 183 = some A183) (hp : E.prim 183 = none) : ShOK E 183 w183 := shW_ok (A := { pts := [(49, [0, 4, 5])], lps := [(8, [0, 4, 5])], cuts := [(24, [(1, 25001, [5, 30])]), (32, [(3, 33001, [0, 4, 5, 40])])] }) (S := T183) e hp (by kernel_rfl) (by kernel_rfl) (by kernel_rfl)

noncomputable def T184 (call : CallFn) (n : Nat) (K : Kont) : Sp := {
  pt := fun β j => ifF j 25 (pA1 (p184_25 call n) K) <| noP
  fs := fun β j => noP
  rd := fun β j => ifF j 6 (pA4 (b184_6 call n (pF4 (pB 0 β))) K) <| noP
  lp := fun β j m => ifL j 6 (pC4 (l184_6 call n m) K) <| noP }
@[irreducible] noncomputable def A184 : AFun := (compFn Tryz.prog Tryz.f184).getD ⟨0, [], .skip⟩
noncomputable def w184 : Sh := shW 1 fun call n K => pA1 (s184 call n) K
theorem w184_ok {E : Env} (e : E.code 184 = some A184) (hp : E.prim 184 = none) : ShOK E 184 w184 := shW_ok (A := { pts := [(25, [0])], lps := [(6, [0, 5, 6, 7])] }) (S := T184) e hp (by kernel_rfl) (by kernel_rfl) (by kernel_rfl)

noncomputable def T190 (call : CallFn) (n : Nat) (K : Kont) : Sp := {
  pt := fun β j => ifF j 2001 (pA3 (p190_2001 call n) K) <| ifF j 2002 (pA4 (p190_2002 call n) K) <| noP
  fs := fun β j => noP
  rd := fun β j => noP
  lp := fun β j m => noP }
@[irreducible] noncomputable def A190 : AFun := (compFn Tryz.prog Tryz.f190).getD ⟨0, [], .skip⟩
noncomputable def w190 : Sh := shW 2 fun call n K => pA2 (s190 call n) K
theorem w190_ok {E : Env} (e : E.code 190 = some A190) (hp : E.prim 190 = none) : ShOK E 190 w190 := shW_ok (A := { pts := [], lps := [], cuts := [(1, [(2, 2001, [0, 1, 3]), (3, 2002, [0, 1, 4, 6])])] }) (S := T190) e hp (by kernel_rfl) (by kernel_rfl) (by kernel_rfl)

noncomputable def T191 (call : CallFn) (n : Nat) (K : Kont) : Sp := {
  pt := fun β j => ifF j 2001 (pA3 (p191_2001 call n) K) <| ifF j 2002 (pA4 (p191_2002 call n) K) <| noP
  fs := fun β j => noP
  rd := fun β j => noP
  lp := fun β j m => noP }
@[irreducible] noncomputable def A191 : AFun := (compFn Tryz.prog Tryz.f191).getD ⟨0, [], .skip⟩
noncomputable def w191 : Sh := shW 2 fun call n K => pA2 (s191 call n) K
theorem w191_ok {E : Env} (e : E.code 191 = some A191) (hp : E.prim 191 = none) : ShOK E 191 w191 := shW_ok (A := { pts := [], lps := [], cuts := [(1, [(2, 2001, [0, 1, 4]), (3, 2002, [0, 1, 5, 7])])] }) (S := T191) e hp (by kernel_rfl) (by kernel_rfl) (by kernel_rfl)

noncomputable def T192 (call : CallFn) (n : Nat) (K : Kont) : Sp := {
  pt := fun β j => ifF j 12 (pA4 (p192_12 call n) K) <| ifF j 15001 (pA5 (p192_15001 call n) K) <| ifF j 15002 (pA6 (p192_15002 call n) K) <| ifF j 18001 (pA2 (p192_18001 call n) K) <| ifF j 24001 (pA5 (p192_24001 call n) K) <| ifF j 28001 (pA2 (p192_28001 call n) K) <| noP
  fs := fun β j => noP
  rd := fun β j => noP
  lp := fun β j m => noP }
@[irreducible] noncomputable def A192 : AFun := (compFn Tryz.prog Tryz.f192).getD ⟨0, [], .skip⟩
noncomputable def w192 : Sh := shW 1 fun call n K => pA1 (s192 call n) K
theorem w192_ok {E : Env} (e : E.code 192 = some A192) (hp : E.prim 192 = none) : ShOK E 192 w192 := shW_ok (A := { pts := [(12, [0, 2, 3, 4])], lps := [], cuts := [(14, [(2, 15001, [0, 2, 3, 4, 11]), (4, 15002, [0, 2, 3, 4, 13, 15])]), (17, [(2, 18001, [2, 19])]), (23, [(2, 24001, [0, 2, 3, 4, 24])]), (27, [(6, 28001, [2, 37])])] }) (S := T192) e hp (by kernel_rfl) (by kernel_rfl) (by kernel_rfl)

noncomputable def T193 (call : CallFn) (n : Nat) (K : Kont) : Sp := {
  pt := fun β j => ifF j 23 (pA3 (p193_23 call n) K) <| ifF j 29 (pA2 (p193_29 call n) K) <| noP
  fs := fun β j => noP
  rd := fun β j => ifF j 8 (pA6 (b193_8 call n (pF6 (pB 0 β))) K) <| noP
  lp := fun β j m => ifL j 8 (pC6 (l193_8 call n m) K) <| noP }
@[irreducible] noncomputable def A193 : AFun := (compFn Tryz.prog Tryz.f193).getD ⟨0, [], .skip⟩
noncomputable def w193 : Sh := shW 3 fun call n K => pA3 (s193 call n) K
theorem w193_ok {E : Env} (e : E.code 193 = some A193) (hp : E.prim 193 = none) : ShOK E 193 w193 := shW_ok (A := { pts := [(23, [0, 6, 7]), (29, [6, 7])], lps := [(8, [0, 6, 7, 12, 13, 14])] }) (S := T193) e hp (by kernel_rfl) (by kernel_rfl) (by kernel_rfl)

noncomputable def T194 (call : CallFn) (n : Nat) (K : Kont) : Sp := {
  pt := fun β j => ifF j 22 (pA5 (p194_22 call n (pF4 (pB 0 β))) K) <| ifF j 28 (pA5 (p194_28 call n (pF4 (pB 0 β))) K) <| noP
  fs := fun β j => noP
  rd := fun β j => ifF j 3 (pA4 (b194_3 call n (pF4 (pB 0 β))) K) <| noP
  lp := fun β j m => ifL j 3 (pC4 (l194_3 call n m) K) <| noP }
@[irreducible] noncomputable def A194 : AFun := (compFn Tryz.prog Tryz.f194).getD ⟨0, [], .skip⟩
noncomputable def w194 : Sh := shW 2 fun call n K => pA2 (s194 call n) K
theorem w194_ok {E : Env} (e : E.code 194 = some A194) (hp : E.prim 194 = none) : ShOK E 194 w194 := shW_ok (A := { pts := [(22, [0, 5, 6, 7, 8]), (28, [0, 5, 6, 7, 8])], lps := [(3, [0, 6, 7, 8])] }) (S := T194) e hp (by kernel_rfl) (by kernel_rfl) (by kernel_rfl)

noncomputable def T195 (call : CallFn) (n : Nat) (K : Kont) : Sp := {
  pt := fun β j => ifF j 30 (pA4 (p195_30 call n (pF4 (pB 0 β))) K) <| ifF j 31 (pA1 (p195_31 call n) K) <| noP
  fs := fun β j => noP
  rd := fun β j => ifF j 10 (pA4 (b195_10 call n (pF4 (pB 0 β))) K) <| noP
  lp := fun β j m => ifL j 10 (pC4 (l195_10 call n m) K) <| noP }
@[irreducible] noncomputable def A195 : AFun := (compFn Tryz.prog Tryz.f195).getD ⟨0, [], .skip⟩
noncomputable def w195 : Sh := shW 1 fun call n K => pA1 (s195 call n) K
theorem w195_ok {E : Env} (e : E.code 195 = some A195) (hp : E.prim 195 = none) : ShOK E 195 w195 := shW_ok (A := { pts := [(30, [0, 3, 8, 9]), (31, [3])], lps := [(10, [0, 3, 8, 9])] }) (S := T195) e hp (by kernel_rfl) (by kernel_rfl) (by kernel_rfl)

@[irreducible] noncomputable def A196 : AFun := (compFn Tryz.prog Tryz.f196).getD ⟨0, [], .skip⟩
noncomputable def w196 : Sh := shW 1 fun call n K => pA1 (s196 call n) K
theorem w196_ok {E : Env} (e : E.code 196 = some A196) (hp : E.prim 196 = none) : ShOK E 196 w196 := shW_ok (A := { pts := [], lps := [] }) (S := noS) e hp (by kernel_rfl) (by kernel_rfl) (by kernel_rfl)

@[irreducible] noncomputable def A197 : AFun := (compFn Tryz.prog Tryz.f197).getD ⟨0, [], .skip⟩
noncomputable def w197 : Sh := shW 2 fun call n K => pA2 (s197 call n) K
theorem w197_ok {E : Env} (e : E.code 197 = some A197) (hp : E.prim 197 = none) : ShOK E 197 w197 := shW_ok (A := { pts := [], lps := [] }) (S := noS) e hp (by kernel_rfl) (by kernel_rfl) (by kernel_rfl)

noncomputable def T198 (call : CallFn) (n : Nat) (K : Kont) : Sp := {
  pt := fun β j => noP
  fs := fun β j => noP
  rd := fun β j => ifF j 3 (pA4 (b198_3 call n (pF4 (pB 0 β))) K) <| noP
  lp := fun β j m => ifL j 3 (pC4 (l198_3 call n m) K) <| noP }
@[irreducible] noncomputable def A198 : AFun := (compFn Tryz.prog Tryz.f198).getD ⟨0, [], .skip⟩
noncomputable def w198 : Sh := shW 2 fun call n K => pA2 (s198 call n) K
theorem w198_ok {E : Env} (e : E.code 198 = some A198) (hp : E.prim 198 = none) : ShOK E 198 w198 := shW_ok (A := { pts := [], lps := [(3, [0, 6, 7, 8])] }) (S := T198) e hp (by kernel_rfl) (by kernel_rfl) (by kernel_rfl)

noncomputable def T199 (call : CallFn) (n : Nat) (K : Kont) : Sp := {
  pt := fun β j => ifF j 12 (pA4 (p199_12 call n) K) <| ifF j 30 (pA4 (p199_30 call n) K) <| ifF j 43 (pA1 (p199_43 call n) K) <| ifF j 38001 (pA3 (p199_38001 call n) K) <| noP
  fs := fun β j => noP
  rd := fun β j => noP
  lp := fun β j m => noP }
@[irreducible] noncomputable def A199 : AFun := (compFn Tryz.prog Tryz.f199).getD ⟨0, [], .skip⟩
noncomputable def w199 : Sh := shW 2 fun call n K => pA2 (s199 call n) K
theorem w199_ok {E : Env} (e : E.code 199 = some A199) (hp : E.prim 199 = none) : ShOK E 199 w199 := shW_ok (A := { pts := [(12, [0, 3, 5, 8]), (30, [0, 3, 5, 38]), (43, [0])], lps := [], cuts := [(37, [(4, 38001, [0, 55, 58])])] }) (S := T199) e hp (by kernel_rfl) (by kernel_rfl) (by kernel_rfl)

noncomputable def T200 (call : CallFn) (n : Nat) (K : Kont) : Sp := {
  pt := fun β j => ifF j 20 (pA6 (p200_20 call n (pF5 (pB 0 β))) K) <| noP
  fs := fun β j => noP
  rd := fun β j => ifF j 3 (pA5 (b200_3 call n (pF5 (pB 0 β))) K) <| noP
  lp := fun β j m => ifL j 3 (pC5 (l200_3 call n m) K) <| noP }
@[irreducible] noncomputable def A200 : AFun := (compFn Tryz.prog Tryz.f200).getD ⟨0, [], .skip⟩
noncomputable def w200 : Sh := shW 3 fun call n K => pA3 (s200 call n) K
theorem w200_ok {E : Env} (e : E.code 200 = some A200) (hp : E.prim 200 = none) : ShOK E 200 w200 := shW_ok (A := { pts := [(20, [0, 2, 7, 8, 9, 10])], lps := [(3, [0, 2, 8, 9, 10])] }) (S := T200) e hp (by kernel_rfl) (by kernel_rfl) (by kernel_rfl)

@[irreducible] noncomputable def A201 : AFun := (compFn Tryz.prog Tryz.f201).getD ⟨0, [], .skip⟩
noncomputable def w201 : Sh := shW 2 fun call n K => pA2 (s201 call n) K
theorem w201_ok {E : Env} (e : E.code 201 = some A201) (hp : E.prim 201 = none) : ShOK E 201 w201 := shW_ok (A := { pts := [], lps := [] }) (S := noS) e hp (by kernel_rfl) (by kernel_rfl) (by kernel_rfl)

noncomputable def T202 (call : CallFn) (n : Nat) (K : Kont) : Sp := {
  pt := fun β j => ifF j 10 (pA2 (p202_10 call n) K) <| noP
  fs := fun β j => noP
  rd := fun β j => ifF j 14 (pA4 (b202_14 call n (pF4 (pB 0 β))) K) <| noP
  lp := fun β j m => ifL j 14 (pC4 (l202_14 call n m) K) <| noP }
@[irreducible] noncomputable def A202 : AFun := (compFn Tryz.prog Tryz.f202).getD ⟨0, [], .skip⟩
noncomputable def w202 : Sh := shW 2 fun call n K => pA2 (s202 call n) K
theorem w202_ok {E : Env} (e : E.code 202 = some A202) (hp : E.prim 202 = none) : ShOK E 202 w202 := shW_ok (A := { pts := [(10, [0, 1])], lps := [(14, [0, 1, 12, 13])] }) (S := T202) e hp (by kernel_rfl) (by kernel_rfl) (by kernel_rfl)

@[irreducible] noncomputable def A203 : AFun := (compFn Tryz.prog Tryz.f203).getD ⟨0, [], .skip⟩
noncomputable def w203 : Sh := shW 2 fun call n K => pA2 (s203 call n) K
theorem w203_ok {E : Env} (e : E.code 203 = some A203) (hp : E.prim 203 = none) : ShOK E 203 w203 := shW_ok (A := { pts := [], lps := [] }) (S := noS) e hp (by kernel_rfl) (by kernel_rfl) (by kernel_rfl)

noncomputable def T204 (call : CallFn) (n : Nat) (K : Kont) : Sp := {
  pt := fun β j => ifF j 10 (pA3 (p204_10 call n) K) <| ifF j 29001 (pA6 (p204_29001 call n (pF5 (pB 0 β))) K) <| noP
  fs := fun β j => noP
  rd := fun β j => ifF j 14 (pA5 (b204_14 call n (pF5 (pB 0 β))) K) <| noP
  lp := fun β j m => ifL j 14 (pC5 (l204_14 call n m) K) <| noP }
@[irreducible] noncomputable def A204 : AFun := (compFn Tryz.prog Tryz.f204).getD ⟨0, [], .skip⟩
noncomputable def w204 : Sh := shW 3 fun call n K => pA3 (s204 call n) K
theorem w204_ok {E : Env} (e : E.code 204 = some A204) (hp : E.prim 204 = none) : ShOK E 204 w204 := shW_ok (A := { pts := [(10, [0, 1, 2])], lps := [(14, [1, 2, 15, 16, 17])], cuts := [(28, [(4, 29001, [1, 2, 15, 16, 17, 29])])] }) (S := T204) e hp (by kernel_rfl) (by kernel_rfl) (by kernel_rfl)

noncomputable def T205 (call : CallFn) (n : Nat) (K : Kont) : Sp := {
  pt := fun β j => ifF j 4001 (pA4 (p205_4001 call n) K) <| ifF j 4002 (pA2 (p205_4002 call n) K) <| noP
  fs := fun β j => noP
  rd := fun β j => noP
  lp := fun β j m => noP }
@[irreducible] noncomputable def A205 : AFun := (compFn Tryz.prog Tryz.f205).getD ⟨0, [], .skip⟩
noncomputable def w205 : Sh := shW 2 fun call n K => pA2 (s205 call n) K
theorem w205_ok {E : Env} (e : E.code 205 = some A205) (hp : E.prim 205 = none) : ShOK E 205 w205 := shW_ok (A := { pts := [], lps := [], cuts := [(3, [(25, 4001, [2, 3, 24, 29]), (7, 4002, [31, 36])])] }) (S := T205) e hp (by kernel_rfl) (by kernel_rfl) (by kernel_rfl)

noncomputable def T206 (call : CallFn) (n : Nat) (K : Kont) : Sp := {
  pt := fun β j => ifF j 10 (pA2 (p206_10 call n) K) <| noP
  fs := fun β j => noP
  rd := fun β j => ifF j 14 (pA4 (b206_14 call n (pF4 (pB 0 β))) K) <| noP
  lp := fun β j m => ifL j 14 (pC4 (l206_14 call n m) K) <| noP }
@[irreducible] noncomputable def A206 : AFun := (compFn Tryz.prog Tryz.f206).getD ⟨0, [], .skip⟩
noncomputable def w206 : Sh := shW 2 fun call n K => pA2 (s206 call n) K
theorem w206_ok {E : Env} (e : E.code 206 = some A206) (hp : E.prim 206 = none) : ShOK E 206 w206 := shW_ok (A := { pts := [(10, [0, 1])], lps := [(14, [0, 1, 12, 13])] }) (S := T206) e hp (by kernel_rfl) (by kernel_rfl) (by kernel_rfl)

noncomputable def T208 (call : CallFn) (n : Nat) (K : Kont) : Sp := {
  pt := fun β j => ifF j 27 (pA4 (p208_27 call n) K) <| ifF j 33 (pA4 (p208_33 call n) K) <| ifF j 50 (pA2 (p208_50 call n) K) <| ifF j 6001 (pA4 (p208_6001 call n) K) <| noP
  fs := fun β j => noP
  rd := fun β j => ifF j 10 (pA7 (b208_10 call n (pF7 (pB 0 β))) K) <| ifF j 37 (pA7 (b208_37 call n (pF7 (pB 0 β))) K) <| noP
  lp := fun β j m => ifL j 10 (pC7 (l208_10 call n m) K) <| ifL j 37 (pC7 (l208_37 call n m) K) <| noP }
@[irreducible] noncomputable def A208 : AFun := (compFn Tryz.prog Tryz.f208).getD ⟨0, [], .skip⟩
noncomputable def w208 : Sh := shW 3 fun call n K => pA3 (s208 call n) K
theorem w208_ok {E : Env} (e : E.code 208 = some A208) (hp : E.prim 208 = none) : ShOK E 208 w208 := shW_ok (A := { pts := [(27, [2, 3, 4, 6]), (33, [2, 3, 4, 6]), (50, [2, 6])], lps := [(10, [2, 3, 4, 6, 36, 37, 38]), (37, [2, 3, 4, 6, 82, 83, 84])], cuts := [(5, [(2, 6001, [2, 3, 4, 34])])] }) (S := T208) e hp (by kernel_rfl) (by kernel_rfl) (by kernel_rfl)

@[irreducible] noncomputable def A209 : AFun := (compFn Tryz.prog Tryz.f209).getD ⟨0, [], .skip⟩
noncomputable def w209 : Sh := shW 2 fun call n K => pA2 (s209 call n) K
theorem w209_ok {E : Env} (e : E.code 209 = some A209) (hp : E.prim 209 = none) : ShOK E 209 w209 := shW_ok (A := { pts := [], lps := [] }) (S := noS) e hp (by kernel_rfl) (by kernel_rfl) (by kernel_rfl)

noncomputable def T211 (call : CallFn) (n : Nat) (K : Kont) : Sp := {
  pt := fun β j => ifF j 4001 (pA2 (p211_4001 call n) K) <| noP
  fs := fun β j => noP
  rd := fun β j => noP
  lp := fun β j m => noP }
@[irreducible] noncomputable def A211 : AFun := (compFn Tryz.prog Tryz.f211).getD ⟨0, [], .skip⟩
noncomputable def w211 : Sh := shW 3 fun call n K => pA3 (s211 call n) K
theorem w211_ok {E : Env} (e : E.code 211 = some A211) (hp : E.prim 211 = none) : ShOK E 211 w211 := shW_ok (A := { pts := [], lps := [], cuts := [(3, [(3, 4001, [5, 14])])] }) (S := T211) e hp (by kernel_rfl) (by kernel_rfl) (by kernel_rfl)

noncomputable def T212 (call : CallFn) (n : Nat) (K : Kont) : Sp := {
  pt := fun β j => noP
  fs := fun β j => noP
  rd := fun β j => ifF j 7 (pA4 (b212_7 call n (pF4 (pB 0 β))) K) <| noP
  lp := fun β j m => ifL j 7 (pC4 (l212_7 call n m) K) <| noP }
@[irreducible] noncomputable def A212 : AFun := (compFn Tryz.prog Tryz.f212).getD ⟨0, [], .skip⟩
noncomputable def w212 : Sh := shW 2 fun call n K => pA2 (s212 call n) K
theorem w212_ok {E : Env} (e : E.code 212 = some A212) (hp : E.prim 212 = none) : ShOK E 212 w212 := shW_ok (A := { pts := [], lps := [(7, [1, 10, 11, 12])] }) (S := T212) e hp (by kernel_rfl) (by kernel_rfl) (by kernel_rfl)

noncomputable def T213 (call : CallFn) (n : Nat) (K : Kont) : Sp := {
  pt := fun β j => ifF j 5001 (pA2 (p213_5001 call n) K) <| noP
  fs := fun β j => noP
  rd := fun β j => noP
  lp := fun β j m => noP }
@[irreducible] noncomputable def A213 : AFun := (compFn Tryz.prog Tryz.f213).getD ⟨0, [], .skip⟩
noncomputable def w213 : Sh := shW 2 fun call n K => pA2 (s213 call n) K
theorem w213_ok {E : Env} (e : E.code 213 = some A213) (hp : E.prim 213 = none) : ShOK E 213 w213 := shW_ok (A := { pts := [], lps := [], cuts := [(4, [(8, 5001, [10, 14])])] }) (S := T213) e hp (by kernel_rfl) (by kernel_rfl) (by kernel_rfl)

noncomputable def T214 (call : CallFn) (n : Nat) (K : Kont) : Sp := {
  pt := fun β j => noP
  fs := fun β j => noP
  rd := fun β j => ifF j 6 (pA4 (b214_6 call n (pF4 (pB 0 β))) K) <| noP
  lp := fun β j m => ifL j 6 (pC4 (l214_6 call n m) K) <| noP }
@[irreducible] noncomputable def A214 : AFun := (compFn Tryz.prog Tryz.f214).getD ⟨0, [], .skip⟩
noncomputable def w214 : Sh := shW 2 fun call n K => pA2 (s214 call n) K
theorem w214_ok {E : Env} (e : E.code 214 = some A214) (hp : E.prim 214 = none) : ShOK E 214 w214 := shW_ok (A := { pts := [], lps := [(6, [0, 1, 7, 8])] }) (S := T214) e hp (by kernel_rfl) (by kernel_rfl) (by kernel_rfl)

noncomputable def T215 (call : CallFn) (n : Nat) (K : Kont) : Sp := {
  pt := fun β j => ifF j 2001 (pA4 (p215_2001 call n) K) <| noP
  fs := fun β j => noP
  rd := fun β j => noP
  lp := fun β j m => noP }
@[irreducible] noncomputable def A215 : AFun := (compFn Tryz.prog Tryz.f215).getD ⟨0, [], .skip⟩
noncomputable def w215 : Sh := shW 2 fun call n K => pA2 (s215 call n) K
theorem w215_ok {E : Env} (e : E.code 215 = some A215) (hp : E.prim 215 = none) : ShOK E 215 w215 := shW_ok (A := { pts := [], lps := [], cuts := [(1, [(6, 2001, [0, 1, 5, 8])])] }) (S := T215) e hp (by kernel_rfl) (by kernel_rfl) (by kernel_rfl)

noncomputable def T227 (call : CallFn) (n : Nat) (K : Kont) : Sp := {
  pt := fun β j => noP
  fs := fun β j => noP
  rd := fun β j => ifF j 8 (pA4 (b227_8 call n (pF4 (pB 0 β))) K) <| noP
  lp := fun β j m => ifL j 8 (pC4 (l227_8 call n m) K) <| noP }
@[irreducible] noncomputable def A227 : AFun := (compFn Tryz.prog Tryz.f227).getD ⟨0, [], .skip⟩
noncomputable def w227 : Sh := shW 1 fun call n K => pA1 (s227 call n) K
theorem w227_ok {E : Env} (e : E.code 227 = some A227) (hp : E.prim 227 = none) : ShOK E 227 w227 := shW_ok (A := { pts := [], lps := [(8, [3, 6, 7, 8])] }) (S := T227) e hp (by kernel_rfl) (by kernel_rfl) (by kernel_rfl)

@[irreducible] noncomputable def A229 : AFun := (compFn Tryz.prog Tryz.f229).getD ⟨0, [], .skip⟩
noncomputable def w229 : Sh := shW 2 fun call n K => pA2 (s229 call n) K
theorem w229_ok {E : Env} (e : E.code 229 = some A229) (hp : E.prim 229 = none) : ShOK E 229 w229 := shW_ok (A := { pts := [], lps := [] }) (S := noS) e hp (by kernel_rfl) (by kernel_rfl) (by kernel_rfl)

noncomputable def T230 (call : CallFn) (n : Nat) (K : Kont) : Sp := {
  pt := fun β j => ifF j 4001 (pA2 (p230_4001 call n) K) <| ifF j 4002 (pA3 (p230_4002 call n) K) <| noP
  fs := fun β j => noP
  rd := fun β j => noP
  lp := fun β j m => noP }
@[irreducible] noncomputable def A230 : AFun := (compFn Tryz.prog Tryz.f230).getD ⟨0, [], .skip⟩
noncomputable def w230 : Sh := shW 1 fun call n K => pA1 (s230 call n) K
theorem w230_ok {E : Env} (e : E.code 230 = some A230) (hp : E.prim 230 = none) : ShOK E 230 w230 := shW_ok (A := { pts := [], lps := [], cuts := [(3, [(2, 4001, [0, 4]), (3, 4002, [0, 5, 7])])] }) (S := T230) e hp (by kernel_rfl) (by kernel_rfl) (by kernel_rfl)

@[irreducible] noncomputable def A231 : AFun := (compFn Tryz.prog Tryz.f231).getD ⟨0, [], .skip⟩
noncomputable def w231 : Sh := shW 1 fun call n K => pA1 (s231 call n) K
theorem w231_ok {E : Env} (e : E.code 231 = some A231) (hp : E.prim 231 = none) : ShOK E 231 w231 := shW_ok (A := { pts := [], lps := [] }) (S := noS) e hp (by kernel_rfl) (by kernel_rfl) (by kernel_rfl)

@[irreducible] noncomputable def A232 : AFun := (compFn Tryz.prog Tryz.f232).getD ⟨0, [], .skip⟩
noncomputable def w232 : Sh := shW 2 fun call n K => pA2 (s232 call n) K
theorem w232_ok {E : Env} (e : E.code 232 = some A232) (hp : E.prim 232 = none) : ShOK E 232 w232 := shW_ok (A := { pts := [], lps := [] }) (S := noS) e hp (by kernel_rfl) (by kernel_rfl) (by kernel_rfl)

@[irreducible] noncomputable def A233 : AFun := (compFn Tryz.prog Tryz.f233).getD ⟨0, [], .skip⟩
noncomputable def w233 : Sh := shW 2 fun call n K => pA2 (s233 call n) K
theorem w233_ok {E : Env} (e : E.code 233 = some A233) (hp : E.prim 233 = none) : ShOK E 233 w233 := shW_ok (A := { pts := [], lps := [] }) (S := noS) e hp (by kernel_rfl) (by kernel_rfl) (by kernel_rfl)

noncomputable def T239 (call : CallFn) (n : Nat) (K : Kont) : Sp := {
  pt := fun β j => ifF j 4001 (pA3 (p239_4001 call n) K) <| ifF j 12001 (pA5 (p239_12001 call n (pF3 (pB 0 β))) K) <| noP
  fs := fun β j => noP
  rd := fun β j => ifF j 5 (pA3 (b239_5 call n (pF3 (pB 0 β))) K) <| noP
  lp := fun β j m => ifL j 5 (pC3 (l239_5 call n m) K) <| noP }
@[irreducible] noncomputable def A239 : AFun := (compFn Tryz.prog Tryz.f239).getD ⟨0, [], .skip⟩
noncomputable def w239 : Sh := shW 1 fun call n K => pA1 (s239 call n) K
theorem w239_ok {E : Env} (e : E.code 239 = some A239) (hp : E.prim 239 = none) : ShOK E 239 w239 := shW_ok (A := { pts := [], lps := [(5, [0, 2, 3])], cuts := [(3, [(2, 4001, [0, 2, 6])]), (11, [(2, 12001, [0, 2, 3, 4, 10])])] }) (S := T239) e hp (by kernel_rfl) (by kernel_rfl) (by kernel_rfl)

noncomputable def T240 (call : CallFn) (n : Nat) (K : Kont) : Sp := {
  pt := fun β j => ifF j 24 (pA1 (p240_24 call n) K) <| ifF j 44001 (pA1 (p240_44001 call n) K) <| noP
  fs := fun β j => noP
  rd := fun β j => noP
  lp := fun β j m => noP }
@[irreducible] noncomputable def A240 : AFun := (compFn Tryz.prog Tryz.f240).getD ⟨0, [], .skip⟩
noncomputable def w240 : Sh := shW 2 fun call n K => pA2 (s240 call n) K
theorem w240_ok {E : Env} (e : E.code 240 = some A240) (hp : E.prim 240 = none) : ShOK E 240 w240 := shW_ok (A := { pts := [(24, [6])], lps := [], cuts := [(43, [(6, 44001, [50])])] }) (S := T240) e hp (by kernel_rfl) (by kernel_rfl) (by kernel_rfl)

noncomputable def T241 (call : CallFn) (n : Nat) (K : Kont) : Sp := {
  pt := fun β j => ifF j 18 (pA4 (p241_18 call n) K) <| ifF j 62 (pA5 (p241_62 call n (pF4 (pB 0 β))) K) <| ifF j 64 (pA1 (p241_64 call n) K) <| ifF j 100 (pA1 (p241_100 call n) K) <| noP
  fs := fun β j => noP
  rd := fun β j => ifF j 45 (pA4 (b241_45 call n (pF4 (pB 0 β))) K) <| noP
  lp := fun β j m => ifL j 45 (pC4 (l241_45 call n m) K) <| noP }
@[irreducible] noncomputable def A241 : AFun := (compFn Tryz.prog Tryz.f241).getD ⟨0, [], .skip⟩
noncomputable def w241 : Sh := shW 2 fun call n K => pA2 (s241 call n) K
theorem w241_ok {E : Env} (e : E.code 241 = some A241) (hp : E.prim 241 = none) : ShOK E 241 w241 := shW_ok (A := { pts := [(18, [2, 3, 9, 17]), (62, [2, 5, 60, 61, 62]), (64, [2]), (100, [2])], lps := [(45, [2, 60, 61, 62])] }) (S := T241) e hp (by kernel_rfl) (by kernel_rfl) (by kernel_rfl)

@[irreducible] noncomputable def A242 : AFun := (compFn Tryz.prog Tryz.f242).getD ⟨0, [], .skip⟩
noncomputable def w242 : Sh := shW 2 fun call n K => pA2 (s242 call n) K
theorem w242_ok {E : Env} (e : E.code 242 = some A242) (hp : E.prim 242 = none) : ShOK E 242 w242 := shW_ok (A := { pts := [], lps := [] }) (S := noS) e hp (by kernel_rfl) (by kernel_rfl) (by kernel_rfl)

noncomputable def T243 (call : CallFn) (n : Nat) (K : Kont) : Sp := {
  pt := fun β j => ifF j 46 (pA5 (p243_46 call n) K) <| ifF j 51 (pA1 (p243_51 call n) K) <| ifF j 6001 (pA4 (p243_6001 call n) K) <| noP
  fs := fun β j => noP
  rd := fun β j => noP
  lp := fun β j m => noP }
@[irreducible] noncomputable def A243 : AFun := (compFn Tryz.prog Tryz.f243).getD ⟨0, [], .skip⟩
noncomputable def w243 : Sh := shW 3 fun call n K => pA3 (s243 call n) K
theorem w243_ok {E : Env} (e : E.code 243 = some A243) (hp : E.prim 243 = none) : ShOK E 243 w243 := shW_ok (A := { pts := [(46, [0, 4, 6, 7, 8]), (51, [0])], lps := [], cuts := [(5, [(3, 6001, [0, 2, 4, 14])])] }) (S := T243) e hp (by kernel_rfl) (by kernel_rfl) (by kernel_rfl)

noncomputable def T244 (call : CallFn) (n : Nat) (K : Kont) : Sp := {
  pt := fun β j => ifF j 10 (pA3 (p244_10 call n) K) <| ifF j 29001 (pA6 (p244_29001 call n (pF5 (pB 0 β))) K) <| noP
  fs := fun β j => noP
  rd := fun β j => ifF j 14 (pA5 (b244_14 call n (pF5 (pB 0 β))) K) <| noP
  lp := fun β j m => ifL j 14 (pC5 (l244_14 call n m) K) <| noP }
@[irreducible] noncomputable def A244 : AFun := (compFn Tryz.prog Tryz.f244).getD ⟨0, [], .skip⟩
noncomputable def w244 : Sh := shW 3 fun call n K => pA3 (s244 call n) K
theorem w244_ok {E : Env} (e : E.code 244 = some A244) (hp : E.prim 244 = none) : ShOK E 244 w244 := shW_ok (A := { pts := [(10, [0, 1, 2])], lps := [(14, [1, 2, 15, 16, 17])], cuts := [(28, [(4, 29001, [1, 2, 15, 16, 17, 29])])] }) (S := T244) e hp (by kernel_rfl) (by kernel_rfl) (by kernel_rfl)

noncomputable def T245 (call : CallFn) (n : Nat) (K : Kont) : Sp := {
  pt := fun β j => ifF j 4001 (pA4 (p245_4001 call n) K) <| ifF j 4002 (pA4 (p245_4002 call n) K) <| ifF j 4003 (pA4 (p245_4003 call n) K) <| ifF j 4004 (pA4 (p245_4004 call n) K) <| ifF j 4005 (pA4 (p245_4005 call n) K) <| ifF j 4006 (pA4 (p245_4006 call n) K) <| ifF j 4007 (pA2 (p245_4007 call n) K) <| noP
  fs := fun β j => noP
  rd := fun β j => noP
  lp := fun β j m => noP }
@[irreducible] noncomputable def A245 : AFun := (compFn Tryz.prog Tryz.f245).getD ⟨0, [], .skip⟩
noncomputable def w245 : Sh := shW 2 fun call n K => pA2 (s245 call n) K
theorem w245_ok {E : Env} (e : E.code 245 = some A245) (hp : E.prim 245 = none) : ShOK E 245 w245 := shW_ok (A := { pts := [], lps := [], cuts := [(3, [(39, 4001, [2, 3, 38, 43]), (7, 4002, [2, 3, 45, 50]), (7, 4003, [2, 3, 52, 57]), (7, 4004, [2, 3, 59, 64]), (7, 4005, [2, 3, 66, 71]), (7, 4006, [2, 3, 73, 78]), (7, 4007, [80, 85])])] }) (S := T245) e hp (by kernel_rfl) (by kernel_rfl) (by kernel_rfl)

noncomputable def T246 (call : CallFn) (n : Nat) (K : Kont) : Sp := {
  pt := fun β j => ifF j 10 (pA3 (p246_10 call n) K) <| ifF j 29001 (pA6 (p246_29001 call n (pF5 (pB 0 β))) K) <| noP
  fs := fun β j => noP
  rd := fun β j => ifF j 14 (pA5 (b246_14 call n (pF5 (pB 0 β))) K) <| noP
  lp := fun β j m => ifL j 14 (pC5 (l246_14 call n m) K) <| noP }
@[irreducible] noncomputable def A246 : AFun := (compFn Tryz.prog Tryz.f246).getD ⟨0, [], .skip⟩
noncomputable def w246 : Sh := shW 3 fun call n K => pA3 (s246 call n) K
theorem w246_ok {E : Env} (e : E.code 246 = some A246) (hp : E.prim 246 = none) : ShOK E 246 w246 := shW_ok (A := { pts := [(10, [0, 1, 2])], lps := [(14, [1, 2, 15, 16, 17])], cuts := [(28, [(4, 29001, [1, 2, 15, 16, 17, 29])])] }) (S := T246) e hp (by kernel_rfl) (by kernel_rfl) (by kernel_rfl)

noncomputable def T248 (call : CallFn) (n : Nat) (K : Kont) : Sp := {
  pt := fun β j => ifF j 4001 (pA4 (p248_4001 call n) K) <| ifF j 4002 (pA2 (p248_4002 call n) K) <| noP
  fs := fun β j => noP
  rd := fun β j => noP
  lp := fun β j m => noP }
@[irreducible] noncomputable def A248 : AFun := (compFn Tryz.prog Tryz.f248).getD ⟨0, [], .skip⟩
noncomputable def w248 : Sh := shW 2 fun call n K => pA2 (s248 call n) K
theorem w248_ok {E : Env} (e : E.code 248 = some A248) (hp : E.prim 248 = none) : ShOK E 248 w248 := shW_ok (A := { pts := [], lps := [], cuts := [(3, [(18, 4001, [2, 3, 17, 22]), (7, 4002, [24, 29])])] }) (S := T248) e hp (by kernel_rfl) (by kernel_rfl) (by kernel_rfl)

noncomputable def T249 (call : CallFn) (n : Nat) (K : Kont) : Sp := {
  pt := fun β j => ifF j 4001 (pA5 (p249_4001 call n) K) <| noP
  fs := fun β j => noP
  rd := fun β j => noP
  lp := fun β j m => noP }
@[irreducible] noncomputable def A249 : AFun := (compFn Tryz.prog Tryz.f249).getD ⟨0, [], .skip⟩
noncomputable def w249 : Sh := shW 4 fun call n K => pA4 (s249 call n) K
theorem w249_ok {E : Env} (e : E.code 249 = some A249) (hp : E.prim 249 = none) : ShOK E 249 w249 := shW_ok (A := { pts := [], lps := [], cuts := [(3, [(8, 4001, [2, 3, 4, 10, 14])])] }) (S := T249) e hp (by kernel_rfl) (by kernel_rfl) (by kernel_rfl)

noncomputable def T250 (call : CallFn) (n : Nat) (K : Kont) : Sp := {
  pt := fun β j => noP
  fs := fun β j => noP
  rd := fun β j => ifF j 3 (pA2 (b250_3 call n (pF2 (pB 0 β))) K) <| noP
  lp := fun β j m => ifL j 3 (pC2 (l250_3 call n m) K) <| noP }
@[irreducible] noncomputable def A250 : AFun := (compFn Tryz.prog Tryz.f250).getD ⟨0, [], .skip⟩
noncomputable def w250 : Sh := shW 2 fun call n K => pA2 (s250 call n) K
theorem w250_ok {E : Env} (e : E.code 250 = some A250) (hp : E.prim 250 = none) : ShOK E 250 w250 := shW_ok (A := { pts := [], lps := [(3, [0, 7])] }) (S := T250) e hp (by kernel_rfl) (by kernel_rfl) (by kernel_rfl)

noncomputable def T252 (call : CallFn) (n : Nat) (K : Kont) : Sp := {
  pt := fun β j => noP
  fs := fun β j => noP
  rd := fun β j => ifF j 6 (pA4 (b252_6 call n (pF4 (pB 0 β))) K) <| noP
  lp := fun β j m => ifL j 6 (pC4 (l252_6 call n m) K) <| noP }
@[irreducible] noncomputable def A252 : AFun := (compFn Tryz.prog Tryz.f252).getD ⟨0, [], .skip⟩
noncomputable def w252 : Sh := shW 2 fun call n K => pA2 (s252 call n) K
theorem w252_ok {E : Env} (e : E.code 252 = some A252) (hp : E.prim 252 = none) : ShOK E 252 w252 := shW_ok (A := { pts := [], lps := [(6, [0, 1, 7, 8])] }) (S := T252) e hp (by kernel_rfl) (by kernel_rfl) (by kernel_rfl)

@[irreducible] noncomputable def A253 : AFun := (compFn Tryz.prog Tryz.f253).getD ⟨0, [], .skip⟩
noncomputable def w253 : Sh := shW 2 fun call n K => pA2 (s253 call n) K
theorem w253_ok {E : Env} (e : E.code 253 = some A253) (hp : E.prim 253 = none) : ShOK E 253 w253 := shW_ok (A := { pts := [], lps := [] }) (S := noS) e hp (by kernel_rfl) (by kernel_rfl) (by kernel_rfl)

noncomputable def T260 (call : CallFn) (n : Nat) (K : Kont) : Sp := {
  pt := fun β j => ifF j 4001 (pA2 (p260_4001 call n) K) <| noP
  fs := fun β j => noP
  rd := fun β j => noP
  lp := fun β j m => noP }
@[irreducible] noncomputable def A260 : AFun := (compFn Tryz.prog Tryz.f260).getD ⟨0, [], .skip⟩
noncomputable def w260 : Sh := shW 1 fun call n K => pA1 (s260 call n) K
theorem w260_ok {E : Env} (e : E.code 260 = some A260) (hp : E.prim 260 = none) : ShOK E 260 w260 := shW_ok (A := { pts := [], lps := [], cuts := [(3, [(4, 4001, [7, 10])])] }) (S := T260) e hp (by kernel_rfl) (by kernel_rfl) (by kernel_rfl)

@[irreducible] noncomputable def A261 : AFun := (compFn Tryz.prog Tryz.f261).getD ⟨0, [], .skip⟩
noncomputable def w261 : Sh := shW 2 fun call n K => pA2 (s261 call n) K
theorem w261_ok {E : Env} (e : E.code 261 = some A261) (hp : E.prim 261 = none) : ShOK E 261 w261 := shW_ok (A := { pts := [], lps := [] }) (S := noS) e hp (by kernel_rfl) (by kernel_rfl) (by kernel_rfl)

noncomputable def T263 (call : CallFn) (n : Nat) (K : Kont) : Sp := {
  pt := fun β j => ifF j 30 (pA5 (p263_30 call n) K) <| ifF j 11001 (pA3 (p263_11001 call n) K) <| ifF j 17001 (pA2 (p263_17001 call n) K) <| ifF j 23001 (pA2 (p263_23001 call n) K) <| ifF j 23002 (pA2 (p263_23002 call n) K) <| ifF j 33001 (pA2 (p263_33001 call n) K) <| ifF j 39001 (pA2 (p263_39001 call n) K) <| ifF j 45001 (pA2 (p263_45001 call n) K) <| ifF j 53001 (pA3 (p263_53001 call n) K) <| ifF j 69001 (pA2 (p263_69001 call n) K) <| ifF j 77001 (pA4 (p263_77001 call n) K) <| ifF j 81001 (pA2 (p263_81001 call n) K) <| ifF j 89001 (pA4 (p263_89001 call n) K) <| ifF j 93001 (pA5 (p263_93001 call n) K) <| ifF j 97001 (pA2 (p263_97001 call n) K) <| ifF j 101001 (pA2 (p263_101001 call n) K) <| noP
  fs := fun β j => noP
  rd := fun β j => noP
  lp := fun β j m => noP }
@[irreducible] noncomputable def A263 : AFun := (compFn Tryz.prog Tryz.f263).getD ⟨0, [], .skip⟩
noncomputable def w263 : Sh := shW 1 fun call n K => pA1 (s263 call n) K
theorem w263_ok {E : Env} (e : E.code 263 = some A263) (hp : E.prim 263 = none) : ShOK E 263 w263 := shW_ok (A := { pts := [(30, [1, 2, 3, 4, 48])], lps := [], cuts := [(10, [(3, 11001, [1, 2, 23])]), (16, [(3, 17001, [2, 39])]), (22, [(2, 23001, [2, 45]), (2, 23002, [2, 47])]), (32, [(5, 33001, [2, 57])]), (38, [(2, 39001, [2, 62])]), (44, [(2, 45001, [2, 68])]), (52, [(2, 53001, [1, 2, 77])]), (68, [(4, 69001, [2, 92])]), (76, [(2, 77001, [1, 2, 3, 99])]), (80, [(5, 81001, [2, 106])]), (88, [(2, 89001, [1, 2, 3, 113])]), (92, [(2, 93001, [1, 2, 3, 10, 118])]), (96, [(6, 97001, [2, 126])]), (100, [(2, 101001, [2, 128])])] }) (S := T263) e hp (by kernel_rfl) (by kernel_rfl) (by kernel_rfl)

@[irreducible] noncomputable def A264 : AFun := (compFn Tryz.prog Tryz.f264).getD ⟨0, [], .skip⟩
noncomputable def w264 : Sh := shW 1 fun call n K => pA1 (s264 call n) K
theorem w264_ok {E : Env} (e : E.code 264 = some A264) (hp : E.prim 264 = none) : ShOK E 264 w264 := shW_ok (A := { pts := [], lps := [] }) (S := noS) e hp (by kernel_rfl) (by kernel_rfl) (by kernel_rfl)

@[irreducible] noncomputable def A268 : AFun := (compFn Tryz.prog Tryz.f268).getD ⟨0, [], .skip⟩
noncomputable def w268 : Sh := shW 1 fun call n K => pA1 (s268 call n) K
theorem w268_ok {E : Env} (e : E.code 268 = some A268) (hp : E.prim 268 = none) : ShOK E 268 w268 := shW_ok (A := { pts := [], lps := [] }) (S := noS) e hp (by kernel_rfl) (by kernel_rfl) (by kernel_rfl)

noncomputable def T269 (call : CallFn) (n : Nat) (K : Kont) : Sp := {
  pt := fun β j => ifF j 8 (pA2 (p269_8 call n) K) <| ifF j 18 (pA2 (p269_18 call n) K) <| noP
  fs := fun β j => noP
  rd := fun β j => noP
  lp := fun β j m => noP }
@[irreducible] noncomputable def A269 : AFun := (compFn Tryz.prog Tryz.f269).getD ⟨0, [], .skip⟩
noncomputable def w269 : Sh := shW 2 fun call n K => pA2 (s269 call n) K
theorem w269_ok {E : Env} (e : E.code 269 = some A269) (hp : E.prim 269 = none) : ShOK E 269 w269 := shW_ok (A := { pts := [(8, [2, 3]), (18, [2, 3])], lps := [] }) (S := T269) e hp (by kernel_rfl) (by kernel_rfl) (by kernel_rfl)

noncomputable def T270 (call : CallFn) (n : Nat) (K : Kont) : Sp := {
  pt := fun β j => ifF j 20 (pA6 (p270_20 call n (pF5 (pB 0 β))) K) <| noP
  fs := fun β j => noP
  rd := fun β j => ifF j 3 (pA5 (b270_3 call n (pF5 (pB 0 β))) K) <| noP
  lp := fun β j m => ifL j 3 (pC5 (l270_3 call n m) K) <| noP }
@[irreducible] noncomputable def A270 : AFun := (compFn Tryz.prog Tryz.f270).getD ⟨0, [], .skip⟩
noncomputable def w270 : Sh := shW 3 fun call n K => pA3 (s270 call n) K
theorem w270_ok {E : Env} (e : E.code 270 = some A270) (hp : E.prim 270 = none) : ShOK E 270 w270 := shW_ok (A := { pts := [(20, [0, 2, 7, 8, 9, 10])], lps := [(3, [0, 2, 8, 9, 10])] }) (S := T270) e hp (by kernel_rfl) (by kernel_rfl) (by kernel_rfl)

@[irreducible] noncomputable def A271 : AFun := (compFn Tryz.prog Tryz.f271).getD ⟨0, [], .skip⟩
noncomputable def w271 : Sh := shW 2 fun call n K => pA2 (s271 call n) K
theorem w271_ok {E : Env} (e : E.code 271 = some A271) (hp : E.prim 271 = none) : ShOK E 271 w271 := shW_ok (A := { pts := [], lps := [] }) (S := noS) e hp (by kernel_rfl) (by kernel_rfl) (by kernel_rfl)

noncomputable def T272 (call : CallFn) (n : Nat) (K : Kont) : Sp := {
  pt := fun β j => ifF j 20 (pA6 (p272_20 call n (pF5 (pB 0 β))) K) <| noP
  fs := fun β j => noP
  rd := fun β j => ifF j 3 (pA5 (b272_3 call n (pF5 (pB 0 β))) K) <| noP
  lp := fun β j m => ifL j 3 (pC5 (l272_3 call n m) K) <| noP }
@[irreducible] noncomputable def A272 : AFun := (compFn Tryz.prog Tryz.f272).getD ⟨0, [], .skip⟩
noncomputable def w272 : Sh := shW 3 fun call n K => pA3 (s272 call n) K
theorem w272_ok {E : Env} (e : E.code 272 = some A272) (hp : E.prim 272 = none) : ShOK E 272 w272 := shW_ok (A := { pts := [(20, [0, 2, 7, 8, 9, 10])], lps := [(3, [0, 2, 8, 9, 10])] }) (S := T272) e hp (by kernel_rfl) (by kernel_rfl) (by kernel_rfl)

@[irreducible] noncomputable def A274 : AFun := (compFn Tryz.prog Tryz.f274).getD ⟨0, [], .skip⟩
noncomputable def w274 : Sh := shW 1 fun call n K => pA1 (s274 call n) K
theorem w274_ok {E : Env} (e : E.code 274 = some A274) (hp : E.prim 274 = none) : ShOK E 274 w274 := shW_ok (A := { pts := [], lps := [] }) (S := noS) e hp (by kernel_rfl) (by kernel_rfl) (by kernel_rfl)

@[irreducible] noncomputable def A275 : AFun := (compFn Tryz.prog Tryz.f275).getD ⟨0, [], .skip⟩
noncomputable def w275 : Sh := shW 2 fun call n K => pA2 (s275 call n) K
theorem w275_ok {E : Env} (e : E.code 275 = some A275) (hp : E.prim 275 = none) : ShOK E 275 w275 := shW_ok (A := { pts := [], lps := [] }) (S := noS) e hp (by kernel_rfl) (by kernel_rfl) (by kernel_rfl)

noncomputable def T276 (call : CallFn) (n : Nat) (K : Kont) : Sp := {
  pt := fun β j => ifF j 10 (pA2 (p276_10 call n) K) <| noP
  fs := fun β j => noP
  rd := fun β j => ifF j 14 (pA4 (b276_14 call n (pF4 (pB 0 β))) K) <| noP
  lp := fun β j m => ifL j 14 (pC4 (l276_14 call n m) K) <| noP }
@[irreducible] noncomputable def A276 : AFun := (compFn Tryz.prog Tryz.f276).getD ⟨0, [], .skip⟩
noncomputable def w276 : Sh := shW 2 fun call n K => pA2 (s276 call n) K
theorem w276_ok {E : Env} (e : E.code 276 = some A276) (hp : E.prim 276 = none) : ShOK E 276 w276 := shW_ok (A := { pts := [(10, [0, 1])], lps := [(14, [0, 1, 12, 13])] }) (S := T276) e hp (by kernel_rfl) (by kernel_rfl) (by kernel_rfl)

noncomputable def T277 (call : CallFn) (n : Nat) (K : Kont) : Sp := {
  pt := fun β j => ifF j 10 (pA3 (p277_10 call n) K) <| ifF j 29001 (pA6 (p277_29001 call n (pF5 (pB 0 β))) K) <| noP
  fs := fun β j => noP
  rd := fun β j => ifF j 14 (pA5 (b277_14 call n (pF5 (pB 0 β))) K) <| noP
  lp := fun β j m => ifL j 14 (pC5 (l277_14 call n m) K) <| noP }
@[irreducible] noncomputable def A277 : AFun := (compFn Tryz.prog Tryz.f277).getD ⟨0, [], .skip⟩
noncomputable def w277 : Sh := shW 3 fun call n K => pA3 (s277 call n) K
theorem w277_ok {E : Env} (e : E.code 277 = some A277) (hp : E.prim 277 = none) : ShOK E 277 w277 := shW_ok (A := { pts := [(10, [0, 1, 2])], lps := [(14, [1, 2, 15, 16, 17])], cuts := [(28, [(4, 29001, [1, 2, 15, 16, 17, 29])])] }) (S := T277) e hp (by kernel_rfl) (by kernel_rfl) (by kernel_rfl)

noncomputable def T278 (call : CallFn) (n : Nat) (K : Kont) : Sp := {
  pt := fun β j => ifF j 10 (pA3 (p278_10 call n) K) <| ifF j 29001 (pA6 (p278_29001 call n (pF5 (pB 0 β))) K) <| noP
  fs := fun β j => noP
  rd := fun β j => ifF j 14 (pA5 (b278_14 call n (pF5 (pB 0 β))) K) <| noP
  lp := fun β j m => ifL j 14 (pC5 (l278_14 call n m) K) <| noP }
@[irreducible] noncomputable def A278 : AFun := (compFn Tryz.prog Tryz.f278).getD ⟨0, [], .skip⟩
noncomputable def w278 : Sh := shW 3 fun call n K => pA3 (s278 call n) K
theorem w278_ok {E : Env} (e : E.code 278 = some A278) (hp : E.prim 278 = none) : ShOK E 278 w278 := shW_ok (A := { pts := [(10, [0, 1, 2])], lps := [(14, [1, 2, 15, 16, 17])], cuts := [(28, [(4, 29001, [1, 2, 15, 16, 17, 29])])] }) (S := T278) e hp (by kernel_rfl) (by kernel_rfl) (by kernel_rfl)

noncomputable def T279 (call : CallFn) (n : Nat) (K : Kont) : Sp := {
  pt := fun β j => ifF j 10 (pA3 (p279_10 call n) K) <| ifF j 29001 (pA6 (p279_29001 call n (pF5 (pB 0 β))) K) <| noP
  fs := fun β j => noP
  rd := fun β j => ifF j 14 (pA5 (b279_14 call n (pF5 (pB 0 β))) K) <| noP
  lp := fun β j m => ifL j 14 (pC5 (l279_14 call n m) K) <| noP }
@[irreducible] noncomputable def A279 : AFun := (compFn Tryz.prog Tryz.f279).getD ⟨0, [], .skip⟩
noncomputable def w279 : Sh := shW 3 fun call n K => pA3 (s279 call n) K
theorem w279_ok {E : Env} (e : E.code 279 = some A279) (hp : E.prim 279 = none) : ShOK E 279 w279 := shW_ok (A := { pts := [(10, [0, 1, 2])], lps := [(14, [1, 2, 15, 16, 17])], cuts := [(28, [(4, 29001, [1, 2, 15, 16, 17, 29])])] }) (S := T279) e hp (by kernel_rfl) (by kernel_rfl) (by kernel_rfl)

noncomputable def T280 (call : CallFn) (n : Nat) (K : Kont) : Sp := {
  pt := fun β j => ifF j 4001 (pA2 (p280_4001 call n) K) <| noP
  fs := fun β j => noP
  rd := fun β j => noP
  lp := fun β j m => noP }
@[irreducible] noncomputable def A280 : AFun := (compFn Tryz.prog Tryz.f280).getD ⟨0, [], .skip⟩
noncomputable def w280 : Sh := shW 2 fun call n K => pA2 (s280 call n) K
theorem w280_ok {E : Env} (e : E.code 280 = some A280) (hp : E.prim 280 = none) : ShOK E 280 w280 := shW_ok (A := { pts := [], lps := [], cuts := [(3, [(11, 4001, [10, 15])])] }) (S := T280) e hp (by kernel_rfl) (by kernel_rfl) (by kernel_rfl)

noncomputable def T281 (call : CallFn) (n : Nat) (K : Kont) : Sp := {
  pt := fun β j => ifF j 4001 (pA2 (p281_4001 call n) K) <| noP
  fs := fun β j => noP
  rd := fun β j => noP
  lp := fun β j m => noP }
@[irreducible] noncomputable def A281 : AFun := (compFn Tryz.prog Tryz.f281).getD ⟨0, [], .skip⟩
noncomputable def w281 : Sh := shW 2 fun call n K => pA2 (s281 call n) K
theorem w281_ok {E : Env} (e : E.code 281 = some A281) (hp : E.prim 281 = none) : ShOK E 281 w281 := shW_ok (A := { pts := [], lps := [], cuts := [(3, [(32, 4001, [31, 36])])] }) (S := T281) e hp (by kernel_rfl) (by kernel_rfl) (by kernel_rfl)

noncomputable def T282 (call : CallFn) (n : Nat) (K : Kont) : Sp := {
  pt := fun β j => ifF j 26 (pA5 (p282_26 call n (pF5 (pB 0 β))) K) <| ifF j 27 (pA2 (p282_27 call n) K) <| noP
  fs := fun β j => noP
  rd := fun β j => ifF j 8 (pA5 (b282_8 call n (pF5 (pB 0 β))) K) <| ifF j 33 (pA4 (b282_33 call n (pF4 (pB 0 β))) K) <| noP
  lp := fun β j m => ifL j 8 (pC5 (l282_8 call n m) K) <| ifL j 33 (pC4 (l282_33 call n m) K) <| noP }
@[irreducible] noncomputable def A282 : AFun := (compFn Tryz.prog Tryz.f282).getD ⟨0, [], .skip⟩
noncomputable def w282 : Sh := shW 1 fun call n K => pA1 (s282 call n) K
theorem w282_ok {E : Env} (e : E.code 282 = some A282) (hp : E.prim 282 = none) : ShOK E 282 w282 := shW_ok (A := { pts := [(26, [0, 3, 9, 10, 11]), (27, [0, 3])], lps := [(8, [0, 3, 9, 10, 11]), (33, [6, 25, 26, 27])] }) (S := T282) e hp (by kernel_rfl) (by kernel_rfl) (by kernel_rfl)

@[irreducible] noncomputable def A285 : AFun := (compFn Tryz.prog Tryz.f285).getD ⟨0, [], .skip⟩
noncomputable def w285 : Sh := shW 1 fun call n K => pA1 (s285 call n) K
theorem w285_ok {E : Env} (e : E.code 285 = some A285) (hp : E.prim 285 = none) : ShOK E 285 w285 := shW_ok (A := { pts := [], lps := [] }) (S := noS) e hp (by kernel_rfl) (by kernel_rfl) (by kernel_rfl)

noncomputable def T291 (call : CallFn) (n : Nat) (K : Kont) : Sp := {
  pt := fun β j => ifF j 20 (pA6 (p291_20 call n (pF5 (pB 0 β))) K) <| noP
  fs := fun β j => noP
  rd := fun β j => ifF j 3 (pA5 (b291_3 call n (pF5 (pB 0 β))) K) <| noP
  lp := fun β j m => ifL j 3 (pC5 (l291_3 call n m) K) <| noP }
@[irreducible] noncomputable def A291 : AFun := (compFn Tryz.prog Tryz.f291).getD ⟨0, [], .skip⟩
noncomputable def w291 : Sh := shW 3 fun call n K => pA3 (s291 call n) K
theorem w291_ok {E : Env} (e : E.code 291 = some A291) (hp : E.prim 291 = none) : ShOK E 291 w291 := shW_ok (A := { pts := [(20, [0, 2, 7, 8, 9, 10])], lps := [(3, [0, 2, 8, 9, 10])] }) (S := T291) e hp (by kernel_rfl) (by kernel_rfl) (by kernel_rfl)

@[irreducible] noncomputable def A292 : AFun := (compFn Tryz.prog Tryz.f292).getD ⟨0, [], .skip⟩
noncomputable def w292 : Sh := shW 2 fun call n K => pA2 (s292 call n) K
theorem w292_ok {E : Env} (e : E.code 292 = some A292) (hp : E.prim 292 = none) : ShOK E 292 w292 := shW_ok (A := { pts := [], lps := [] }) (S := noS) e hp (by kernel_rfl) (by kernel_rfl) (by kernel_rfl)

@[irreducible] noncomputable def A293 : AFun := (compFn Tryz.prog Tryz.f293).getD ⟨0, [], .skip⟩
noncomputable def w293 : Sh := shW 2 fun call n K => pA2 (s293 call n) K
theorem w293_ok {E : Env} (e : E.code 293 = some A293) (hp : E.prim 293 = none) : ShOK E 293 w293 := shW_ok (A := { pts := [], lps := [] }) (S := noS) e hp (by kernel_rfl) (by kernel_rfl) (by kernel_rfl)

noncomputable def T294 (call : CallFn) (n : Nat) (K : Kont) : Sp := {
  pt := fun β j => ifF j 13001 (pA2 (p294_13001 call n) K) <| ifF j 17001 (pA2 (p294_17001 call n) K) <| ifF j 21001 (pA2 (p294_21001 call n) K) <| noP
  fs := fun β j => noP
  rd := fun β j => noP
  lp := fun β j m => noP }
@[irreducible] noncomputable def A294 : AFun := (compFn Tryz.prog Tryz.f294).getD ⟨0, [], .skip⟩
noncomputable def w294 : Sh := shW 2 fun call n K => pA2 (s294 call n) K
theorem w294_ok {E : Env} (e : E.code 294 = some A294) (hp : E.prim 294 = none) : ShOK E 294 w294 := shW_ok (A := { pts := [], lps := [], cuts := [(12, [(4, 13001, [15, 18])]), (16, [(4, 17001, [23, 26])]), (20, [(4, 21001, [31, 34])])] }) (S := T294) e hp (by kernel_rfl) (by kernel_rfl) (by kernel_rfl)

noncomputable def T295 (call : CallFn) (n : Nat) (K : Kont) : Sp := {
  pt := fun β j => ifF j 10 (pA3 (p295_10 call n) K) <| ifF j 29001 (pA6 (p295_29001 call n (pF5 (pB 0 β))) K) <| noP
  fs := fun β j => noP
  rd := fun β j => ifF j 14 (pA5 (b295_14 call n (pF5 (pB 0 β))) K) <| noP
  lp := fun β j m => ifL j 14 (pC5 (l295_14 call n m) K) <| noP }
@[irreducible] noncomputable def A295 : AFun := (compFn Tryz.prog Tryz.f295).getD ⟨0, [], .skip⟩
noncomputable def w295 : Sh := shW 3 fun call n K => pA3 (s295 call n) K
theorem w295_ok {E : Env} (e : E.code 295 = some A295) (hp : E.prim 295 = none) : ShOK E 295 w295 := shW_ok (A := { pts := [(10, [0, 1, 2])], lps := [(14, [1, 2, 15, 16, 17])], cuts := [(28, [(4, 29001, [1, 2, 15, 16, 17, 29])])] }) (S := T295) e hp (by kernel_rfl) (by kernel_rfl) (by kernel_rfl)

noncomputable def T296 (call : CallFn) (n : Nat) (K : Kont) : Sp := {
  pt := fun β j => ifF j 8 (pA2 (p296_8 call n) K) <| noP
  fs := fun β j => noP
  rd := fun β j => noP
  lp := fun β j m => noP }
@[irreducible] noncomputable def A296 : AFun := (compFn Tryz.prog Tryz.f296).getD ⟨0, [], .skip⟩
noncomputable def w296 : Sh := shW 2 fun call n K => pA2 (s296 call n) K
theorem w296_ok {E : Env} (e : E.code 296 = some A296) (hp : E.prim 296 = none) : ShOK E 296 w296 := shW_ok (A := { pts := [(8, [0, 1])], lps := [] }) (S := T296) e hp (by kernel_rfl) (by kernel_rfl) (by kernel_rfl)

noncomputable def T299 (call : CallFn) (n : Nat) (K : Kont) : Sp := {
  pt := fun β j => ifF j 20 (pA6 (p299_20 call n (pF5 (pB 0 β))) K) <| noP
  fs := fun β j => noP
  rd := fun β j => ifF j 3 (pA5 (b299_3 call n (pF5 (pB 0 β))) K) <| noP
  lp := fun β j m => ifL j 3 (pC5 (l299_3 call n m) K) <| noP }
@[irreducible] noncomputable def A299 : AFun := (compFn Tryz.prog Tryz.f299).getD ⟨0, [], .skip⟩
noncomputable def w299 : Sh := shW 3 fun call n K => pA3 (s299 call n) K
theorem w299_ok {E : Env} (e : E.code 299 = some A299) (hp : E.prim 299 = none) : ShOK E 299 w299 := shW_ok (A := { pts := [(20, [0, 2, 7, 8, 9, 10])], lps := [(3, [0, 2, 8, 9, 10])] }) (S := T299) e hp (by kernel_rfl) (by kernel_rfl) (by kernel_rfl)

@[irreducible] noncomputable def A300 : AFun := (compFn Tryz.prog Tryz.f300).getD ⟨0, [], .skip⟩
noncomputable def w300 : Sh := shW 2 fun call n K => pA2 (s300 call n) K
theorem w300_ok {E : Env} (e : E.code 300 = some A300) (hp : E.prim 300 = none) : ShOK E 300 w300 := shW_ok (A := { pts := [], lps := [] }) (S := noS) e hp (by kernel_rfl) (by kernel_rfl) (by kernel_rfl)

end Go.Proofs.YtgdccjbnakolmaaGreatDoor
