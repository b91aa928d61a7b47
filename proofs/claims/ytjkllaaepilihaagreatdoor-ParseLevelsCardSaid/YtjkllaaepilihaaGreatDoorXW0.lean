/-
  The functions say no more than the code: so the kernel finds (printed by wip/tools/gen2.py).
-/
import Derived.Test.YtjkllaaepilihaaGreatDoorXS0
import Derived.Test.YtjkllaaepilihaaGreatDoorAbDn
import Derived.Test.YtjkllaaepilihaaGreatDoorProg
import Derived.KernelRfl
namespace Go.Proofs.YtjkllaaepilihaaGreatDoor
open Go.Ab
set_option linter.unusedVariables false

noncomputable def T3 (call : CallFn) (n : Nat) (K : Kont) : Sp := {
  pt := fun β j => ifF j 29 (pA0 (p3_29 call n) K) <| ifF j 54 (pA0 (p3_54 call n) K) <| ifF j 19001 (pA3 (p3_19001 call n (pF2 (pB 0 β))) K) <| ifF j 21001 (pA5 (p3_21001 call n (pF2 (pB 0 β))) K) <| ifF j 23001 (pA4 (p3_23001 call n (pF2 (pB 0 β))) K) <| ifF j 46001 (pA3 (p3_46001 call n (pF2 (pB 0 β))) K) <| noP
  fs := fun β j => noP
  rd := fun β j => ifF j 8 (pA2 (b3_8 call n (pF2 (pB 0 β))) K) <| ifF j 35 (pA2 (b3_35 call n (pF2 (pB 0 β))) K) <| noP
  lp := fun β j m => ifL j 8 (pC2 (l3_8 call n m) K) <| ifL j 35 (pC2 (l3_35 call n m) K) <| noP }
@[irreducible] noncomputable def A3 : AFun := (compFn Tryz.prog Tryz.f3).getD ⟨0, [], .skip⟩
noncomputable def w3 : Sh := shW 0 fun call n K => pA0 (s3 call n) K
theorem w3_ok {E : Env} (e : E.code 3 = some A3) (hp : E.prim 3 = none) : ShOK E 3 w3 := shW_ok (A := { pts := [(29, []), (54, [])], lps := [(8, [1, 2]), (35, [9, 10])], cuts := [(18, [(5, 19001, [1, 2, 26])]), (20, [(6, 21001, [1, 2, 3, 5, 36])]), (22, [(10, 23001, [1, 2, 46, 49])]), (45, [(5, 46001, [9, 10, 64])])] }) (S := T3) e hp (by kernel_rfl) (by kernel_rfl) (by kernel_rfl)

noncomputable def T4 (call : CallFn) (n : Nat) (K : Kont) : Sp := {
  pt := fun β j => ifF j 23 (pA2 (p4_23 call n) K) <| ifF j 44 (pA4 (p4_44 call n) K) <| ifF j 25001 (pA3 (p4_25001 call n) K) <| ifF j 27001 (pA2 (p4_27001 call n) K) <| ifF j 46001 (pA5 (p4_46001 call n) K) <| ifF j 48001 (pA6 (p4_48001 call n) K) <| ifF j 50001 (pA8 (p4_50001 call n) K) <| ifF j 52001 (pA10 (p4_52001 call n) K) <| ifF j 54001 (pA11 (p4_54001 call n) K) <| ifF j 56001 (pA2 (p4_56001 call n) K) <| noP
  fs := fun β j => noP
  rd := fun β j => ifF j 10 (pA3 (b4_10 call n (pF3 (pB 0 β))) K) <| ifF j 33 (pA5 (b4_33 call n (pF5 (pB 0 β))) K) <| noP
  lp := fun β j m => ifL j 10 (pC3 (l4_10 call n m) K) <| ifL j 33 (pC5 (l4_33 call n m) K) <| noP }
@[irreducible] noncomputable def A4 : AFun := (compFn Tryz.prog Tryz.f4).getD ⟨0, [], .skip⟩
noncomputable def w4 : Sh := shW 0 fun call n K => pA0 (s4 call n) K
theorem w4_ok {E : Env} (e : E.code 4 = some A4) (hp : E.prim 4 = none) : ShOK E 4 w4 := shW_ok (A := { pts := [(23, [1, 2]), (44, [6, 8, 9, 10])], lps := [(10, [1, 2, 3]), (33, [6, 8, 9, 10, 11])], cuts := [(24, [(5, 25001, [1, 2, 40])]), (26, [(5, 27001, [6, 49])]), (45, [(3, 46001, [6, 8, 9, 10, 62])]), (47, [(3, 48001, [6, 8, 9, 10, 14, 69])]), (49, [(1, 50001, [6, 8, 9, 10, 14, 16, 17, 74])]), (51, [(1, 52001, [6, 8, 9, 10, 14, 16, 17, 18, 20, 79])]), (53, [(1, 54001, [6, 8, 9, 10, 14, 16, 17, 18, 20, 23, 84])]), (55, [(77, 56001, [163, 164])])] }) (S := T4) e hp (by kernel_rfl) (by kernel_rfl) (by kernel_rfl)

noncomputable def T5 (call : CallFn) (n : Nat) (K : Kont) : Sp := {
  pt := fun β j => ifF j 6001 (pA3 (p5_6001 call n) K) <| noP
  fs := fun β j => noP
  rd := fun β j => noP
  lp := fun β j m => noP }
@[irreducible] noncomputable def A5 : AFun := (compFn Tryz.prog Tryz.f5).getD ⟨0, [], .skip⟩
noncomputable def w5 : Sh := shW 1 fun call n K => pA1 (s5 call n) K
theorem w5_ok {E : Env} (e : E.code 5 = some A5) (hp : E.prim 5 = none) : ShOK E 5 w5 := shW_ok (A := { pts := [], lps := [], cuts := [(5, [(3, 6001, [2, 5, 11])])] }) (S := T5) e hp (by kernel_rfl) (by kernel_rfl) (by kernel_rfl)

noncomputable def T6 (call : CallFn) (n : Nat) (K : Kont) : Sp := {
  pt := fun β j => ifF j 4001 (pA4 (p6_4001 call n) K) <| ifF j 4002 (pA2 (p6_4002 call n) K) <| noP
  fs := fun β j => noP
  rd := fun β j => noP
  lp := fun β j m => noP }
@[irreducible] noncomputable def A6 : AFun := (compFn Tryz.prog Tryz.f6).getD ⟨0, [], .skip⟩
noncomputable def w6 : Sh := shW 2 fun call n K => pA2 (s6 call n) K
theorem w6_ok {E : Env} (e : E.code 6 = some A6) (hp : E.prim 6 = none) : ShOK E 6 w6 := shW_ok (A := { pts := [], lps := [], cuts := [(3, [(18, 4001, [2, 3, 17, 22]), (7, 4002, [24, 29])])] }) (S := T6) e hp (by kernel_rfl) (by kernel_rfl) (by kernel_rfl)

noncomputable def T7 (call : CallFn) (n : Nat) (K : Kont) : Sp := {
  pt := fun β j => ifF j 4001 (pA1 (p7_4001 call n) K) <| ifF j 6001 (pA3 (p7_6001 call n) K) <| noP
  fs := fun β j => noP
  rd := fun β j => noP
  lp := fun β j m => noP }
@[irreducible] noncomputable def A7 : AFun := (compFn Tryz.prog Tryz.f7).getD ⟨0, [], .skip⟩
noncomputable def w7 : Sh := shW 0 fun call n K => pA0 (s7 call n) K
theorem w7_ok {E : Env} (e : E.code 7 = some A7) (hp : E.prim 7 = none) : ShOK E 7 w7 := shW_ok (A := { pts := [], lps := [], cuts := [(3, [(1, 4001, [8])]), (5, [(1, 6001, [1, 3, 13])])] }) (S := T7) e hp (by kernel_rfl) (by kernel_rfl) (by kernel_rfl)

noncomputable def T8 (call : CallFn) (n : Nat) (K : Kont) : Sp := {
  pt := fun β j => ifF j 6001 (pA3 (p8_6001 call n) K) <| noP
  fs := fun β j => noP
  rd := fun β j => noP
  lp := fun β j m => noP }
@[irreducible] noncomputable def A8 : AFun := (compFn Tryz.prog Tryz.f8).getD ⟨0, [], .skip⟩
noncomputable def w8 : Sh := shW 1 fun call n K => pA1 (s8 call n) K
theorem w8_ok {E : Env} (e : E.code 8 = some A8) (hp : E.prim 8 = none) : ShOK E 8 w8 := shW_ok (A := { pts := [], lps := [], cuts := [(5, [(3, 6001, [2, 5, 11])])] }) (S := T8) e hp (by kernel_rfl) (by kernel_rfl) (by kernel_rfl)

noncomputable def T9 (call : CallFn) (n : Nat) (K : Kont) : Sp := {
  pt := fun β j => ifF j 4001 (pA3 (p9_4001 call n) K) <| ifF j 14001 (pA1 (p9_14001 call n) K) <| noP
  fs := fun β j => noP
  rd := fun β j => noP
  lp := fun β j m => noP }
@[irreducible] noncomputable def A9 : AFun := (compFn Tryz.prog Tryz.f9).getD ⟨0, [], .skip⟩
noncomputable def w9 : Sh := shW 2 fun call n K => pA2 (s9 call n) K
theorem w9_ok {E : Env} (e : E.code 9 = some A9) (hp : E.prim 9 = none) : ShOK E 9 w9 := shW_ok (A := { pts := [], lps := [], cuts := [(3, [(2, 4001, [0, 1, 9])]), (13, [(5, 14001, [21])])] }) (S := T9) e hp (by kernel_rfl) (by kernel_rfl) (by kernel_rfl)

noncomputable def T10 (call : CallFn) (n : Nat) (K : Kont) : Sp := {
  pt := fun β j => ifF j 1001 (pA2 (p10_1001 call n) K) <| noP
  fs := fun β j => noP
  rd := fun β j => noP
  lp := fun β j m => noP }
@[irreducible] noncomputable def A10 : AFun := (compFn Tryz.prog Tryz.f10).getD ⟨0, [], .skip⟩
noncomputable def w10 : Sh := shW 2 fun call n K => pA2 (s10 call n) K
theorem w10_ok {E : Env} (e : E.code 10 = some A10) (hp : E.prim 10 = none) : ShOK E 10 w10 := shW_ok (A := { pts := [], lps := [], cuts := [(0, [(2, 1001, [1, 4])])] }) (S := T10) e hp (by kernel_rfl) (by kernel_rfl) (by kernel_rfl)

noncomputable def T11 (call : CallFn) (n : Nat) (K : Kont) : Sp := {
  pt := fun β j => ifF j 4001 (pA2 (p11_4001 call n) K) <| noP
  fs := fun β j => noP
  rd := fun β j => noP
  lp := fun β j m => noP }
@[irreducible] noncomputable def A11 : AFun := (compFn Tryz.prog Tryz.f11).getD ⟨0, [], .skip⟩
noncomputable def w11 : Sh := shW 1 fun call n K => pA1 (s11 call n) K
theorem w11_ok {E : Env} (e : E.code 11 = some A11) (hp : E.prim 11 = none) : ShOK E 11 w11 := shW_ok (A := { pts := [], lps := [], cuts := [(3, [(2, 4001, [2, 4])])] }) (S := T11) e hp (by kernel_rfl) (by kernel_rfl) (by kernel_rfl)

noncomputable def T12 (call : CallFn) (n : Nat) (K : Kont) : Sp := {
  pt := fun β j => ifF j 4001 (pA2 (p12_4001 call n) K) <| noP
  fs := fun β j => noP
  rd := fun β j => noP
  lp := fun β j m => noP }
@[irreducible] noncomputable def A12 : AFun := (compFn Tryz.prog Tryz.f12).getD ⟨0, [], .skip⟩
noncomputable def w12 : Sh := shW 2 fun call n K => pA2 (s12 call n) K
theorem w12_ok {E : Env} (e : E.code 12 = some A12) (hp : E.prim 12 = none) : ShOK E 12 w12 := shW_ok (A := { pts := [], lps := [], cuts := [(3, [(32, 4001, [31, 36])])] }) (S := T12) e hp (by kernel_rfl) (by kernel_rfl) (by kernel_rfl)

noncomputable def T13 (call : CallFn) (n : Nat) (K : Kont) : Sp := {
  pt := fun β j => ifF j 10 (pA2 (p13_10 call n) K) <| noP
  fs := fun β j => noP
  rd := fun β j => ifF j 14 (pA3 (b13_14 call n (pF3 (pB 0 β))) K) <| noP
  lp := fun β j m => ifL j 14 (pC3 (l13_14 call n m) K) <| noP }
@[irreducible] noncomputable def A13 : AFun := (compFn Tryz.prog Tryz.f13).getD ⟨0, [], .skip⟩
noncomputable def w13 : Sh := shW 2 fun call n K => pA2 (s13 call n) K
theorem w13_ok {E : Env} (e : E.code 13 = some A13) (hp : E.prim 13 = none) : ShOK E 13 w13 := shW_ok (A := { pts := [(10, [0, 1])], lps := [(14, [0, 1, 5])] }) (S := T13) e hp (by kernel_rfl) (by kernel_rfl) (by kernel_rfl)

noncomputable def T14 (call : CallFn) (n : Nat) (K : Kont) : Sp := {
  pt := fun β j => ifF j 1001 (pA2 (p14_1001 call n) K) <| noP
  fs := fun β j => noP
  rd := fun β j => noP
  lp := fun β j m => noP }
@[irreducible] noncomputable def A14 : AFun := (compFn Tryz.prog Tryz.f14).getD ⟨0, [], .skip⟩
noncomputable def w14 : Sh := shW 2 fun call n K => pA2 (s14 call n) K
theorem w14_ok {E : Env} (e : E.code 14 = some A14) (hp : E.prim 14 = none) : ShOK E 14 w14 := shW_ok (A := { pts := [], lps := [], cuts := [(0, [(2, 1001, [1, 4])])] }) (S := T14) e hp (by kernel_rfl) (by kernel_rfl) (by kernel_rfl)

noncomputable def T15 (call : CallFn) (n : Nat) (K : Kont) : Sp := {
  pt := fun β j => ifF j 26 (pA2 (p15_26 call n) K) <| noP
  fs := fun β j => noP
  rd := fun β j => ifF j 6 (pA3 (b15_6 call n (pF3 (pB 0 β))) K) <| noP
  lp := fun β j m => ifL j 6 (pC3 (l15_6 call n m) K) <| noP }
@[irreducible] noncomputable def A15 : AFun := (compFn Tryz.prog Tryz.f15).getD ⟨0, [], .skip⟩
noncomputable def w15 : Sh := shW 1 fun call n K => pA1 (s15 call n) K
theorem w15_ok {E : Env} (e : E.code 15 = some A15) (hp : E.prim 15 = none) : ShOK E 15 w15 := shW_ok (A := { pts := [(26, [2, 3])], lps := [(6, [0, 2, 3])] }) (S := T15) e hp (by kernel_rfl) (by kernel_rfl) (by kernel_rfl)

noncomputable def T16 (call : CallFn) (n : Nat) (K : Kont) : Sp := {
  pt := fun β j => ifF j 12001 (pA1 (p16_12001 call n) K) <| noP
  fs := fun β j => noP
  rd := fun β j => noP
  lp := fun β j m => noP }
@[irreducible] noncomputable def A16 : AFun := (compFn Tryz.prog Tryz.f16).getD ⟨0, [], .skip⟩
noncomputable def w16 : Sh := shW 1 fun call n K => pA1 (s16 call n) K
theorem w16_ok {E : Env} (e : E.code 16 = some A16) (hp : E.prim 16 = none) : ShOK E 16 w16 := shW_ok (A := { pts := [], lps := [], cuts := [(11, [(2, 12001, [9])])] }) (S := T16) e hp (by kernel_rfl) (by kernel_rfl) (by kernel_rfl)

noncomputable def T18 (call : CallFn) (n : Nat) (K : Kont) : Sp := {
  pt := fun β j => ifF j 10 (pA3 (p18_10 call n) K) <| ifF j 8001 (pA2 (p18_8001 call n) K) <| ifF j 12001 (pA4 (p18_12001 call n) K) <| ifF j 17001 (pA5 (p18_17001 call n (pF4 (pB 0 β))) K) <| ifF j 17002 (pA6 (p18_17002 call n (pF4 (pB 0 β))) K) <| noP
  fs := fun β j => noP
  rd := fun β j => ifF j 13 (pA4 (b18_13 call n (pF4 (pB 0 β))) K) <| noP
  lp := fun β j m => ifL j 13 (pC4 (l18_13 call n m) K) <| noP }
@[irreducible] noncomputable def A18 : AFun := (compFn Tryz.prog Tryz.f18).getD ⟨0, [], .skip⟩
noncomputable def w18 : Sh := shW 2 fun call n K => pA2 (s18 call n) K
theorem w18_ok {E : Env} (e : E.code 18 = some A18) (hp : E.prim 18 = none) : ShOK E 18 w18 := shW_ok (A := { pts := [(10, [0, 1, 4])], lps := [(13, [0, 1, 4, 5])], cuts := [(7, [(2, 8001, [4, 13])]), (11, [(4, 12001, [0, 1, 4, 17])]), (16, [(2, 17001, [0, 1, 4, 5, 19]), (2, 17002, [0, 1, 4, 5, 19, 21])])] }) (S := T18) e hp (by kernel_rfl) (by kernel_rfl) (by kernel_rfl)

noncomputable def T19 (call : CallFn) (n : Nat) (K : Kont) : Sp := {
  pt := fun β j => ifF j 10 (pA2 (p19_10 call n) K) <| noP
  fs := fun β j => noP
  rd := fun β j => ifF j 14 (pA3 (b19_14 call n (pF3 (pB 0 β))) K) <| noP
  lp := fun β j m => ifL j 14 (pC3 (l19_14 call n m) K) <| noP }
@[irreducible] noncomputable def A19 : AFun := (compFn Tryz.prog Tryz.f19).getD ⟨0, [], .skip⟩
noncomputable def w19 : Sh := shW 2 fun call n K => pA2 (s19 call n) K
theorem w19_ok {E : Env} (e : E.code 19 = some A19) (hp : E.prim 19 = none) : ShOK E 19 w19 := shW_ok (A := { pts := [(10, [0, 1])], lps := [(14, [0, 1, 5])] }) (S := T19) e hp (by kernel_rfl) (by kernel_rfl) (by kernel_rfl)

noncomputable def T20 (call : CallFn) (n : Nat) (K : Kont) : Sp := {
  pt := fun β j => ifF j 5001 (pA2 (p20_5001 call n) K) <| noP
  fs := fun β j => noP
  rd := fun β j => noP
  lp := fun β j m => noP }
@[irreducible] noncomputable def A20 : AFun := (compFn Tryz.prog Tryz.f20).getD ⟨0, [], .skip⟩
noncomputable def w20 : Sh := shW 2 fun call n K => pA2 (s20 call n) K
theorem w20_ok {E : Env} (e : E.code 20 = some A20) (hp : E.prim 20 = none) : ShOK E 20 w20 := shW_ok (A := { pts := [], lps := [], cuts := [(4, [(3, 5001, [0, 7])])] }) (S := T20) e hp (by kernel_rfl) (by kernel_rfl) (by kernel_rfl)

noncomputable def T21 (call : CallFn) (n : Nat) (K : Kont) : Sp := {
  pt := fun β j => ifF j 10 (pA3 (p21_10 call n) K) <| ifF j 27 (pA3 (p21_27 call n) K) <| ifF j 4001 (pA3 (p21_4001 call n) K) <| ifF j 9001 (pA4 (p21_9001 call n) K) <| ifF j 20001 (pA6 (p21_20001 call n (pF4 (pB 0 β))) K) <| ifF j 20002 (pA6 (p21_20002 call n (pF4 (pB 0 β))) K) <| ifF j 20003 (pA7 (p21_20003 call n (pF4 (pB 0 β))) K) <| noP
  fs := fun β j => noP
  rd := fun β j => ifF j 16 (pA4 (b21_16 call n (pF4 (pB 0 β))) K) <| noP
  lp := fun β j m => ifL j 16 (pC4 (l21_16 call n m) K) <| noP }
@[irreducible] noncomputable def A21 : AFun := (compFn Tryz.prog Tryz.f21).getD ⟨0, [], .skip⟩
noncomputable def w21 : Sh := shW 1 fun call n K => pA1 (s21 call n) K
theorem w21_ok {E : Env} (e : E.code 21 = some A21) (hp : E.prim 21 = none) : ShOK E 21 w21 := shW_ok (A := { pts := [(10, [0, 2, 3]), (27, [0, 2, 3])], lps := [(16, [0, 2, 3, 4])], cuts := [(3, [(2, 4001, [0, 2, 6])]), (8, [(2, 9001, [0, 2, 3, 11])]), (19, [(4, 20001, [0, 2, 3, 4, 16, 18]), (8, 20002, [0, 2, 3, 21, 24, 26]), (3, 20003, [0, 2, 3, 21, 24, 27, 29])])] }) (S := T21) e hp (by kernel_rfl) (by kernel_rfl) (by kernel_rfl)

noncomputable def T22 (call : CallFn) (n : Nat) (K : Kont) : Sp := {
  pt := fun β j => ifF j 34 (pA3 (p22_34 call n) K) <| ifF j 49 (pA2 (p22_49 call n) K) <| ifF j 4001 (pA3 (p22_4001 call n) K) <| ifF j 10001 (pA4 (p22_10001 call n (pF3 (pB 0 β))) K) <| ifF j 19001 (pA4 (p22_19001 call n (pF3 (pB 0 β))) K) <| ifF j 23001 (pA4 (p22_23001 call n (pF3 (pB 0 β))) K) <| ifF j 27001 (pA4 (p22_27001 call n (pF3 (pB 0 β))) K) <| ifF j 36001 (pA4 (p22_36001 call n) K) <| ifF j 44001 (pA4 (p22_44001 call n (pF3 (pB 0 β))) K) <| noP
  fs := fun β j => noP
  rd := fun β j => ifF j 6 (pA3 (b22_6 call n (pF3 (pB 0 β))) K) <| ifF j 40 (pA3 (b22_40 call n (pF3 (pB 0 β))) K) <| noP
  lp := fun β j m => ifL j 6 (pC3 (l22_6 call n m) K) <| ifL j 40 (pC3 (l22_40 call n m) K) <| noP }
@[irreducible] noncomputable def A22 : AFun := (compFn Tryz.prog Tryz.f22).getD ⟨0, [], .skip⟩
noncomputable def w22 : Sh := shW 1 fun call n K => pA1 (s22 call n) K
theorem w22_ok {E : Env} (e : E.code 22 = some A22) (hp : E.prim 22 = none) : ShOK E 22 w22 := shW_ok (A := { pts := [(34, [0, 2, 3]), (49, [2, 3])], lps := [(6, [0, 2, 3]), (40, [0, 2, 3])], cuts := [(3, [(2, 4001, [0, 2, 5])]), (9, [(2, 10001, [0, 2, 3, 8])]), (18, [(2, 19001, [0, 2, 3, 18])]), (22, [(2, 23001, [0, 2, 3, 24])]), (26, [(2, 27001, [0, 2, 3, 30])]), (35, [(3, 36001, [0, 2, 3, 38])]), (43, [(2, 44001, [0, 2, 3, 44])])] }) (S := T22) e hp (by kernel_rfl) (by kernel_rfl) (by kernel_rfl)

noncomputable def T23 (call : CallFn) (n : Nat) (K : Kont) : Sp := {
  pt := fun β j => ifF j 15001 (pA6 (p23_15001 call n (pF4 (pB 0 β))) K) <| noP
  fs := fun β j => noP
  rd := fun β j => ifF j 3 (pA4 (b23_3 call n (pF4 (pB 0 β))) K) <| noP
  lp := fun β j m => ifL j 3 (pC4 (l23_3 call n m) K) <| noP }
@[irreducible] noncomputable def A23 : AFun := (compFn Tryz.prog Tryz.f23).getD ⟨0, [], .skip⟩
noncomputable def w23 : Sh := shW 2 fun call n K => pA2 (s23 call n) K
theorem w23_ok {E : Env} (e : E.code 23 = some A23) (hp : E.prim 23 = none) : ShOK E 23 w23 := shW_ok (A := { pts := [], lps := [(3, [0, 6, 7, 8])], cuts := [(14, [(4, 15001, [0, 6, 7, 8, 12, 15])])] }) (S := T23) e hp (by kernel_rfl) (by kernel_rfl) (by kernel_rfl)

noncomputable def T24 (call : CallFn) (n : Nat) (K : Kont) : Sp := {
  pt := fun β j => ifF j 4001 (pA3 (p24_4001 call n) K) <| ifF j 10001 (pA4 (p24_10001 call n) K) <| noP
  fs := fun β j => noP
  rd := fun β j => noP
  lp := fun β j m => noP }
@[irreducible] noncomputable def A24 : AFun := (compFn Tryz.prog Tryz.f24).getD ⟨0, [], .skip⟩
noncomputable def w24 : Sh := shW 1 fun call n K => pA1 (s24 call n) K
theorem w24_ok {E : Env} (e : E.code 24 = some A24) (hp : E.prim 24 = none) : ShOK E 24 w24 := shW_ok (A := { pts := [], lps := [], cuts := [(3, [(2, 4001, [1, 2, 5])]), (9, [(3, 10001, [1, 2, 3, 14])])] }) (S := T24) e hp (by kernel_rfl) (by kernel_rfl) (by kernel_rfl)

@[irreducible] noncomputable def A27 : AFun := (compFn Tryz.prog Tryz.f27).getD ⟨0, [], .skip⟩
noncomputable def w27 : Sh := shW 0 fun call n K => pA0 (s27 call n) K
theorem w27_ok {E : Env} (e : E.code 27 = some A27) (hp : E.prim 27 = none) : ShOK E 27 w27 := shW_ok (A := { pts := [], lps := [] }) (S := noS) e hp (by kernel_rfl) (by kernel_rfl) (by kernel_rfl)

noncomputable def T28 (call : CallFn) (n : Nat) (K : Kont) : Sp := {
  pt := fun β j => ifF j 4001 (pA1 (p28_4001 call n) K) <| noP
  fs := fun β j => noP
  rd := fun β j => noP
  lp := fun β j m => noP }
@[irreducible] noncomputable def A28 : AFun := (compFn Tryz.prog Tryz.f28).getD ⟨0, [], .skip⟩
noncomputable def w28 : Sh := shW 2 fun call n K => pA2 (s28 call n) K
theorem w28_ok {E : Env} (e : E.code 28 = some A28) (hp : E.prim 28 = none) : ShOK E 28 w28 := shW_ok (A := { pts := [], lps := [], cuts := [(3, [(2, 4001, [7])])] }) (S := T28) e hp (by kernel_rfl) (by kernel_rfl) (by kernel_rfl)

noncomputable def T29 (call : CallFn) (n : Nat) (K : Kont) : Sp := {
  pt := fun β j => ifF j 12 (pA4 (p29_12 call n) K) <| ifF j 15001 (pA5 (p29_15001 call n) K) <| ifF j 15002 (pA6 (p29_15002 call n) K) <| ifF j 18001 (pA2 (p29_18001 call n) K) <| ifF j 24001 (pA5 (p29_24001 call n) K) <| ifF j 28001 (pA2 (p29_28001 call n) K) <| noP
  fs := fun β j => noP
  rd := fun β j => noP
  lp := fun β j m => noP }
@[irreducible] noncomputable def A29 : AFun := (compFn Tryz.prog Tryz.f29).getD ⟨0, [], .skip⟩
noncomputable def w29 : Sh := shW 1 fun call n K => pA1 (s29 call n) K
theorem w29_ok {E : Env} (e : E.code 29 = some A29) (hp : E.prim 29 = none) : ShOK E 29 w29 := shW_ok (A := { pts := [(12, [0, 2, 3, 4])], lps := [], cuts := [(14, [(2, 15001, [0, 2, 3, 4, 11]), (4, 15002, [0, 2, 3, 4, 13, 15])]), (17, [(2, 18001, [2, 19])]), (23, [(2, 24001, [0, 2, 3, 4, 24])]), (27, [(6, 28001, [2, 37])])] }) (S := T29) e hp (by kernel_rfl) (by kernel_rfl) (by kernel_rfl)

@[irreducible] noncomputable def A30 : AFun := (compFn Tryz.prog Tryz.f30).getD ⟨0, [], .skip⟩
noncomputable def w30 : Sh := shW 1 fun call n K => pA1 (s30 call n) K
theorem w30_ok {E : Env} (e : E.code 30 = some A30) (hp : E.prim 30 = none) : ShOK E 30 w30 := shW_ok (A := { pts := [], lps := [] }) (S := noS) e hp (by kernel_rfl) (by kernel_rfl) (by kernel_rfl)

@[irreducible] noncomputable def A31 : AFun := (compFn Tryz.prog Tryz.f31).getD ⟨0, [], .skip⟩
noncomputable def w31 : Sh := shW 2 fun call n K => pA2 (s31 call n) K
theorem w31_ok {E : Env} (e : E.code 31 = some A31) (hp : E.prim 31 = none) : ShOK E 31 w31 := shW_ok (A := { pts := [], lps := [] }) (S := noS) e hp (by kernel_rfl) (by kernel_rfl) (by kernel_rfl)

noncomputable def T32 (call : CallFn) (n : Nat) (K : Kont) : Sp := {
  pt := fun β j => ifF j 23 (pA3 (p32_23 call n) K) <| ifF j 29 (pA2 (p32_29 call n) K) <| noP
  fs := fun β j => noP
  rd := fun β j => ifF j 8 (pA6 (b32_8 call n (pF6 (pB 0 β))) K) <| noP
  lp := fun β j m => ifL j 8 (pC6 (l32_8 call n m) K) <| noP }
@[irreducible] noncomputable def A32 : AFun := (compFn Tryz.prog Tryz.f32).getD ⟨0, [], .skip⟩
noncomputable def w32 : Sh := shW 3 fun call n K => pA3 (s32 call n) K
theorem w32_ok {E : Env} (e : E.code 32 = some A32) (hp : E.prim 32 = none) : ShOK E 32 w32 := shW_ok (A := { pts := [(23, [0, 6, 7]), (29, [6, 7])], lps := [(8, [0, 6, 7, 12, 13, 14])] }) (S := T32) e hp (by kernel_rfl) (by kernel_rfl) (by kernel_rfl)

noncomputable def T33 (call : CallFn) (n : Nat) (K : Kont) : Sp := {
  pt := fun β j => ifF j 4001 (pA2 (p33_4001 call n) K) <| ifF j 6001 (pA4 (p33_6001 call n) K) <| noP
  fs := fun β j => noP
  rd := fun β j => noP
  lp := fun β j m => noP }
@[irreducible] noncomputable def A33 : AFun := (compFn Tryz.prog Tryz.f33).getD ⟨0, [], .skip⟩
noncomputable def w33 : Sh := shW 3 fun call n K => pA3 (s33 call n) K
theorem w33_ok {E : Env} (e : E.code 33 = some A33) (hp : E.prim 33 = none) : ShOK E 33 w33 := shW_ok (A := { pts := [], lps := [], cuts := [(3, [(3, 4001, [2, 10])]), (5, [(15, 6001, [15, 19, 23, 25])])] }) (S := T33) e hp (by kernel_rfl) (by kernel_rfl) (by kernel_rfl)

noncomputable def T34 (call : CallFn) (n : Nat) (K : Kont) : Sp := {
  pt := fun β j => ifF j 4001 (pA3 (p34_4001 call n) K) <| ifF j 4002 (pA4 (p34_4002 call n) K) <| noP
  fs := fun β j => noP
  rd := fun β j => noP
  lp := fun β j m => noP }
@[irreducible] noncomputable def A34 : AFun := (compFn Tryz.prog Tryz.f34).getD ⟨0, [], .skip⟩
noncomputable def w34 : Sh := shW 1 fun call n K => pA1 (s34 call n) K
theorem w34_ok {E : Env} (e : E.code 34 = some A34) (hp : E.prim 34 = none) : ShOK E 34 w34 := shW_ok (A := { pts := [], lps := [], cuts := [(3, [(3, 4001, [0, 3, 5]), (3, 4002, [0, 3, 6, 8])])] }) (S := T34) e hp (by kernel_rfl) (by kernel_rfl) (by kernel_rfl)

@[irreducible] noncomputable def A35 : AFun := (compFn Tryz.prog Tryz.f35).getD ⟨0, [], .skip⟩
noncomputable def w35 : Sh := shW 2 fun call n K => pA2 (s35 call n) K
theorem w35_ok {E : Env} (e : E.code 35 = some A35) (hp : E.prim 35 = none) : ShOK E 35 w35 := shW_ok (A := { pts := [], lps := [] }) (S := noS) e hp (by kernel_rfl) (by kernel_rfl) (by kernel_rfl)

noncomputable def T36 (call : CallFn) (n : Nat) (K : Kont) : Sp := {
  pt := fun β j => ifF j 4001 (pA1 (p36_4001 call n) K) <| ifF j 6001 (pA2 (p36_6001 call n) K) <| noP
  fs := fun β j => noP
  rd := fun β j => noP
  lp := fun β j m => noP }
@[irreducible] noncomputable def A36 : AFun := (compFn Tryz.prog Tryz.f36).getD ⟨0, [], .skip⟩
noncomputable def w36 : Sh := shW 2 fun call n K => pA2 (s36 call n) K
theorem w36_ok {E : Env} (e : E.code 36 = some A36) (hp : E.prim 36 = none) : ShOK E 36 w36 := shW_ok (A := { pts := [], lps := [], cuts := [(3, [(3, 4001, [8])]), (5, [(7, 6001, [12, 15])])] }) (S := T36) e hp (by kernel_rfl) (by kernel_rfl) (by kernel_rfl)

noncomputable def T37 (call : CallFn) (n : Nat) (K : Kont) : Sp := {
  pt := fun β j => ifF j 31 (pA2 (p37_31 call n) K) <| ifF j 4001 (pA3 (p37_4001 call n) K) <| ifF j 31001 (pA3 (p37_31001 call n) K) <| noP
  fs := fun β j => noP
  rd := fun β j => noP
  lp := fun β j m => noP }
@[irreducible] noncomputable def A37 : AFun := (compFn Tryz.prog Tryz.f37).getD ⟨0, [], .skip⟩
noncomputable def w37 : Sh := shW 1 fun call n K => pA1 (s37 call n) K
theorem w37_ok {E : Env} (e : E.code 37 = some A37) (hp : E.prim 37 = none) : ShOK E 37 w37 := shW_ok (A := { pts := [(31, [2, 3])], lps := [], cuts := [(3, [(2, 4001, [0, 2, 5])]), (30, [(2, 31001, [2, 3, 14])])] }) (S := T37) e hp (by kernel_rfl) (by kernel_rfl) (by kernel_rfl)

@[irreducible] noncomputable def A38 : AFun := (compFn Tryz.prog Tryz.f38).getD ⟨0, [], .skip⟩
noncomputable def w38 : Sh := shW 2 fun call n K => pA2 (s38 call n) K
theorem w38_ok {E : Env} (e : E.code 38 = some A38) (hp : E.prim 38 = none) : ShOK E 38 w38 := shW_ok (A := { pts := [], lps := [] }) (S := noS) e hp (by kernel_rfl) (by kernel_rfl) (by kernel_rfl)

noncomputable def T39 (call : CallFn) (n : Nat) (K : Kont) : Sp := {
  pt := fun β j => ifF j 4001 (pA3 (p39_4001 call n) K) <| noP
  fs := fun β j => noP
  rd := fun β j => noP
  lp := fun β j m => noP }
@[irreducible] noncomputable def A39 : AFun := (compFn Tryz.prog Tryz.f39).getD ⟨0, [], .skip⟩
noncomputable def w39 : Sh := shW 1 fun call n K => pA1 (s39 call n) K
theorem w39_ok {E : Env} (e : E.code 39 = some A39) (hp : E.prim 39 = none) : ShOK E 39 w39 := shW_ok (A := { pts := [], lps := [], cuts := [(3, [(3, 4001, [0, 3, 5])])] }) (S := T39) e hp (by kernel_rfl) (by kernel_rfl) (by kernel_rfl)

noncomputable def T40 (call : CallFn) (n : Nat) (K : Kont) : Sp := {
  pt := fun β j => ifF j 6001 (pA4 (p40_6001 call n) K) <| ifF j 8001 (pA3 (p40_8001 call n) K) <| ifF j 8002 (pA3 (p40_8002 call n) K) <| noP
  fs := fun β j => noP
  rd := fun β j => noP
  lp := fun β j m => noP }
@[irreducible] noncomputable def A40 : AFun := (compFn Tryz.prog Tryz.f40).getD ⟨0, [], .skip⟩
noncomputable def w40 : Sh := shW 1 fun call n K => pA1 (s40 call n) K
theorem w40_ok {E : Env} (e : E.code 40 = some A40) (hp : E.prim 40 = none) : ShOK E 40 w40 := shW_ok (A := { pts := [], lps := [], cuts := [(5, [(3, 6001, [0, 3, 8, 10])]), (7, [(2, 8001, [0, 3, 14]), (2, 8002, [0, 3, 16])])] }) (S := T40) e hp (by kernel_rfl) (by kernel_rfl) (by kernel_rfl)

noncomputable def T41 (call : CallFn) (n : Nat) (K : Kont) : Sp := {
  pt := fun β j => ifF j 30 (pA3 (p41_30 call n (pF3 (pB 0 β))) K) <| ifF j 31001 (pA4 (p41_31001 call n (pF3 (pB 0 β))) K) <| noP
  fs := fun β j => noP
  rd := fun β j => ifF j 5 (pA3 (b41_5 call n (pF3 (pB 0 β))) K) <| ifF j 11 (pA6 (b41_11 call n (pF3 (pB 1 β)) (pF6 (pB 0 β))) K) <| noP
  lp := fun β j m => ifL j 5 (pC3 (l41_5 call n m) K) <| ifL j 11 (pC6 (l41_11 call n (pF3 (pB 0 β)) m) K) <| noP }
@[irreducible] noncomputable def A41 : AFun := (compFn Tryz.prog Tryz.f41).getD ⟨0, [], .skip⟩
noncomputable def w41 : Sh := shW 2 fun call n K => pA2 (s41 call n) K
theorem w41_ok {E : Env} (e : E.code 41 = some A41) (hp : E.prim 41 = none) : ShOK E 41 w41 := shW_ok (A := { pts := [(30, [0, 1, 5])], lps := [(5, [0, 1, 5]), (11, [0, 1, 5, 8, 9, 10])], cuts := [(30, [(3, 31001, [0, 1, 19, 21])])] }) (S := T41) e hp (by kernel_rfl) (by kernel_rfl) (by kernel_rfl)

noncomputable def T42 (call : CallFn) (n : Nat) (K : Kont) : Sp := {
  pt := fun β j => ifF j 12 (pA4 (p42_12 call n) K) <| ifF j 21 (pA3 (p42_21 call n) K) <| ifF j 45 (pA3 (p42_45 call n) K) <| ifF j 18001 (pA4 (p42_18001 call n) K) <| ifF j 23001 (pA4 (p42_23001 call n) K) <| ifF j 24001 (pA4 (p42_24001 call n) K) <| ifF j 29001 (pA4 (p42_29001 call n) K) <| ifF j 30001 (pA4 (p42_30001 call n) K) <| ifF j 34001 (pA4 (p42_34001 call n) K) <| ifF j 38001 (pA4 (p42_38001 call n) K) <| ifF j 42001 (pA4 (p42_42001 call n) K) <| noP
  fs := fun β j => noP
  rd := fun β j => noP
  lp := fun β j m => noP }
@[irreducible] noncomputable def A42 : AFun := (compFn Tryz.prog Tryz.f42).getD ⟨0, [], .skip⟩
noncomputable def w42 : Sh := shW 1 fun call n K => pA1 (s42 call n) K
theorem w42_ok {E : Env} (e : E.code 42 = some A42) (hp : E.prim 42 = none) : ShOK E 42 w42 := shW_ok (A := { pts := [(12, [0, 2, 3, 8]), (21, [0, 2, 3]), (45, [0, 2, 3])], lps := [], cuts := [(17, [(2, 18001, [0, 2, 3, 15])]), (22, [(2, 23001, [0, 2, 3, 19])]), (23, [(2, 24001, [0, 2, 3, 22])]), (28, [(2, 29001, [0, 2, 3, 28])]), (29, [(2, 30001, [0, 2, 3, 32])]), (33, [(2, 34001, [0, 2, 3, 38])]), (37, [(2, 38001, [0, 2, 3, 45])]), (41, [(2, 42001, [0, 2, 3, 52])])] }) (S := T42) e hp (by kernel_rfl) (by kernel_rfl) (by kernel_rfl)

noncomputable def T43 (call : CallFn) (n : Nat) (K : Kont) : Sp := {
  pt := fun β j => ifF j 15 (pA2 (p43_15 call n) K) <| ifF j 8001 (pA6 (p43_8001 call n (pF4 (pB 0 β))) K) <| ifF j 8002 (pA6 (p43_8002 call n (pF4 (pB 0 β))) K) <| noP
  fs := fun β j => noP
  rd := fun β j => ifF j 4 (pA4 (b43_4 call n (pF4 (pB 0 β))) K) <| noP
  lp := fun β j m => ifL j 4 (pC4 (l43_4 call n m) K) <| noP }
@[irreducible] noncomputable def A43 : AFun := (compFn Tryz.prog Tryz.f43).getD ⟨0, [], .skip⟩
noncomputable def w43 : Sh := shW 3 fun call n K => pA3 (s43 call n) K
theorem w43_ok {E : Env} (e : E.code 43 = some A43) (hp : E.prim 43 = none) : ShOK E 43 w43 := shW_ok (A := { pts := [(15, [0, 1])], lps := [(4, [0, 1, 2, 6])], cuts := [(7, [(5, 8001, [0, 1, 2, 6, 8, 11]), (8, 8002, [0, 1, 2, 14, 17, 19])])] }) (S := T43) e hp (by kernel_rfl) (by kernel_rfl) (by kernel_rfl)

@[irreducible] noncomputable def A44 : AFun := (compFn Tryz.prog Tryz.f44).getD ⟨0, [], .skip⟩
noncomputable def w44 : Sh := shW 2 fun call n K => pA2 (s44 call n) K
theorem w44_ok {E : Env} (e : E.code 44 = some A44) (hp : E.prim 44 = none) : ShOK E 44 w44 := shW_ok (A := { pts := [], lps := [] }) (S := noS) e hp (by kernel_rfl) (by kernel_rfl) (by kernel_rfl)

noncomputable def T45 (call : CallFn) (n : Nat) (K : Kont) : Sp := {
  pt := fun β j => ifF j 4001 (pA3 (p45_4001 call n) K) <| ifF j 4002 (pA4 (p45_4002 call n) K) <| noP
  fs := fun β j => noP
  rd := fun β j => noP
  lp := fun β j m => noP }
@[irreducible] noncomputable def A45 : AFun := (compFn Tryz.prog Tryz.f45).getD ⟨0, [], .skip⟩
noncomputable def w45 : Sh := shW 1 fun call n K => pA1 (s45 call n) K
theorem w45_ok {E : Env} (e : E.code 45 = some A45) (hp : E.prim 45 = none) : ShOK E 45 w45 := shW_ok (A := { pts := [], lps := [], cuts := [(3, [(3, 4001, [0, 3, 5]), (3, 4002, [0, 3, 6, 8])])] }) (S := T45) e hp (by kernel_rfl) (by kernel_rfl) (by kernel_rfl)

@[irreducible] noncomputable def A46 : AFun := (compFn Tryz.prog Tryz.f46).getD ⟨0, [], .skip⟩
noncomputable def w46 : Sh := shW 1 fun call n K => pA1 (s46 call n) K
theorem w46_ok {E : Env} (e : E.code 46 = some A46) (hp : E.prim 46 = none) : ShOK E 46 w46 := shW_ok (A := { pts := [], lps := [] }) (S := noS) e hp (by kernel_rfl) (by kernel_rfl) (by kernel_rfl)

@[irreducible] noncomputable def A47 : AFun := (compFn Tryz.prog Tryz.f47).getD ⟨0, [], .skip⟩
noncomputable def w47 : Sh := shW 1 fun call n K => pA1 (s47 call n) K
theorem w47_ok {E : Env} (e : E.code 47 = some A47) (hp : E.prim 47 = none) : ShOK E 47 w47 := shW_ok (A := { pts := [], lps := [] }) (S := noS) e hp (by kernel_rfl) (by kernel_rfl) (by kernel_rfl)

noncomputable def T48 (call : CallFn) (n : Nat) (K : Kont) : Sp := {
  pt := fun β j => ifF j 4001 (pA3 (p48_4001 call n) K) <| ifF j 12001 (pA5 (p48_12001 call n (pF3 (pB 0 β))) K) <| noP
  fs := fun β j => noP
  rd := fun β j => ifF j 5 (pA3 (b48_5 call n (pF3 (pB 0 β))) K) <| noP
  lp := fun β j m => ifL j 5 (pC3 (l48_5 call n m) K) <| noP }
@[irreducible] noncomputable def A48 : AFun := (compFn Tryz.prog Tryz.f48).getD ⟨0, [], .skip⟩
noncomputable def w48 : Sh := shW 1 fun call n K => pA1 (s48 call n) K
theorem w48_ok {E : Env} (e : E.code 48 = some A48) (hp : E.prim 48 = none) : ShOK E 48 w48 := shW_ok (A := { pts := [], lps := [(5, [0, 2, 3])], cuts := [(3, [(2, 4001, [0, 2, 6])]), (11, [(2, 12001, [0, 2, 3, 4, 10])])] }) (S := T48) e hp (by kernel_rfl) (by kernel_rfl) (by kernel_rfl)

@[irreducible] noncomputable def A49 : AFun := (compFn Tryz.prog Tryz.f49).getD ⟨0, [], .skip⟩
noncomputable def w49 : Sh := shW 2 fun call n K => pA2 (s49 call n) K
theorem w49_ok {E : Env} (e : E.code 49 = some A49) (hp : E.prim 49 = none) : ShOK E 49 w49 := shW_ok (A := { pts := [], lps := [] }) (S := noS) e hp (by kernel_rfl) (by kernel_rfl) (by kernel_rfl)

noncomputable def T50 (call : CallFn) (n : Nat) (K : Kont) : Sp := {
  pt := fun β j => ifF j 156 (pA1 (p50_156 call n) K) <| noP
  fs := fun β j => noP
  rd := fun β j => noP
  lp := fun β j m => noP }
@[irreducible] noncomputable def A50 : AFun := (compFn Tryz.prog Tryz.f50).getD ⟨0, [], .skip⟩
noncomputable def w50 : Sh := shW 1 fun call n K => pA1 (s50 call n) K
theorem w50_ok {E : Env} (e : E.code 50 = some A50) (hp : E.prim 50 = none) : ShOK E 50 w50 := shW_ok (A := { pts := [(156, [4])], lps := [] }) (S := T50) e hp (by kernel_rfl) (by kernel_rfl) (by kernel_rfl)

@[irreducible] noncomputable def A51 : AFun := (compFn Tryz.prog Tryz.f51).getD ⟨0, [], .skip⟩
noncomputable def w51 : Sh := shW 1 fun call n K => pA1 (s51 call n) K
theorem w51_ok {E : Env} (e : E.code 51 = some A51) (hp : E.prim 51 = none) : ShOK E 51 w51 := shW_ok (A := { pts := [], lps := [] }) (S := noS) e hp (by kernel_rfl) (by kernel_rfl) (by kernel_rfl)

noncomputable def T52 (call : CallFn) (n : Nat) (K : Kont) : Sp := {
  pt := fun β j => ifF j 4001 (pA2 (p52_4001 call n) K) <| noP
  fs := fun β j => noP
  rd := fun β j => noP
  lp := fun β j m => noP }
@[irreducible] noncomputable def A52 : AFun := (compFn Tryz.prog Tryz.f52).getD ⟨0, [], .skip⟩
noncomputable def w52 : Sh := shW 2 fun call n K => pA2 (s52 call n) K
theorem w52_ok {E : Env} (e : E.code 52 = some A52) (hp : E.prim 52 = none) : ShOK E 52 w52 := shW_ok (A := { pts := [], lps := [], cuts := [(3, [(2, 4001, [1, 6])])] }) (S := T52) e hp (by kernel_rfl) (by kernel_rfl) (by kernel_rfl)

noncomputable def T54 (call : CallFn) (n : Nat) (K : Kont) : Sp := {
  pt := fun β j => ifF j 9001 (pA2 (p54_9001 call n) K) <| ifF j 15001 (pA2 (p54_15001 call n) K) <| ifF j 23001 (pA3 (p54_23001 call n) K) <| ifF j 27001 (pA4 (p54_27001 call n) K) <| ifF j 37001 (pA2 (p54_37001 call n) K) <| ifF j 45001 (pA3 (p54_45001 call n) K) <| ifF j 55001 (pA2 (p54_55001 call n) K) <| ifF j 61001 (pA2 (p54_61001 call n) K) <| ifF j 64001 (pA3 (p54_64001 call n) K) <| ifF j 64002 (pA4 (p54_64002 call n) K) <| ifF j 67001 (pA3 (p54_67001 call n) K) <| ifF j 71001 (pA3 (p54_71001 call n) K) <| ifF j 77001 (pA2 (p54_77001 call n) K) <| noP
  fs := fun β j => noP
  rd := fun β j => noP
  lp := fun β j m => noP }
@[irreducible] noncomputable def A54 : AFun := (compFn Tryz.prog Tryz.f54).getD ⟨0, [], .skip⟩
noncomputable def w54 : Sh := shW 1 fun call n K => pA1 (s54 call n) K
theorem w54_ok {E : Env} (e : E.code 54 = some A54) (hp : E.prim 54 = none) : ShOK E 54 w54 := shW_ok (A := { pts := [], lps := [], cuts := [(8, [(2, 9001, [2, 10])]), (14, [(2, 15001, [2, 16])]), (22, [(3, 23001, [0, 2, 25])]), (26, [(3, 27001, [0, 2, 3, 32])]), (36, [(2, 37001, [2, 41])]), (44, [(2, 45001, [0, 2, 48])]), (54, [(2, 55001, [2, 57])]), (60, [(2, 61001, [2, 62])]), (63, [(2, 64001, [0, 2, 65]), (3, 64002, [0, 2, 66, 68])]), (66, [(2, 67001, [0, 2, 72])]), (70, [(2, 71001, [2, 5, 78])]), (76, [(2, 77001, [2, 82])])] }) (S := T54) e hp (by kernel_rfl) (by kernel_rfl) (by kernel_rfl)

noncomputable def T55 (call : CallFn) (n : Nat) (K : Kont) : Sp := {
  pt := fun β j => ifF j 12 (pA2 (p55_12 call n) K) <| noP
  fs := fun β j => noP
  rd := fun β j => noP
  lp := fun β j m => noP }
@[irreducible] noncomputable def A55 : AFun := (compFn Tryz.prog Tryz.f55).getD ⟨0, [], .skip⟩
noncomputable def w55 : Sh := shW 2 fun call n K => pA2 (s55 call n) K
theorem w55_ok {E : Env} (e : E.code 55 = some A55) (hp : E.prim 55 = none) : ShOK E 55 w55 := shW_ok (A := { pts := [(12, [2, 5])], lps := [] }) (S := T55) e hp (by kernel_rfl) (by kernel_rfl) (by kernel_rfl)

noncomputable def T56 (call : CallFn) (n : Nat) (K : Kont) : Sp := {
  pt := fun β j => ifF j 13001 (pA3 (p56_13001 call n (pF2 (pB 0 β))) K) <| ifF j 27001 (pA3 (p56_27001 call n (pF2 (pB 0 β))) K) <| noP
  fs := fun β j => noP
  rd := fun β j => ifF j 1 (pA2 (b56_1 call n (pF2 (pB 0 β))) K) <| noP
  lp := fun β j m => ifL j 1 (pC2 (l56_1 call n m) K) <| noP }
@[irreducible] noncomputable def A56 : AFun := (compFn Tryz.prog Tryz.f56).getD ⟨0, [], .skip⟩
noncomputable def w56 : Sh := shW 2 fun call n K => pA2 (s56 call n) K
theorem w56_ok {E : Env} (e : E.code 56 = some A56) (hp : E.prim 56 = none) : ShOK E 56 w56 := shW_ok (A := { pts := [], lps := [(1, [0, 1])], cuts := [(12, [(2, 13001, [0, 1, 19])]), (26, [(3, 27001, [0, 1, 49])])] }) (S := T56) e hp (by kernel_rfl) (by kernel_rfl) (by kernel_rfl)

noncomputable def T57 (call : CallFn) (n : Nat) (K : Kont) : Sp := {
  pt := fun β j => ifF j 23 (pA2 (p57_23 call n (pF1 (pB 0 β))) K) <| ifF j 49 (pA2 (p57_49 call n (pF1 (pB 0 β))) K) <| ifF j 14001 (pA3 (p57_14001 call n (pF1 (pB 0 β))) K) <| ifF j 40001 (pA3 (p57_40001 call n (pF1 (pB 0 β))) K) <| noP
  fs := fun β j => ifF j 0 (pA1 (f57_0 call n (pF1 (pB 0 β))) K) <| noP
  rd := fun β j => ifF j 0 (pA1 (j57_0 call n (pF1 (pB 0 β))) K) <| noP
  lp := fun β j m => ifL j 0 (pC1 (g57_0 call n m) K) <| noP }
@[irreducible] noncomputable def A57 : AFun := (compFn Tryz.prog Tryz.f57).getD ⟨0, [], .skip⟩
noncomputable def w57 : Sh := shW 1 fun call n K => pA1 (s57 call n) K
theorem w57_ok {E : Env} (e : E.code 57 = some A57) (hp : E.prim 57 = none) : ShOK E 57 w57 := shW_ok (A := { pts := [(23, [0, 3]), (49, [0, 3])], lps := [(0, [0])], scs := [(0, [0])], cuts := [(13, [(5, 14001, [0, 31, 33])]), (39, [(5, 40001, [0, 31, 33])])] }) (S := T57) e hp (by kernel_rfl) (by kernel_rfl) (by kernel_rfl)

noncomputable def T58 (call : CallFn) (n : Nat) (K : Kont) : Sp := {
  pt := fun β j => ifF j 15001 (pA3 (p58_15001 call n) K) <| ifF j 27001 (pA3 (p58_27001 call n) K) <| ifF j 39001 (pA3 (p58_39001 call n) K) <| ifF j 45001 (pA2 (p58_45001 call n) K) <| ifF j 53001 (pA3 (p58_53001 call n) K) <| noP
  fs := fun β j => noP
  rd := fun β j => noP
  lp := fun β j m => noP }
@[irreducible] noncomputable def A58 : AFun := (compFn Tryz.prog Tryz.f58).getD ⟨0, [], .skip⟩
noncomputable def w58 : Sh := shW 1 fun call n K => pA1 (s58 call n) K
theorem w58_ok {E : Env} (e : E.code 58 = some A58) (hp : E.prim 58 = none) : ShOK E 58 w58 := shW_ok (A := { pts := [], lps := [], cuts := [(14, [(3, 15001, [2, 3, 18])]), (26, [(3, 27001, [2, 3, 30])]), (38, [(3, 39001, [2, 3, 42])]), (44, [(2, 45001, [2, 50])]), (52, [(3, 53001, [2, 3, 60])])] }) (S := T58) e hp (by kernel_rfl) (by kernel_rfl) (by kernel_rfl)

noncomputable def T59 (call : CallFn) (n : Nat) (K : Kont) : Sp := {
  pt := fun β j => ifF j 30 (pA5 (p59_30 call n) K) <| ifF j 11001 (pA3 (p59_11001 call n) K) <| ifF j 17001 (pA2 (p59_17001 call n) K) <| ifF j 23001 (pA2 (p59_23001 call n) K) <| ifF j 23002 (pA2 (p59_23002 call n) K) <| ifF j 33001 (pA2 (p59_33001 call n) K) <| ifF j 39001 (pA2 (p59_39001 call n) K) <| ifF j 45001 (pA2 (p59_45001 call n) K) <| ifF j 53001 (pA3 (p59_53001 call n) K) <| ifF j 69001 (pA2 (p59_69001 call n) K) <| ifF j 77001 (pA4 (p59_77001 call n) K) <| ifF j 81001 (pA2 (p59_81001 call n) K) <| ifF j 89001 (pA4 (p59_89001 call n) K) <| ifF j 93001 (pA5 (p59_93001 call n) K) <| ifF j 97001 (pA2 (p59_97001 call n) K) <| ifF j 101001 (pA2 (p59_101001 call n) K) <| noP
  fs := fun β j => noP
  rd := fun β j => noP
  lp := fun β j m => noP }
@[irreducible] noncomputable def A59 : AFun := (compFn Tryz.prog Tryz.f59).getD ⟨0, [], .skip⟩
noncomputable def w59 : Sh := shW 1 fun call n K => pA1 (s59 call n) K
theorem w59_ok {E : Env} (e : E.code 59 = some A59) (hp : E.prim 59 = none) : ShOK E 59 w59 := shW_ok (A := { pts := [(30, [1, 2, 3, 4, 48])], lps := [], cuts := [(10, [(3, 11001, [1, 2, 23])]), (16, [(3, 17001, [2, 39])]), (22, [(2, 23001, [2, 45]), (2, 23002, [2, 47])]), (32, [(5, 33001, [2, 57])]), (38, [(2, 39001, [2, 62])]), (44, [(2, 45001, [2, 68])]), (52, [(2, 53001, [1, 2, 77])]), (68, [(4, 69001, [2, 92])]), (76, [(2, 77001, [1, 2, 3, 99])]), (80, [(5, 81001, [2, 106])]), (88, [(2, 89001, [1, 2, 3, 113])]), (92, [(2, 93001, [1, 2, 3, 10, 118])]), (96, [(6, 97001, [2, 126])]), (100, [(2, 101001, [2, 128])])] }) (S := T59) e hp (by kernel_rfl) (by kernel_rfl) (by kernel_rfl)

@[irreducible] noncomputable def A62 : AFun := (compFn Tryz.prog Tryz.f62).getD ⟨0, [], .skip⟩
noncomputable def w62 : Sh := shW 1 fun call n K => pA1 (s62 call n) K
theorem w62_ok {E : Env} (e : E.code 62 = some A62) (hp : E.prim 62 = none) : ShOK E 62 w62 := shW_ok (A := { pts := [], lps := [] }) (S := noS) e hp (by kernel_rfl) (by kernel_rfl) (by kernel_rfl)

noncomputable def T63 (call : CallFn) (n : Nat) (K : Kont) : Sp := {
  pt := fun β j => ifF j 4001 (pA3 (p63_4001 call n) K) <| noP
  fs := fun β j => noP
  rd := fun β j => noP
  lp := fun β j m => noP }
@[irreducible] noncomputable def A63 : AFun := (compFn Tryz.prog Tryz.f63).getD ⟨0, [], .skip⟩
noncomputable def w63 : Sh := shW 2 fun call n K => pA2 (s63 call n) K
theorem w63_ok {E : Env} (e : E.code 63 = some A63) (hp : E.prim 63 = none) : ShOK E 63 w63 := shW_ok (A := { pts := [], lps := [], cuts := [(3, [(2, 4001, [0, 1, 7])])] }) (S := T63) e hp (by kernel_rfl) (by kernel_rfl) (by kernel_rfl)

noncomputable def T64 (call : CallFn) (n : Nat) (K : Kont) : Sp := {
  pt := fun β j => ifF j 25 (pA3 (p64_25 call n) K) <| noP
  fs := fun β j => noP
  rd := fun β j => ifF j 14 (pA4 (b64_14 call n (pF4 (pB 0 β))) K) <| noP
  lp := fun β j m => ifL j 14 (pC4 (l64_14 call n m) K) <| noP }
@[irreducible] noncomputable def A64 : AFun := (compFn Tryz.prog Tryz.f64).getD ⟨0, [], .skip⟩
noncomputable def w64 : Sh := shW 1 fun call n K => pA1 (s64 call n) K
theorem w64_ok {E : Env} (e : E.code 64 = some A64) (hp : E.prim 64 = none) : ShOK E 64 w64 := shW_ok (A := { pts := [(25, [0, 2, 3])], lps := [(14, [0, 2, 3, 4])] }) (S := T64) e hp (by kernel_rfl) (by kernel_rfl) (by kernel_rfl)

noncomputable def T65 (call : CallFn) (n : Nat) (K : Kont) : Sp := {
  pt := fun β j => ifF j 14 (pA3 (p65_14 call n) K) <| ifF j 6001 (pA3 (p65_6001 call n) K) <| ifF j 14001 (pA4 (p65_14001 call n) K) <| ifF j 18001 (pA4 (p65_18001 call n) K) <| ifF j 24001 (pA4 (p65_24001 call n) K) <| noP
  fs := fun β j => noP
  rd := fun β j => noP
  lp := fun β j m => noP }
@[irreducible] noncomputable def A65 : AFun := (compFn Tryz.prog Tryz.f65).getD ⟨0, [], .skip⟩
noncomputable def w65 : Sh := shW 1 fun call n K => pA1 (s65 call n) K
theorem w65_ok {E : Env} (e : E.code 65 = some A65) (hp : E.prim 65 = none) : ShOK E 65 w65 := shW_ok (A := { pts := [(14, [0, 2, 3])], lps := [], cuts := [(5, [(2, 6001, [0, 2, 7])]), (13, [(2, 14001, [0, 2, 3, 16])]), (17, [(2, 18001, [0, 2, 3, 21])]), (23, [(3, 24001, [0, 2, 3, 30])])] }) (S := T65) e hp (by kernel_rfl) (by kernel_rfl) (by kernel_rfl)

noncomputable def T66 (call : CallFn) (n : Nat) (K : Kont) : Sp := {
  pt := fun β j => ifF j 4001 (pA3 (p66_4001 call n) K) <| noP
  fs := fun β j => noP
  rd := fun β j => noP
  lp := fun β j m => noP }
@[irreducible] noncomputable def A66 : AFun := (compFn Tryz.prog Tryz.f66).getD ⟨0, [], .skip⟩
noncomputable def w66 : Sh := shW 1 fun call n K => pA1 (s66 call n) K
theorem w66_ok {E : Env} (e : E.code 66 = some A66) (hp : E.prim 66 = none) : ShOK E 66 w66 := shW_ok (A := { pts := [], lps := [], cuts := [(3, [(2, 4001, [1, 2, 5])])] }) (S := T66) e hp (by kernel_rfl) (by kernel_rfl) (by kernel_rfl)

noncomputable def T67 (call : CallFn) (n : Nat) (K : Kont) : Sp := {
  pt := fun β j => ifF j 12 (pA3 (p67_12 call n) K) <| ifF j 10001 (pA4 (p67_10001 call n) K) <| ifF j 14001 (pA4 (p67_14001 call n) K) <| noP
  fs := fun β j => noP
  rd := fun β j => noP
  lp := fun β j m => noP }
@[irreducible] noncomputable def A67 : AFun := (compFn Tryz.prog Tryz.f67).getD ⟨0, [], .skip⟩
noncomputable def w67 : Sh := shW 1 fun call n K => pA1 (s67 call n) K
theorem w67_ok {E : Env} (e : E.code 67 = some A67) (hp : E.prim 67 = none) : ShOK E 67 w67 := shW_ok (A := { pts := [(12, [1, 2, 3])], lps := [], cuts := [(9, [(2, 10001, [1, 2, 3, 8])]), (13, [(2, 14001, [1, 2, 3, 14])])] }) (S := T67) e hp (by kernel_rfl) (by kernel_rfl) (by kernel_rfl)

noncomputable def T68 (call : CallFn) (n : Nat) (K : Kont) : Sp := {
  pt := fun β j => ifF j 2001 (pA3 (p68_2001 call n) K) <| ifF j 6001 (pA3 (p68_6001 call n) K) <| noP
  fs := fun β j => noP
  rd := fun β j => noP
  lp := fun β j m => noP }
@[irreducible] noncomputable def A68 : AFun := (compFn Tryz.prog Tryz.f68).getD ⟨0, [], .skip⟩
noncomputable def w68 : Sh := shW 2 fun call n K => pA2 (s68 call n) K
theorem w68_ok {E : Env} (e : E.code 68 = some A68) (hp : E.prim 68 = none) : ShOK E 68 w68 := shW_ok (A := { pts := [], lps := [], cuts := [(1, [(2, 2001, [0, 1, 4])]), (5, [(2, 6001, [1, 2, 10])])] }) (S := T68) e hp (by kernel_rfl) (by kernel_rfl) (by kernel_rfl)

@[irreducible] noncomputable def A69 : AFun := (compFn Tryz.prog Tryz.f69).getD ⟨0, [], .skip⟩
noncomputable def w69 : Sh := shW 2 fun call n K => pA2 (s69 call n) K
theorem w69_ok {E : Env} (e : E.code 69 = some A69) (hp : E.prim 69 = none) : ShOK E 69 w69 := shW_ok (A := { pts := [], lps := [] }) (S := noS) e hp (by kernel_rfl) (by kernel_rfl) (by kernel_rfl)

@[irreducible] noncomputable def A70 : AFun := (compFn Tryz.prog Tryz.f70).getD ⟨0, [], .skip⟩
noncomputable def w70 : Sh := shW 2 fun call n K => pA2 (s70 call n) K
theorem w70_ok {E : Env} (e : E.code 70 = some A70) (hp : E.prim 70 = none) : ShOK E 70 w70 := shW_ok (A := { pts := [], lps := [] }) (S := noS) e hp (by kernel_rfl) (by kernel_rfl) (by kernel_rfl)

@[irreducible] noncomputable def A71 : AFun := (compFn Tryz.prog Tryz.f71).getD ⟨0, [], .skip⟩
noncomputable def w71 : Sh := shW 3 fun call n K => pA3 (s71 call n) K
theorem w71_ok {E : Env} (e : E.code 71 = some A71) (hp : E.prim 71 = none) : ShOK E 71 w71 := shW_ok (A := { pts := [], lps := [] }) (S := noS) e hp (by kernel_rfl) (by kernel_rfl) (by kernel_rfl)

@[irreducible] noncomputable def A72 : AFun := (compFn Tryz.prog Tryz.f72).getD ⟨0, [], .skip⟩
noncomputable def w72 : Sh := shW 1 fun call n K => pA1 (s72 call n) K
theorem w72_ok {E : Env} (e : E.code 72 = some A72) (hp : E.prim 72 = none) : ShOK E 72 w72 := shW_ok (A := { pts := [], lps := [] }) (S := noS) e hp (by kernel_rfl) (by kernel_rfl) (by kernel_rfl)

noncomputable def T73 (call : CallFn) (n : Nat) (K : Kont) : Sp := {
  pt := fun β j => ifF j 5001 (pA3 (p73_5001 call n) K) <| ifF j 5002 (pA3 (p73_5002 call n) K) <| noP
  fs := fun β j => noP
  rd := fun β j => noP
  lp := fun β j m => noP }
@[irreducible] noncomputable def A73 : AFun := (compFn Tryz.prog Tryz.f73).getD ⟨0, [], .skip⟩
noncomputable def w73 : Sh := shW 2 fun call n K => pA2 (s73 call n) K
theorem w73_ok {E : Env} (e : E.code 73 = some A73) (hp : E.prim 73 = none) : ShOK E 73 w73 := shW_ok (A := { pts := [], lps := [], cuts := [(4, [(3, 5001, [0, 1, 7]), (1, 5002, [0, 1, 8])])] }) (S := T73) e hp (by kernel_rfl) (by kernel_rfl) (by kernel_rfl)

@[irreducible] noncomputable def A74 : AFun := (compFn Tryz.prog Tryz.f74).getD ⟨0, [], .skip⟩
noncomputable def w74 : Sh := shW 1 fun call n K => pA1 (s74 call n) K
theorem w74_ok {E : Env} (e : E.code 74 = some A74) (hp : E.prim 74 = none) : ShOK E 74 w74 := shW_ok (A := { pts := [], lps := [] }) (S := noS) e hp (by kernel_rfl) (by kernel_rfl) (by kernel_rfl)

noncomputable def T75 (call : CallFn) (n : Nat) (K : Kont) : Sp := {
  pt := fun β j => noP
  fs := fun β j => noP
  rd := fun β j => ifF j 6 (pA4 (b75_6 call n (pF4 (pB 0 β))) K) <| noP
  lp := fun β j m => ifL j 6 (pC4 (l75_6 call n m) K) <| noP }
@[irreducible] noncomputable def A75 : AFun := (compFn Tryz.prog Tryz.f75).getD ⟨0, [], .skip⟩
noncomputable def w75 : Sh := shW 3 fun call n K => pA3 (s75 call n) K
theorem w75_ok {E : Env} (e : E.code 75 = some A75) (hp : E.prim 75 = none) : ShOK E 75 w75 := shW_ok (A := { pts := [], lps := [(6, [0, 1, 2, 7])] }) (S := T75) e hp (by kernel_rfl) (by kernel_rfl) (by kernel_rfl)

noncomputable def T76 (call : CallFn) (n : Nat) (K : Kont) : Sp := {
  pt := fun β j => ifF j 49 (pA3 (p76_49 call n (pF3 (pB 0 β))) K) <| ifF j 25001 (pA2 (p76_25001 call n (pF3 (pB 0 β))) K) <| ifF j 33001 (pA4 (p76_33001 call n (pF3 (pB 0 β))) K) <| noP
  fs := fun β j => noP
  rd := fun β j => ifF j 8 (pA3 (b76_8 call n (pF3 (pB 0 β))) K) <| noP
  lp := fun β j m => ifL j 8 (pC3 (l76_8 call n m) K) <| noP }
@[irreducible] noncomputable def A76 : AFun := (compFn Tryz.prog Tryz.f76).getD ⟨0, [], .skip⟩
noncomputable def w76 : Sh := shW 1 fun call n K => pA1 (s76 call n) K
theorem w76_ok {E : Env} (e : E.code 76 = some A76) (hp : E.prim 76 = none) : ShOK E 76 w76 := shW_ok (A := { pts := [(49, [0, 4, 5])], lps := [(8, [0, 4, 5])], cuts := [(24, [(1, 25001, [5, 30])]), (32, [(3, 33001, [0, 4, 5, 40])])] }) (S := T76) e hp (by kernel_rfl) (by kernel_rfl) (by kernel_rfl)

noncomputable def T77 (call : CallFn) (n : Nat) (K : Kont) : Sp := {
  pt := fun β j => ifF j 25 (pA1 (p77_25 call n) K) <| noP
  fs := fun β j => noP
  rd := fun β j => ifF j 6 (pA4 (b77_6 call n (pF4 (pB 0 β))) K) <| noP
  lp := fun β j m => ifL j 6 (pC4 (l77_6 call n m) K) <| noP }
@[irreducible] noncomputable def A77 : AFun := (compFn Tryz.prog Tryz.f77).getD ⟨0, [], .skip⟩
noncomputable def w77 : Sh := shW 1 fun call n K => pA1 (s77 call n) K
theorem w77_ok {E : Env} (e : E.code 77 = some A77) (hp : E.prim 77 = none) : ShOK E 77 w77 := shW_ok (A := { pts := [(25, [0])], lps := [(6, [0, 5, 6, 7])] }) (S := T77) e hp (by kernel_rfl) (by kernel_rfl) (by kernel_rfl)

@[irreducible] noncomputable def A78 : AFun := (compFn Tryz.prog Tryz.f78).getD ⟨0, [], .skip⟩
noncomputable def w78 : Sh := shW 1 fun call n K => pA1 (s78 call n) K
theorem w78_ok {E : Env} (e : E.code 78 = some A78) (hp : E.prim 78 = none) : ShOK E 78 w78 := shW_ok (A := { pts := [], lps := [] }) (S := noS) e hp (by kernel_rfl) (by kernel_rfl) (by kernel_rfl)

@[irreducible] noncomputable def A79 : AFun := (compFn Tryz.prog Tryz.f79).getD ⟨0, [], .skip⟩
noncomputable def w79 : Sh := shW 2 fun call n K => pA2 (s79 call n) K
theorem w79_ok {E : Env} (e : E.code 79 = some A79) (hp : E.prim 79 = none) : ShOK E 79 w79 := shW_ok (A := { pts := [], lps := [] }) (S := noS) e hp (by kernel_rfl) (by kernel_rfl) (by kernel_rfl)

noncomputable def T85 (call : CallFn) (n : Nat) (K : Kont) : Sp := {
  pt := fun β j => ifF j 2001 (pA3 (p85_2001 call n) K) <| ifF j 2002 (pA4 (p85_2002 call n) K) <| noP
  fs := fun β j => noP
  rd := fun β j => noP
  lp := fun β j m => noP }
@[irreducible] noncomputable def A85 : AFun := (compFn Tryz.prog Tryz.f85).getD ⟨0, [], .skip⟩
noncomputable def w85 : Sh := shW 2 fun call n K => pA2 (s85 call n) K
theorem w85_ok {E : Env} (e : E.code 85 = some A85) (hp : E.prim 85 = none) : ShOK E 85 w85 := shW_ok (A := { pts := [], lps := [], cuts := [(1, [(2, 2001, [0, 1, 3]), (3, 2002, [0, 1, 4, 6])])] }) (S := T85) e hp (by kernel_rfl) (by kernel_rfl) (by kernel_rfl)

noncomputable def T86 (call : CallFn) (n : Nat) (K : Kont) : Sp := {
  pt := fun β j => ifF j 2001 (pA3 (p86_2001 call n) K) <| ifF j 2002 (pA4 (p86_2002 call n) K) <| noP
  fs := fun β j => noP
  rd := fun β j => noP
  lp := fun β j m => noP }
@[irreducible] noncomputable def A86 : AFun := (compFn Tryz.prog Tryz.f86).getD ⟨0, [], .skip⟩
noncomputable def w86 : Sh := shW 2 fun call n K => pA2 (s86 call n) K
theorem w86_ok {E : Env} (e : E.code 86 = some A86) (hp : E.prim 86 = none) : ShOK E 86 w86 := shW_ok (A := { pts := [], lps := [], cuts := [(1, [(2, 2001, [0, 1, 4]), (3, 2002, [0, 1, 5, 7])])] }) (S := T86) e hp (by kernel_rfl) (by kernel_rfl) (by kernel_rfl)

@[irreducible] noncomputable def A87 : AFun := (compFn Tryz.prog Tryz.f87).getD ⟨0, [], .skip⟩
noncomputable def w87 : Sh := shW 2 fun call n K => pA2 (s87 call n) K
theorem w87_ok {E : Env} (e : E.code 87 = some A87) (hp : E.prim 87 = none) : ShOK E 87 w87 := shW_ok (A := { pts := [], lps := [] }) (S := noS) e hp (by kernel_rfl) (by kernel_rfl) (by kernel_rfl)

noncomputable def T88 (call : CallFn) (n : Nat) (K : Kont) : Sp := {
  pt := fun β j => ifF j 4001 (pA2 (p88_4001 call n) K) <| ifF j 4002 (pA3 (p88_4002 call n) K) <| noP
  fs := fun β j => noP
  rd := fun β j => noP
  lp := fun β j m => noP }
@[irreducible] noncomputable def A88 : AFun := (compFn Tryz.prog Tryz.f88).getD ⟨0, [], .skip⟩
noncomputable def w88 : Sh := shW 1 fun call n K => pA1 (s88 call n) K
theorem w88_ok {E : Env} (e : E.code 88 = some A88) (hp : E.prim 88 = none) : ShOK E 88 w88 := shW_ok (A := { pts := [], lps := [], cuts := [(3, [(2, 4001, [0, 4]), (3, 4002, [0, 5, 7])])] }) (S := T88) e hp (by kernel_rfl) (by kernel_rfl) (by kernel_rfl)

@[irreducible] noncomputable def A89 : AFun := (compFn Tryz.prog Tryz.f89).getD ⟨0, [], .skip⟩
noncomputable def w89 : Sh := shW 1 fun call n K => pA1 (s89 call n) K
theorem w89_ok {E : Env} (e : E.code 89 = some A89) (hp : E.prim 89 = none) : ShOK E 89 w89 := shW_ok (A := { pts := [], lps := [] }) (S := noS) e hp (by kernel_rfl) (by kernel_rfl) (by kernel_rfl)

@[irreducible] noncomputable def A90 : AFun := (compFn Tryz.prog Tryz.f90).getD ⟨0, [], .skip⟩
noncomputable def w90 : Sh := shW 2 fun call n K => pA2 (s90 call n) K
theorem w90_ok {E : Env} (e : E.code 90 = some A90) (hp : E.prim 90 = none) : ShOK E 90 w90 := shW_ok (A := { pts := [], lps := [] }) (S := noS) e hp (by kernel_rfl) (by kernel_rfl) (by kernel_rfl)

@[irreducible] noncomputable def A91 : AFun := (compFn Tryz.prog Tryz.f91).getD ⟨0, [], .skip⟩
noncomputable def w91 : Sh := shW 2 fun call n K => pA2 (s91 call n) K
theorem w91_ok {E : Env} (e : E.code 91 = some A91) (hp : E.prim 91 = none) : ShOK E 91 w91 := shW_ok (A := { pts := [], lps := [] }) (S := noS) e hp (by kernel_rfl) (by kernel_rfl) (by kernel_rfl)

noncomputable def T98 (call : CallFn) (n : Nat) (K : Kont) : Sp := {
  pt := fun β j => ifF j 4001 (pA2 (p98_4001 call n) K) <| noP
  fs := fun β j => noP
  rd := fun β j => noP
  lp := fun β j m => noP }
@[irreducible] noncomputable def A98 : AFun := (compFn Tryz.prog Tryz.f98).getD ⟨0, [], .skip⟩
noncomputable def w98 : Sh := shW 1 fun call n K => pA1 (s98 call n) K
theorem w98_ok {E : Env} (e : E.code 98 = some A98) (hp : E.prim 98 = none) : ShOK E 98 w98 := shW_ok (A := { pts := [], lps := [], cuts := [(3, [(4, 4001, [7, 10])])] }) (S := T98) e hp (by kernel_rfl) (by kernel_rfl) (by kernel_rfl)

@[irreducible] noncomputable def A99 : AFun := (compFn Tryz.prog Tryz.f99).getD ⟨0, [], .skip⟩
noncomputable def w99 : Sh := shW 2 fun call n K => pA2 (s99 call n) K
theorem w99_ok {E : Env} (e : E.code 99 = some A99) (hp : E.prim 99 = none) : ShOK E 99 w99 := shW_ok (A := { pts := [], lps := [] }) (S := noS) e hp (by kernel_rfl) (by kernel_rfl) (by kernel_rfl)

end Go.Proofs.YtjkllaaepilihaaGreatDoor
