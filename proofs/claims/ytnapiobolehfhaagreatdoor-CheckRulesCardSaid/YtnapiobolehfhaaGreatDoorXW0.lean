/-
  The functions say no more than the code: so the kernel finds (printed by wip/tools/gen2.py).
-/
import Derived.Test.YtnapiobolehfhaaGreatDoorXS1
import Derived.Test.YtnapiobolehfhaaGreatDoorAbDn
import Derived.Test.YtnapiobolehfhaaGreatDoorProg
import Derived.KernelRfl
namespace Go.Proofs.YtnapiobolehfhaaGreatDoor
open Go.Ab
set_option linter.unusedVariables false

noncomputable def T4 (call : CallFn) (n : Nat) (K : Kont) : Sp := {
  pt := fun β j => ifF j 6001 (pA3 (p4_6001 call n) K) <| noP
  fs := fun β j => noP
  rd := fun β j => noP
  lp := fun β j m => noP }
@[irreducible] noncomputable def A4 : AFun := (compFn Tryz.prog Tryz.f4).getD ⟨0, [], .skip⟩
noncomputable def w4 : Sh := shW 1 fun call n K => pA1 (s4 call n) K
theorem w4_ok {E : Env} (e : E.code 4 = some A4) (hp : E.prim 4 = none) : ShOK E 4 w4 := shW_ok (A := { pts := [], lps := [], cuts := [(5, [(3, 6001, [2, 5, 11])])] }) (S := T4) e hp (by kernel_rfl) (by kernel_rfl) (by kernel_rfl)

noncomputable def T5 (call : CallFn) (n : Nat) (K : Kont) : Sp := {
  pt := fun β j => ifF j 12 (pA1 (p5_12 call n) K) <| ifF j 22 (pA2 (p5_22 call n) K) <| ifF j 5001 (pA2 (p5_5001 call n) K) <| ifF j 14001 (pA2 (p5_14001 call n) K) <| ifF j 41001 (pA4 (p5_41001 call n (pF3 (pB 0 β))) K) <| noP
  fs := fun β j => noP
  rd := fun β j => ifF j 28 (pA3 (b5_28 call n (pF3 (pB 0 β))) K) <| noP
  lp := fun β j m => ifL j 28 (pC3 (l5_28 call n m) K) <| noP }
@[irreducible] noncomputable def A5 : AFun := (compFn Tryz.prog Tryz.f5).getD ⟨0, [], .skip⟩
noncomputable def w5 : Sh := shW 1 fun call n K => pA1 (s5 call n) K
theorem w5_ok {E : Env} (e : E.code 5 = some A5) (hp : E.prim 5 = none) : ShOK E 5 w5 := shW_ok (A := { pts := [(12, [1]), (22, [1, 6])], lps := [(28, [41, 42, 43])], cuts := [(4, [(2, 5001, [1, 14])]), (13, [(3, 14001, [1, 22])]), (40, [(2, 41001, [41, 42, 43, 49])])] }) (S := T5) e hp (by kernel_rfl) (by kernel_rfl) (by kernel_rfl)

noncomputable def T7 (call : CallFn) (n : Nat) (K : Kont) : Sp := {
  pt := fun β j => ifF j 4001 (pA1 (p7_4001 call n) K) <| ifF j 4002 (pA1 (p7_4002 call n) K) <| ifF j 6001 (pA3 (p7_6001 call n) K) <| ifF j 6002 (pA3 (p7_6002 call n) K) <| ifF j 8001 (pA5 (p7_8001 call n) K) <| ifF j 10001 (pA2 (p7_10001 call n) K) <| noP
  fs := fun β j => noP
  rd := fun β j => noP
  lp := fun β j m => noP }
@[irreducible] noncomputable def A7 : AFun := (compFn Tryz.prog Tryz.f7).getD ⟨0, [], .skip⟩
noncomputable def w7 : Sh := shW 0 fun call n K => pA0 (s7 call n) K
theorem w7_ok {E : Env} (e : E.code 7 = some A7) (hp : E.prim 7 = none) : ShOK E 7 w7 := shW_ok (A := { pts := [], lps := [], cuts := [(3, [(1, 4001, [7]), (1, 4002, [8])]), (5, [(1, 6001, [1, 2, 12]), (1, 6002, [1, 2, 13])]), (7, [(2, 8001, [1, 2, 4, 16, 17])]), (9, [(14, 10001, [33, 36])])] }) (S := T7) e hp (by kernel_rfl) (by kernel_rfl) (by kernel_rfl)

noncomputable def T8 (call : CallFn) (n : Nat) (K : Kont) : Sp := {
  pt := fun β j => ifF j 4001 (pA3 (p8_4001 call n) K) <| ifF j 14001 (pA1 (p8_14001 call n) K) <| noP
  fs := fun β j => noP
  rd := fun β j => noP
  lp := fun β j m => noP }
@[irreducible] noncomputable def A8 : AFun := (compFn Tryz.prog Tryz.f8).getD ⟨0, [], .skip⟩
noncomputable def w8 : Sh := shW 2 fun call n K => pA2 (s8 call n) K
theorem w8_ok {E : Env} (e : E.code 8 = some A8) (hp : E.prim 8 = none) : ShOK E 8 w8 := shW_ok (A := { pts := [], lps := [], cuts := [(3, [(2, 4001, [0, 1, 9])]), (13, [(5, 14001, [21])])] }) (S := T8) e hp (by kernel_rfl) (by kernel_rfl) (by kernel_rfl)

noncomputable def T9 (call : CallFn) (n : Nat) (K : Kont) : Sp := {
  pt := fun β j => ifF j 1001 (pA2 (p9_1001 call n) K) <| noP
  fs := fun β j => noP
  rd := fun β j => noP
  lp := fun β j m => noP }
@[irreducible] noncomputable def A9 : AFun := (compFn Tryz.prog Tryz.f9).getD ⟨0, [], .skip⟩
noncomputable def w9 : Sh := shW 2 fun call n K => pA2 (s9 call n) K
theorem w9_ok {E : Env} (e : E.code 9 = some A9) (hp : E.prim 9 = none) : ShOK E 9 w9 := shW_ok (A := { pts := [], lps := [], cuts := [(0, [(2, 1001, [1, 4])])] }) (S := T9) e hp (by kernel_rfl) (by kernel_rfl) (by kernel_rfl)

noncomputable def T10 (call : CallFn) (n : Nat) (K : Kont) : Sp := {
  pt := fun β j => ifF j 26 (pA2 (p10_26 call n) K) <| noP
  fs := fun β j => noP
  rd := fun β j => ifF j 6 (pA3 (b10_6 call n (pF3 (pB 0 β))) K) <| noP
  lp := fun β j m => ifL j 6 (pC3 (l10_6 call n m) K) <| noP }
@[irreducible] noncomputable def A10 : AFun := (compFn Tryz.prog Tryz.f10).getD ⟨0, [], .skip⟩
noncomputable def w10 : Sh := shW 1 fun call n K => pA1 (s10 call n) K
theorem w10_ok {E : Env} (e : E.code 10 = some A10) (hp : E.prim 10 = none) : ShOK E 10 w10 := shW_ok (A := { pts := [(26, [2, 3])], lps := [(6, [0, 2, 3])] }) (S := T10) e hp (by kernel_rfl) (by kernel_rfl) (by kernel_rfl)

noncomputable def T11 (call : CallFn) (n : Nat) (K : Kont) : Sp := {
  pt := fun β j => ifF j 4001 (pA2 (p11_4001 call n) K) <| ifF j 15001 (pA3 (p11_15001 call n) K) <| ifF j 17001 (pA3 (p11_17001 call n) K) <| ifF j 24001 (pA1 (p11_24001 call n) K) <| noP
  fs := fun β j => noP
  rd := fun β j => noP
  lp := fun β j m => noP }
@[irreducible] noncomputable def A11 : AFun := (compFn Tryz.prog Tryz.f11).getD ⟨0, [], .skip⟩
noncomputable def w11 : Sh := shW 1 fun call n K => pA1 (s11 call n) K
theorem w11_ok {E : Env} (e : E.code 11 = some A11) (hp : E.prim 11 = none) : ShOK E 11 w11 := shW_ok (A := { pts := [], lps := [], cuts := [(3, [(2, 4001, [1, 10])]), (14, [(2, 15001, [1, 4, 17])]), (16, [(6, 17001, [4, 22, 25])]), (23, [(2, 24001, [29])])] }) (S := T11) e hp (by kernel_rfl) (by kernel_rfl) (by kernel_rfl)

noncomputable def T12 (call : CallFn) (n : Nat) (K : Kont) : Sp := {
  pt := fun β j => ifF j 12 (pA2 (p12_12 call n) K) <| ifF j 30001 (pA8 (p12_30001 call n (pF5 (pB 0 β))) K) <| ifF j 39001 (pA7 (p12_39001 call n (pF5 (pB 0 β))) K) <| noP
  fs := fun β j => noP
  rd := fun β j => ifF j 16 (pA5 (b12_16 call n (pF5 (pB 0 β))) K) <| noP
  lp := fun β j m => ifL j 16 (pC5 (l12_16 call n m) K) <| noP }
@[irreducible] noncomputable def A12 : AFun := (compFn Tryz.prog Tryz.f12).getD ⟨0, [], .skip⟩
noncomputable def w12 : Sh := shW 1 fun call n K => pA1 (s12 call n) K
theorem w12_ok {E : Env} (e : E.code 12 = some A12) (hp : E.prim 12 = none) : ShOK E 12 w12 := shW_ok (A := { pts := [(12, [0, 4])], lps := [(16, [0, 4, 13, 14, 15])], cuts := [(29, [(9, 30001, [0, 4, 6, 13, 14, 15, 23, 27])]), (38, [(3, 39001, [0, 4, 6, 13, 14, 15, 43])])] }) (S := T12) e hp (by kernel_rfl) (by kernel_rfl) (by kernel_rfl)

noncomputable def T13 (call : CallFn) (n : Nat) (K : Kont) : Sp := {
  pt := fun β j => ifF j 16 (pA3 (p13_16 call n) K) <| ifF j 10001 (pA3 (p13_10001 call n) K) <| ifF j 15001 (pA2 (p13_15001 call n) K) <| noP
  fs := fun β j => noP
  rd := fun β j => noP
  lp := fun β j m => noP }
@[irreducible] noncomputable def A13 : AFun := (compFn Tryz.prog Tryz.f13).getD ⟨0, [], .skip⟩
noncomputable def w13 : Sh := shW 1 fun call n K => pA1 (s13 call n) K
theorem w13_ok {E : Env} (e : E.code 13 = some A13) (hp : E.prim 13 = none) : ShOK E 13 w13 := shW_ok (A := { pts := [(16, [0, 8, 9])], lps := [], cuts := [(9, [(4, 10001, [0, 7, 16])]), (14, [(3, 15001, [0, 23])])] }) (S := T13) e hp (by kernel_rfl) (by kernel_rfl) (by kernel_rfl)

noncomputable def T14 (call : CallFn) (n : Nat) (K : Kont) : Sp := {
  pt := fun β j => ifF j 4001 (pA1 (p14_4001 call n) K) <| noP
  fs := fun β j => noP
  rd := fun β j => noP
  lp := fun β j m => noP }
@[irreducible] noncomputable def A14 : AFun := (compFn Tryz.prog Tryz.f14).getD ⟨0, [], .skip⟩
noncomputable def w14 : Sh := shW 1 fun call n K => pA1 (s14 call n) K
theorem w14_ok {E : Env} (e : E.code 14 = some A14) (hp : E.prim 14 = none) : ShOK E 14 w14 := shW_ok (A := { pts := [], lps := [], cuts := [(3, [(4, 4001, [7])])] }) (S := T14) e hp (by kernel_rfl) (by kernel_rfl) (by kernel_rfl)

noncomputable def T15 (call : CallFn) (n : Nat) (K : Kont) : Sp := {
  pt := fun β j => ifF j 4001 (pA1 (p15_4001 call n) K) <| noP
  fs := fun β j => noP
  rd := fun β j => noP
  lp := fun β j m => noP }
@[irreducible] noncomputable def A15 : AFun := (compFn Tryz.prog Tryz.f15).getD ⟨0, [], .skip⟩
noncomputable def w15 : Sh := shW 1 fun call n K => pA1 (s15 call n) K
theorem w15_ok {E : Env} (e : E.code 15 = some A15) (hp : E.prim 15 = none) : ShOK E 15 w15 := shW_ok (A := { pts := [], lps := [], cuts := [(3, [(3, 4001, [6])])] }) (S := T15) e hp (by kernel_rfl) (by kernel_rfl) (by kernel_rfl)

noncomputable def T16 (call : CallFn) (n : Nat) (K : Kont) : Sp := {
  pt := fun β j => ifF j 29 (pA4 (p16_29 call n) K) <| ifF j 40 (pA4 (p16_40 call n (pF5 (pB 0 β))) K) <| ifF j 53 (pA8 (p16_53 call n (pF5 (pB 1 β)) (pF8 (pB 0 β))) K) <| ifF j 76 (pA11 (p16_76 call n (pF5 (pB 2 β)) (pF8 (pB 1 β)) (pF11 (pB 0 β))) K) <| ifF j 77 (pA8 (p16_77 call n (pF5 (pB 1 β)) (pF8 (pB 0 β))) K) <| ifF j 78 (pA3 (p16_78 call n) K) <| ifF j 82001 (pA1 (p16_82001 call n) K) <| noP
  fs := fun β j => noP
  rd := fun β j => ifF j 12 (pA7 (b16_12 call n (pF7 (pB 0 β))) K) <| ifF j 33 (pA5 (b16_33 call n (pF5 (pB 0 β))) K) <| ifF j 46 (pA8 (b16_46 call n (pF5 (pB 1 β)) (pF8 (pB 0 β))) K) <| ifF j 60 (pA11 (b16_60 call n (pF5 (pB 2 β)) (pF8 (pB 1 β)) (pF11 (pB 0 β))) K) <| noP
  lp := fun β j m => ifL j 12 (pC7 (l16_12 call n m) K) <| ifL j 33 (pC5 (l16_33 call n m) K) <| ifL j 46 (pC8 (l16_46 call n (pF5 (pB 0 β)) m) K) <| ifL j 60 (pC11 (l16_60 call n (pF5 (pB 1 β)) (pF8 (pB 0 β)) m) K) <| noP }
@[irreducible] noncomputable def A16 : AFun := (compFn Tryz.prog Tryz.f16).getD ⟨0, [], .skip⟩
noncomputable def w16 : Sh := shW 1 fun call n K => pA1 (s16 call n) K
theorem w16_ok {E : Env} (e : E.code 16 = some A16) (hp : E.prim 16 = none) : ShOK E 16 w16 := shW_ok (A := { pts := [(29, [1, 4, 5, 6]), (40, [1, 4, 5, 6]), (53, [1, 4, 5, 6, 9, 50, 51, 52]), (76, [1, 4, 5, 6, 9, 11, 50, 51, 52, 56, 57]), (77, [1, 4, 5, 6, 9, 50, 51, 52]), (78, [1, 4, 6])], lps := [(12, [1, 4, 5, 6, 26, 27, 28]), (33, [1, 4, 5, 6, 9]), (46, [1, 4, 5, 6, 9, 50, 51, 52]), (60, [1, 4, 5, 6, 9, 11, 50, 51, 52, 56, 57])], cuts := [(81, [(3, 82001, [90])])] }) (S := T16) e hp (by kernel_rfl) (by kernel_rfl) (by kernel_rfl)

noncomputable def T17 (call : CallFn) (n : Nat) (K : Kont) : Sp := {
  pt := fun β j => ifF j 6001 (pA2 (p17_6001 call n) K) <| noP
  fs := fun β j => noP
  rd := fun β j => noP
  lp := fun β j m => noP }
@[irreducible] noncomputable def A17 : AFun := (compFn Tryz.prog Tryz.f17).getD ⟨0, [], .skip⟩
noncomputable def w17 : Sh := shW 1 fun call n K => pA1 (s17 call n) K
theorem w17_ok {E : Env} (e : E.code 17 = some A17) (hp : E.prim 17 = none) : ShOK E 17 w17 := shW_ok (A := { pts := [], lps := [], cuts := [(5, [(3, 6001, [4, 10])])] }) (S := T17) e hp (by kernel_rfl) (by kernel_rfl) (by kernel_rfl)

noncomputable def T18 (call : CallFn) (n : Nat) (K : Kont) : Sp := {
  pt := fun β j => ifF j 4001 (pA2 (p18_4001 call n) K) <| noP
  fs := fun β j => noP
  rd := fun β j => noP
  lp := fun β j m => noP }
@[irreducible] noncomputable def A18 : AFun := (compFn Tryz.prog Tryz.f18).getD ⟨0, [], .skip⟩
noncomputable def w18 : Sh := shW 1 fun call n K => pA1 (s18 call n) K
theorem w18_ok {E : Env} (e : E.code 18 = some A18) (hp : E.prim 18 = none) : ShOK E 18 w18 := shW_ok (A := { pts := [], lps := [], cuts := [(3, [(2, 4001, [2, 8])])] }) (S := T18) e hp (by kernel_rfl) (by kernel_rfl) (by kernel_rfl)

@[irreducible] noncomputable def A19 : AFun := (compFn Tryz.prog Tryz.f19).getD ⟨0, [], .skip⟩
noncomputable def w19 : Sh := shW 2 fun call n K => pA2 (s19 call n) K
theorem w19_ok {E : Env} (e : E.code 19 = some A19) (hp : E.prim 19 = none) : ShOK E 19 w19 := shW_ok (A := { pts := [], lps := [] }) (S := noS) e hp (by kernel_rfl) (by kernel_rfl) (by kernel_rfl)

noncomputable def T20 (call : CallFn) (n : Nat) (K : Kont) : Sp := {
  pt := fun β j => ifF j 10 (pA2 (p20_10 call n) K) <| noP
  fs := fun β j => noP
  rd := fun β j => ifF j 14 (pA3 (b20_14 call n (pF3 (pB 0 β))) K) <| noP
  lp := fun β j m => ifL j 14 (pC3 (l20_14 call n m) K) <| noP }
@[irreducible] noncomputable def A20 : AFun := (compFn Tryz.prog Tryz.f20).getD ⟨0, [], .skip⟩
noncomputable def w20 : Sh := shW 2 fun call n K => pA2 (s20 call n) K
theorem w20_ok {E : Env} (e : E.code 20 = some A20) (hp : E.prim 20 = none) : ShOK E 20 w20 := shW_ok (A := { pts := [(10, [0, 1])], lps := [(14, [0, 1, 5])] }) (S := T20) e hp (by kernel_rfl) (by kernel_rfl) (by kernel_rfl)

noncomputable def T21 (call : CallFn) (n : Nat) (K : Kont) : Sp := {
  pt := fun β j => ifF j 12001 (pA1 (p21_12001 call n) K) <| noP
  fs := fun β j => noP
  rd := fun β j => noP
  lp := fun β j m => noP }
@[irreducible] noncomputable def A21 : AFun := (compFn Tryz.prog Tryz.f21).getD ⟨0, [], .skip⟩
noncomputable def w21 : Sh := shW 1 fun call n K => pA1 (s21 call n) K
theorem w21_ok {E : Env} (e : E.code 21 = some A21) (hp : E.prim 21 = none) : ShOK E 21 w21 := shW_ok (A := { pts := [], lps := [], cuts := [(11, [(2, 12001, [9])])] }) (S := T21) e hp (by kernel_rfl) (by kernel_rfl) (by kernel_rfl)

noncomputable def T23 (call : CallFn) (n : Nat) (K : Kont) : Sp := {
  pt := fun β j => ifF j 5001 (pA2 (p23_5001 call n) K) <| noP
  fs := fun β j => noP
  rd := fun β j => noP
  lp := fun β j m => noP }
@[irreducible] noncomputable def A23 : AFun := (compFn Tryz.prog Tryz.f23).getD ⟨0, [], .skip⟩
noncomputable def w23 : Sh := shW 2 fun call n K => pA2 (s23 call n) K
theorem w23_ok {E : Env} (e : E.code 23 = some A23) (hp : E.prim 23 = none) : ShOK E 23 w23 := shW_ok (A := { pts := [], lps := [], cuts := [(4, [(3, 5001, [0, 7])])] }) (S := T23) e hp (by kernel_rfl) (by kernel_rfl) (by kernel_rfl)

noncomputable def T24 (call : CallFn) (n : Nat) (K : Kont) : Sp := {
  pt := fun β j => ifF j 10 (pA3 (p24_10 call n) K) <| ifF j 27 (pA3 (p24_27 call n) K) <| ifF j 4001 (pA3 (p24_4001 call n) K) <| ifF j 9001 (pA4 (p24_9001 call n) K) <| ifF j 20001 (pA6 (p24_20001 call n (pF4 (pB 0 β))) K) <| ifF j 20002 (pA6 (p24_20002 call n (pF4 (pB 0 β))) K) <| ifF j 20003 (pA7 (p24_20003 call n (pF4 (pB 0 β))) K) <| noP
  fs := fun β j => noP
  rd := fun β j => ifF j 16 (pA4 (b24_16 call n (pF4 (pB 0 β))) K) <| noP
  lp := fun β j m => ifL j 16 (pC4 (l24_16 call n m) K) <| noP }
@[irreducible] noncomputable def A24 : AFun := (compFn Tryz.prog Tryz.f24).getD ⟨0, [], .skip⟩
noncomputable def w24 : Sh := shW 1 fun call n K => pA1 (s24 call n) K
theorem w24_ok {E : Env} (e : E.code 24 = some A24) (hp : E.prim 24 = none) : ShOK E 24 w24 := shW_ok (A := { pts := [(10, [0, 2, 3]), (27, [0, 2, 3])], lps := [(16, [0, 2, 3, 4])], cuts := [(3, [(2, 4001, [0, 2, 6])]), (8, [(2, 9001, [0, 2, 3, 11])]), (19, [(4, 20001, [0, 2, 3, 4, 16, 18]), (8, 20002, [0, 2, 3, 21, 24, 26]), (3, 20003, [0, 2, 3, 21, 24, 27, 29])])] }) (S := T24) e hp (by kernel_rfl) (by kernel_rfl) (by kernel_rfl)

noncomputable def T25 (call : CallFn) (n : Nat) (K : Kont) : Sp := {
  pt := fun β j => ifF j 34 (pA3 (p25_34 call n) K) <| ifF j 49 (pA2 (p25_49 call n) K) <| ifF j 4001 (pA3 (p25_4001 call n) K) <| ifF j 10001 (pA4 (p25_10001 call n (pF3 (pB 0 β))) K) <| ifF j 19001 (pA4 (p25_19001 call n (pF3 (pB 0 β))) K) <| ifF j 23001 (pA4 (p25_23001 call n (pF3 (pB 0 β))) K) <| ifF j 27001 (pA4 (p25_27001 call n (pF3 (pB 0 β))) K) <| ifF j 36001 (pA4 (p25_36001 call n) K) <| ifF j 44001 (pA4 (p25_44001 call n (pF3 (pB 0 β))) K) <| noP
  fs := fun β j => noP
  rd := fun β j => ifF j 6 (pA3 (b25_6 call n (pF3 (pB 0 β))) K) <| ifF j 40 (pA3 (b25_40 call n (pF3 (pB 0 β))) K) <| noP
  lp := fun β j m => ifL j 6 (pC3 (l25_6 call n m) K) <| ifL j 40 (pC3 (l25_40 call n m) K) <| noP }
@[irreducible] noncomputable def A25 : AFun := (compFn Tryz.prog Tryz.f25).getD ⟨0, [], .skip⟩
noncomputable def w25 : Sh := shW 1 fun call n K => pA1 (s25 call n) K
theorem w25_ok {E : Env} (e : E.code 25 = some A25) (hp : E.prim 25 = none) : ShOK E 25 w25 := shW_ok (A := { pts := [(34, [0, 2, 3]), (49, [2, 3])], lps := [(6, [0, 2, 3]), (40, [0, 2, 3])], cuts := [(3, [(2, 4001, [0, 2, 5])]), (9, [(2, 10001, [0, 2, 3, 8])]), (18, [(2, 19001, [0, 2, 3, 18])]), (22, [(2, 23001, [0, 2, 3, 24])]), (26, [(2, 27001, [0, 2, 3, 30])]), (35, [(3, 36001, [0, 2, 3, 38])]), (43, [(2, 44001, [0, 2, 3, 44])])] }) (S := T25) e hp (by kernel_rfl) (by kernel_rfl) (by kernel_rfl)

noncomputable def T26 (call : CallFn) (n : Nat) (K : Kont) : Sp := {
  pt := fun β j => ifF j 15001 (pA6 (p26_15001 call n (pF4 (pB 0 β))) K) <| noP
  fs := fun β j => noP
  rd := fun β j => ifF j 3 (pA4 (b26_3 call n (pF4 (pB 0 β))) K) <| noP
  lp := fun β j m => ifL j 3 (pC4 (l26_3 call n m) K) <| noP }
@[irreducible] noncomputable def A26 : AFun := (compFn Tryz.prog Tryz.f26).getD ⟨0, [], .skip⟩
noncomputable def w26 : Sh := shW 2 fun call n K => pA2 (s26 call n) K
theorem w26_ok {E : Env} (e : E.code 26 = some A26) (hp : E.prim 26 = none) : ShOK E 26 w26 := shW_ok (A := { pts := [], lps := [(3, [0, 6, 7, 8])], cuts := [(14, [(4, 15001, [0, 6, 7, 8, 12, 15])])] }) (S := T26) e hp (by kernel_rfl) (by kernel_rfl) (by kernel_rfl)

noncomputable def T27 (call : CallFn) (n : Nat) (K : Kont) : Sp := {
  pt := fun β j => ifF j 4001 (pA3 (p27_4001 call n) K) <| ifF j 10001 (pA4 (p27_10001 call n) K) <| noP
  fs := fun β j => noP
  rd := fun β j => noP
  lp := fun β j m => noP }
@[irreducible] noncomputable def A27 : AFun := (compFn Tryz.prog Tryz.f27).getD ⟨0, [], .skip⟩
noncomputable def w27 : Sh := shW 1 fun call n K => pA1 (s27 call n) K
theorem w27_ok {E : Env} (e : E.code 27 = some A27) (hp : E.prim 27 = none) : ShOK E 27 w27 := shW_ok (A := { pts := [], lps := [], cuts := [(3, [(2, 4001, [1, 2, 5])]), (9, [(3, 10001, [1, 2, 3, 14])])] }) (S := T27) e hp (by kernel_rfl) (by kernel_rfl) (by kernel_rfl)

@[irreducible] noncomputable def A29 : AFun := (compFn Tryz.prog Tryz.f29).getD ⟨0, [], .skip⟩
noncomputable def w29 : Sh := shW 2 fun call n K => pA2 (s29 call n) K
theorem w29_ok {E : Env} (e : E.code 29 = some A29) (hp : E.prim 29 = none) : ShOK E 29 w29 := shW_ok (A := { pts := [], lps := [] }) (S := noS) e hp (by kernel_rfl) (by kernel_rfl) (by kernel_rfl)

noncomputable def T30 (call : CallFn) (n : Nat) (K : Kont) : Sp := {
  pt := fun β j => ifF j 19 (pA2 (p30_19 call n) K) <| ifF j 36 (pA2 (p30_36 call n) K) <| noP
  fs := fun β j => noP
  rd := fun β j => ifF j 6 (pA5 (b30_6 call n (pF5 (pB 0 β))) K) <| ifF j 23 (pA5 (b30_23 call n (pF5 (pB 0 β))) K) <| ifF j 39 (pA4 (b30_39 call n (pF4 (pB 0 β))) K) <| noP
  lp := fun β j m => ifL j 6 (pC5 (l30_6 call n m) K) <| ifL j 23 (pC5 (l30_23 call n m) K) <| ifL j 39 (pC4 (l30_39 call n m) K) <| noP }
@[irreducible] noncomputable def A30 : AFun := (compFn Tryz.prog Tryz.f30).getD ⟨0, [], .skip⟩
noncomputable def w30 : Sh := shW 2 fun call n K => pA2 (s30 call n) K
theorem w30_ok {E : Env} (e : E.code 30 = some A30) (hp : E.prim 30 = none) : ShOK E 30 w30 := shW_ok (A := { pts := [(19, [0, 3]), (36, [0, 3])], lps := [(6, [0, 3, 11, 12, 13]), (23, [0, 3, 22, 23, 24]), (39, [0, 33, 34, 35])] }) (S := T30) e hp (by kernel_rfl) (by kernel_rfl) (by kernel_rfl)

noncomputable def T31 (call : CallFn) (n : Nat) (K : Kont) : Sp := {
  pt := fun β j => ifF j 4001 (pA3 (p31_4001 call n) K) <| ifF j 16001 (pA3 (p31_16001 call n) K) <| noP
  fs := fun β j => noP
  rd := fun β j => noP
  lp := fun β j m => noP }
@[irreducible] noncomputable def A31 : AFun := (compFn Tryz.prog Tryz.f31).getD ⟨0, [], .skip⟩
noncomputable def w31 : Sh := shW 1 fun call n K => pA1 (s31 call n) K
theorem w31_ok {E : Env} (e : E.code 31 = some A31) (hp : E.prim 31 = none) : ShOK E 31 w31 := shW_ok (A := { pts := [], lps := [], cuts := [(3, [(2, 4001, [0, 2, 10])]), (15, [(5, 16001, [2, 7, 22])])] }) (S := T31) e hp (by kernel_rfl) (by kernel_rfl) (by kernel_rfl)

noncomputable def T32 (call : CallFn) (n : Nat) (K : Kont) : Sp := {
  pt := fun β j => ifF j 4001 (pA3 (p32_4001 call n) K) <| ifF j 4002 (pA4 (p32_4002 call n) K) <| ifF j 4003 (pA2 (p32_4003 call n) K) <| noP
  fs := fun β j => noP
  rd := fun β j => noP
  lp := fun β j m => noP }
@[irreducible] noncomputable def A32 : AFun := (compFn Tryz.prog Tryz.f32).getD ⟨0, [], .skip⟩
noncomputable def w32 : Sh := shW 2 fun call n K => pA2 (s32 call n) K
theorem w32_ok {E : Env} (e : E.code 32 = some A32) (hp : E.prim 32 = none) : ShOK E 32 w32 := shW_ok (A := { pts := [], lps := [], cuts := [(3, [(5, 4001, [2, 3, 9]), (6, 4002, [2, 3, 10, 15]), (7, 4003, [17, 22])])] }) (S := T32) e hp (by kernel_rfl) (by kernel_rfl) (by kernel_rfl)

@[irreducible] noncomputable def A33 : AFun := (compFn Tryz.prog Tryz.f33).getD ⟨0, [], .skip⟩
noncomputable def w33 : Sh := shW 1 fun call n K => pA1 (s33 call n) K
theorem w33_ok {E : Env} (e : E.code 33 = some A33) (hp : E.prim 33 = none) : ShOK E 33 w33 := shW_ok (A := { pts := [], lps := [] }) (S := noS) e hp (by kernel_rfl) (by kernel_rfl) (by kernel_rfl)

@[irreducible] noncomputable def A35 : AFun := (compFn Tryz.prog Tryz.f35).getD ⟨0, [], .skip⟩
noncomputable def w35 : Sh := shW 1 fun call n K => pA1 (s35 call n) K
theorem w35_ok {E : Env} (e : E.code 35 = some A35) (hp : E.prim 35 = none) : ShOK E 35 w35 := shW_ok (A := { pts := [], lps := [] }) (S := noS) e hp (by kernel_rfl) (by kernel_rfl) (by kernel_rfl)

noncomputable def T36 (call : CallFn) (n : Nat) (K : Kont) : Sp := {
  pt := fun β j => ifF j 4001 (pA3 (p36_4001 call n) K) <| noP
  fs := fun β j => noP
  rd := fun β j => noP
  lp := fun β j m => noP }
@[irreducible] noncomputable def A36 : AFun := (compFn Tryz.prog Tryz.f36).getD ⟨0, [], .skip⟩
noncomputable def w36 : Sh := shW 2 fun call n K => pA2 (s36 call n) K
theorem w36_ok {E : Env} (e : E.code 36 = some A36) (hp : E.prim 36 = none) : ShOK E 36 w36 := shW_ok (A := { pts := [], lps := [], cuts := [(3, [(3, 4001, [0, 1, 8])])] }) (S := T36) e hp (by kernel_rfl) (by kernel_rfl) (by kernel_rfl)

@[irreducible] noncomputable def A37 : AFun := (compFn Tryz.prog Tryz.f37).getD ⟨0, [], .skip⟩
noncomputable def w37 : Sh := shW 2 fun call n K => pA2 (s37 call n) K
theorem w37_ok {E : Env} (e : E.code 37 = some A37) (hp : E.prim 37 = none) : ShOK E 37 w37 := shW_ok (A := { pts := [], lps := [] }) (S := noS) e hp (by kernel_rfl) (by kernel_rfl) (by kernel_rfl)

@[irreducible] noncomputable def A38 : AFun := (compFn Tryz.prog Tryz.f38).getD ⟨0, [], .skip⟩
noncomputable def w38 : Sh := shW 2 fun call n K => pA2 (s38 call n) K
theorem w38_ok {E : Env} (e : E.code 38 = some A38) (hp : E.prim 38 = none) : ShOK E 38 w38 := shW_ok (A := { pts := [], lps := [] }) (S := noS) e hp (by kernel_rfl) (by kernel_rfl) (by kernel_rfl)

@[irreducible] noncomputable def A39 : AFun := (compFn Tryz.prog Tryz.f39).getD ⟨0, [], .skip⟩
noncomputable def w39 : Sh := shW 1 fun call n K => pA1 (s39 call n) K
theorem w39_ok {E : Env} (e : E.code 39 = some A39) (hp : E.prim 39 = none) : ShOK E 39 w39 := shW_ok (A := { pts := [], lps := [] }) (S := noS) e hp (by kernel_rfl) (by kernel_rfl) (by kernel_rfl)

noncomputable def T40 (call : CallFn) (n : Nat) (K : Kont) : Sp := {
  pt := fun β j => ifF j 25 (pA2 (p40_25 call n) K) <| ifF j 19001 (pA8 (p40_19001 call n (pF6 (pB 0 β))) K) <| ifF j 42001 (pA6 (p40_42001 call n (pF4 (pB 0 β))) K) <| noP
  fs := fun β j => noP
  rd := fun β j => ifF j 6 (pA6 (b40_6 call n (pF6 (pB 0 β))) K) <| ifF j 29 (pA4 (b40_29 call n (pF4 (pB 0 β))) K) <| noP
  lp := fun β j m => ifL j 6 (pC6 (l40_6 call n m) K) <| ifL j 29 (pC4 (l40_29 call n m) K) <| noP }
@[irreducible] noncomputable def A40 : AFun := (compFn Tryz.prog Tryz.f40).getD ⟨0, [], .skip⟩
noncomputable def w40 : Sh := shW 3 fun call n K => pA3 (s40 call n) K
theorem w40_ok {E : Env} (e : E.code 40 = some A40) (hp : E.prim 40 = none) : ShOK E 40 w40 := shW_ok (A := { pts := [(25, [0, 2])], lps := [(6, [0, 1, 2, 16, 17, 18]), (29, [2, 33, 34, 35])], cuts := [(18, [(3, 19001, [0, 1, 2, 9, 16, 17, 18, 24])]), (41, [(3, 42001, [2, 11, 33, 34, 35, 41])])] }) (S := T40) e hp (by kernel_rfl) (by kernel_rfl) (by kernel_rfl)

@[irreducible] noncomputable def A41 : AFun := (compFn Tryz.prog Tryz.f41).getD ⟨0, [], .skip⟩
noncomputable def w41 : Sh := shW 3 fun call n K => pA3 (s41 call n) K
theorem w41_ok {E : Env} (e : E.code 41 = some A41) (hp : E.prim 41 = none) : ShOK E 41 w41 := shW_ok (A := { pts := [], lps := [] }) (S := noS) e hp (by kernel_rfl) (by kernel_rfl) (by kernel_rfl)

@[irreducible] noncomputable def A42 : AFun := (compFn Tryz.prog Tryz.f42).getD ⟨0, [], .skip⟩
noncomputable def w42 : Sh := shW 3 fun call n K => pA3 (s42 call n) K
theorem w42_ok {E : Env} (e : E.code 42 = some A42) (hp : E.prim 42 = none) : ShOK E 42 w42 := shW_ok (A := { pts := [], lps := [] }) (S := noS) e hp (by kernel_rfl) (by kernel_rfl) (by kernel_rfl)

@[irreducible] noncomputable def A43 : AFun := (compFn Tryz.prog Tryz.f43).getD ⟨0, [], .skip⟩
noncomputable def w43 : Sh := shW 1 fun call n K => pA1 (s43 call n) K
theorem w43_ok {E : Env} (e : E.code 43 = some A43) (hp : E.prim 43 = none) : ShOK E 43 w43 := shW_ok (A := { pts := [], lps := [] }) (S := noS) e hp (by kernel_rfl) (by kernel_rfl) (by kernel_rfl)

noncomputable def T44 (call : CallFn) (n : Nat) (K : Kont) : Sp := {
  pt := fun β j => noP
  fs := fun β j => noP
  rd := fun β j => ifF j 8 (pA4 (b44_8 call n (pF4 (pB 0 β))) K) <| noP
  lp := fun β j m => ifL j 8 (pC4 (l44_8 call n m) K) <| noP }
@[irreducible] noncomputable def A44 : AFun := (compFn Tryz.prog Tryz.f44).getD ⟨0, [], .skip⟩
noncomputable def w44 : Sh := shW 1 fun call n K => pA1 (s44 call n) K
theorem w44_ok {E : Env} (e : E.code 44 = some A44) (hp : E.prim 44 = none) : ShOK E 44 w44 := shW_ok (A := { pts := [], lps := [(8, [3, 8, 9, 10])] }) (S := T44) e hp (by kernel_rfl) (by kernel_rfl) (by kernel_rfl)

@[irreducible] noncomputable def A45 : AFun := (compFn Tryz.prog Tryz.f45).getD ⟨0, [], .skip⟩
noncomputable def w45 : Sh := shW 2 fun call n K => pA2 (s45 call n) K
theorem w45_ok {E : Env} (e : E.code 45 = some A45) (hp : E.prim 45 = none) : ShOK E 45 w45 := shW_ok (A := { pts := [], lps := [] }) (S := noS) e hp (by kernel_rfl) (by kernel_rfl) (by kernel_rfl)

@[irreducible] noncomputable def A47 : AFun := (compFn Tryz.prog Tryz.f47).getD ⟨0, [], .skip⟩
noncomputable def w47 : Sh := shW 2 fun call n K => pA2 (s47 call n) K
theorem w47_ok {E : Env} (e : E.code 47 = some A47) (hp : E.prim 47 = none) : ShOK E 47 w47 := shW_ok (A := { pts := [], lps := [] }) (S := noS) e hp (by kernel_rfl) (by kernel_rfl) (by kernel_rfl)

noncomputable def T48 (call : CallFn) (n : Nat) (K : Kont) : Sp := {
  pt := fun β j => noP
  fs := fun β j => noP
  rd := fun β j => ifF j 8 (pA5 (b48_8 call n (pF5 (pB 0 β))) K) <| noP
  lp := fun β j m => ifL j 8 (pC5 (l48_8 call n m) K) <| noP }
@[irreducible] noncomputable def A48 : AFun := (compFn Tryz.prog Tryz.f48).getD ⟨0, [], .skip⟩
noncomputable def w48 : Sh := shW 3 fun call n K => pA3 (s48 call n) K
theorem w48_ok {E : Env} (e : E.code 48 = some A48) (hp : E.prim 48 = none) : ShOK E 48 w48 := shW_ok (A := { pts := [], lps := [(8, [0, 2, 11, 12, 13])] }) (S := T48) e hp (by kernel_rfl) (by kernel_rfl) (by kernel_rfl)

@[irreducible] noncomputable def A50 : AFun := (compFn Tryz.prog Tryz.f50).getD ⟨0, [], .skip⟩
noncomputable def w50 : Sh := shW 1 fun call n K => pA1 (s50 call n) K
theorem w50_ok {E : Env} (e : E.code 50 = some A50) (hp : E.prim 50 = none) : ShOK E 50 w50 := shW_ok (A := { pts := [], lps := [] }) (S := noS) e hp (by kernel_rfl) (by kernel_rfl) (by kernel_rfl)

@[irreducible] noncomputable def A51 : AFun := (compFn Tryz.prog Tryz.f51).getD ⟨0, [], .skip⟩
noncomputable def w51 : Sh := shW 2 fun call n K => pA2 (s51 call n) K
theorem w51_ok {E : Env} (e : E.code 51 = some A51) (hp : E.prim 51 = none) : ShOK E 51 w51 := shW_ok (A := { pts := [], lps := [] }) (S := noS) e hp (by kernel_rfl) (by kernel_rfl) (by kernel_rfl)

@[irreducible] noncomputable def A52 : AFun := (compFn Tryz.prog Tryz.f52).getD ⟨0, [], .skip⟩
noncomputable def w52 : Sh := shW 2 fun call n K => pA2 (s52 call n) K
theorem w52_ok {E : Env} (e : E.code 52 = some A52) (hp : E.prim 52 = none) : ShOK E 52 w52 := shW_ok (A := { pts := [], lps := [] }) (S := noS) e hp (by kernel_rfl) (by kernel_rfl) (by kernel_rfl)

noncomputable def T53 (call : CallFn) (n : Nat) (K : Kont) : Sp := {
  pt := fun β j => noP
  fs := fun β j => noP
  rd := fun β j => ifF j 5 (pA5 (b53_5 call n (pF5 (pB 0 β))) K) <| noP
  lp := fun β j m => ifL j 5 (pC5 (l53_5 call n m) K) <| noP }
@[irreducible] noncomputable def A53 : AFun := (compFn Tryz.prog Tryz.f53).getD ⟨0, [], .skip⟩
noncomputable def w53 : Sh := shW 2 fun call n K => pA2 (s53 call n) K
theorem w53_ok {E : Env} (e : E.code 53 = some A53) (hp : E.prim 53 = none) : ShOK E 53 w53 := shW_ok (A := { pts := [], lps := [(5, [0, 2, 11, 12, 13])] }) (S := T53) e hp (by kernel_rfl) (by kernel_rfl) (by kernel_rfl)

noncomputable def T54 (call : CallFn) (n : Nat) (K : Kont) : Sp := {
  pt := fun β j => ifF j 11 (pA5 (p54_11 call n) K) <| ifF j 27 (pA3 (p54_27 call n) K) <| noP
  fs := fun β j => noP
  rd := fun β j => noP
  lp := fun β j m => noP }
@[irreducible] noncomputable def A54 : AFun := (compFn Tryz.prog Tryz.f54).getD ⟨0, [], .skip⟩
noncomputable def w54 : Sh := shW 3 fun call n K => pA3 (s54 call n) K
theorem w54_ok {E : Env} (e : E.code 54 = some A54) (hp : E.prim 54 = none) : ShOK E 54 w54 := shW_ok (A := { pts := [(11, [0, 2, 4, 7, 8]), (27, [2, 4, 33])], lps := [] }) (S := T54) e hp (by kernel_rfl) (by kernel_rfl) (by kernel_rfl)

@[irreducible] noncomputable def A55 : AFun := (compFn Tryz.prog Tryz.f55).getD ⟨0, [], .skip⟩
noncomputable def w55 : Sh := shW 1 fun call n K => pA1 (s55 call n) K
theorem w55_ok {E : Env} (e : E.code 55 = some A55) (hp : E.prim 55 = none) : ShOK E 55 w55 := shW_ok (A := { pts := [], lps := [] }) (S := noS) e hp (by kernel_rfl) (by kernel_rfl) (by kernel_rfl)

noncomputable def T56 (call : CallFn) (n : Nat) (K : Kont) : Sp := {
  pt := fun β j => ifF j 10 (pA5 (p56_10 call n (pF5 (pB 0 β))) K) <| ifF j 20 (pA6 (p56_20 call n (pF5 (pB 0 β))) K) <| ifF j 40 (pA5 (p56_40 call n (pF5 (pB 0 β))) K) <| noP
  fs := fun β j => noP
  rd := fun β j => ifF j 3 (pA5 (b56_3 call n (pF5 (pB 0 β))) K) <| ifF j 27 (pA8 (b56_27 call n (pF5 (pB 1 β)) (pF8 (pB 0 β))) K) <| noP
  lp := fun β j m => ifL j 3 (pC5 (l56_3 call n m) K) <| ifL j 27 (pC8 (l56_27 call n (pF5 (pB 0 β)) m) K) <| noP }
@[irreducible] noncomputable def A56 : AFun := (compFn Tryz.prog Tryz.f56).getD ⟨0, [], .skip⟩
noncomputable def w56 : Sh := shW 3 fun call n K => pA3 (s56 call n) K
theorem w56_ok {E : Env} (e : E.code 56 = some A56) (hp : E.prim 56 = none) : ShOK E 56 w56 := shW_ok (A := { pts := [(10, [1, 2, 10, 11, 12]), (20, [1, 2, 7, 10, 11, 12]), (40, [1, 2, 10, 11, 12])], lps := [(3, [1, 2, 10, 11, 12]), (27, [1, 2, 10, 11, 12, 44, 45, 46])] }) (S := T56) e hp (by kernel_rfl) (by kernel_rfl) (by kernel_rfl)

@[irreducible] noncomputable def A57 : AFun := (compFn Tryz.prog Tryz.f57).getD ⟨0, [], .skip⟩
noncomputable def w57 : Sh := shW 5 fun call n K => pA5 (s57 call n) K
theorem w57_ok {E : Env} (e : E.code 57 = some A57) (hp : E.prim 57 = none) : ShOK E 57 w57 := shW_ok (A := { pts := [], lps := [] }) (S := noS) e hp (by kernel_rfl) (by kernel_rfl) (by kernel_rfl)

noncomputable def T58 (call : CallFn) (n : Nat) (K : Kont) : Sp := {
  pt := fun β j => noP
  fs := fun β j => noP
  rd := fun β j => ifF j 6 (pA4 (b58_6 call n (pF4 (pB 0 β))) K) <| noP
  lp := fun β j m => ifL j 6 (pC4 (l58_6 call n m) K) <| noP }
@[irreducible] noncomputable def A58 : AFun := (compFn Tryz.prog Tryz.f58).getD ⟨0, [], .skip⟩
noncomputable def w58 : Sh := shW 2 fun call n K => pA2 (s58 call n) K
theorem w58_ok {E : Env} (e : E.code 58 = some A58) (hp : E.prim 58 = none) : ShOK E 58 w58 := shW_ok (A := { pts := [], lps := [(6, [0, 1, 7, 8])] }) (S := T58) e hp (by kernel_rfl) (by kernel_rfl) (by kernel_rfl)

@[irreducible] noncomputable def A59 : AFun := (compFn Tryz.prog Tryz.f59).getD ⟨0, [], .skip⟩
noncomputable def w59 : Sh := shW 2 fun call n K => pA2 (s59 call n) K
theorem w59_ok {E : Env} (e : E.code 59 = some A59) (hp : E.prim 59 = none) : ShOK E 59 w59 := shW_ok (A := { pts := [], lps := [] }) (S := noS) e hp (by kernel_rfl) (by kernel_rfl) (by kernel_rfl)

@[irreducible] noncomputable def A60 : AFun := (compFn Tryz.prog Tryz.f60).getD ⟨0, [], .skip⟩
noncomputable def w60 : Sh := shW 1 fun call n K => pA1 (s60 call n) K
theorem w60_ok {E : Env} (e : E.code 60 = some A60) (hp : E.prim 60 = none) : ShOK E 60 w60 := shW_ok (A := { pts := [], lps := [] }) (S := noS) e hp (by kernel_rfl) (by kernel_rfl) (by kernel_rfl)

noncomputable def T61 (call : CallFn) (n : Nat) (K : Kont) : Sp := {
  pt := fun β j => ifF j 27 (pA3 (p61_27 call n) K) <| ifF j 21001 (pA8 (p61_21001 call n (pF7 (pB 0 β))) K) <| ifF j 29001 (pA1 (p61_29001 call n) K) <| noP
  fs := fun β j => noP
  rd := fun β j => ifF j 8 (pA7 (b61_8 call n (pF7 (pB 0 β))) K) <| noP
  lp := fun β j m => ifL j 8 (pC7 (l61_8 call n m) K) <| noP }
@[irreducible] noncomputable def A61 : AFun := (compFn Tryz.prog Tryz.f61).getD ⟨0, [], .skip⟩
noncomputable def w61 : Sh := shW 4 fun call n K => pA4 (s61 call n) K
theorem w61_ok {E : Env} (e : E.code 61 = some A61) (hp : E.prim 61 = none) : ShOK E 61 w61 := shW_ok (A := { pts := [(27, [1, 2, 3])], lps := [(8, [1, 2, 3, 4, 11, 12, 13])], cuts := [(20, [(4, 21001, [1, 2, 3, 4, 11, 12, 13, 20])]), (28, [(3, 29001, [25])])] }) (S := T61) e hp (by kernel_rfl) (by kernel_rfl) (by kernel_rfl)

noncomputable def T62 (call : CallFn) (n : Nat) (K : Kont) : Sp := {
  pt := fun β j => ifF j 23001 (pA2 (p62_23001 call n (pF4 (pB 0 β))) K) <| noP
  fs := fun β j => noP
  rd := fun β j => ifF j 6 (pA4 (b62_6 call n (pF4 (pB 0 β))) K) <| noP
  lp := fun β j m => ifL j 6 (pC4 (l62_6 call n m) K) <| noP }
@[irreducible] noncomputable def A62 : AFun := (compFn Tryz.prog Tryz.f62).getD ⟨0, [], .skip⟩
noncomputable def w62 : Sh := shW 2 fun call n K => pA2 (s62 call n) K
theorem w62_ok {E : Env} (e : E.code 62 = some A62) (hp : E.prim 62 = none) : ShOK E 62 w62 := shW_ok (A := { pts := [], lps := [(6, [3, 7, 8, 9])], cuts := [(22, [(8, 23001, [21, 25])])] }) (S := T62) e hp (by kernel_rfl) (by kernel_rfl) (by kernel_rfl)

noncomputable def T63 (call : CallFn) (n : Nat) (K : Kont) : Sp := {
  pt := fun β j => ifF j 4001 (pA1 (p63_4001 call n) K) <| noP
  fs := fun β j => noP
  rd := fun β j => noP
  lp := fun β j m => noP }
@[irreducible] noncomputable def A63 : AFun := (compFn Tryz.prog Tryz.f63).getD ⟨0, [], .skip⟩
noncomputable def w63 : Sh := shW 2 fun call n K => pA2 (s63 call n) K
theorem w63_ok {E : Env} (e : E.code 63 = some A63) (hp : E.prim 63 = none) : ShOK E 63 w63 := shW_ok (A := { pts := [], lps := [], cuts := [(3, [(3, 4001, [7])])] }) (S := T63) e hp (by kernel_rfl) (by kernel_rfl) (by kernel_rfl)

@[irreducible] noncomputable def A64 : AFun := (compFn Tryz.prog Tryz.f64).getD ⟨0, [], .skip⟩
noncomputable def w64 : Sh := shW 3 fun call n K => pA3 (s64 call n) K
theorem w64_ok {E : Env} (e : E.code 64 = some A64) (hp : E.prim 64 = none) : ShOK E 64 w64 := shW_ok (A := { pts := [], lps := [] }) (S := noS) e hp (by kernel_rfl) (by kernel_rfl) (by kernel_rfl)

noncomputable def T65 (call : CallFn) (n : Nat) (K : Kont) : Sp := {
  pt := fun β j => ifF j 4001 (pA3 (p65_4001 call n) K) <| ifF j 4002 (pA2 (p65_4002 call n) K) <| noP
  fs := fun β j => noP
  rd := fun β j => noP
  lp := fun β j m => noP }
@[irreducible] noncomputable def A65 : AFun := (compFn Tryz.prog Tryz.f65).getD ⟨0, [], .skip⟩
noncomputable def w65 : Sh := shW 2 fun call n K => pA2 (s65 call n) K
theorem w65_ok {E : Env} (e : E.code 65 = some A65) (hp : E.prim 65 = none) : ShOK E 65 w65 := shW_ok (A := { pts := [], lps := [], cuts := [(3, [(3, 4001, [1, 2, 6]), (4, 4002, [8, 10])])] }) (S := T65) e hp (by kernel_rfl) (by kernel_rfl) (by kernel_rfl)

noncomputable def T66 (call : CallFn) (n : Nat) (K : Kont) : Sp := {
  pt := fun β j => ifF j 15 (pA4 (p66_15 call n (pF4 (pB 0 β))) K) <| ifF j 37 (pA4 (p66_37 call n (pF4 (pB 0 β))) K) <| ifF j 36001 (pA8 (p66_36001 call n (pF4 (pB 1 β)) (pF7 (pB 0 β))) K) <| noP
  fs := fun β j => noP
  rd := fun β j => ifF j 8 (pA4 (b66_8 call n (pF4 (pB 0 β))) K) <| ifF j 24 (pA7 (b66_24 call n (pF4 (pB 1 β)) (pF7 (pB 0 β))) K) <| noP
  lp := fun β j m => ifL j 8 (pC4 (l66_8 call n m) K) <| ifL j 24 (pC7 (l66_24 call n (pF4 (pB 0 β)) m) K) <| noP }
@[irreducible] noncomputable def A66 : AFun := (compFn Tryz.prog Tryz.f66).getD ⟨0, [], .skip⟩
noncomputable def w66 : Sh := shW 1 fun call n K => pA1 (s66 call n) K
theorem w66_ok {E : Env} (e : E.code 66 = some A66) (hp : E.prim 66 = none) : ShOK E 66 w66 := shW_ok (A := { pts := [(15, [3, 8, 9, 10]), (37, [3, 8, 9, 10])], lps := [(8, [3, 8, 9, 10]), (24, [3, 8, 9, 10, 25, 26, 27])], cuts := [(35, [(3, 36001, [8, 9, 10, 25, 26, 27, 31, 33])])] }) (S := T66) e hp (by kernel_rfl) (by kernel_rfl) (by kernel_rfl)

@[irreducible] noncomputable def A67 : AFun := (compFn Tryz.prog Tryz.f67).getD ⟨0, [], .skip⟩
noncomputable def w67 : Sh := shW 2 fun call n K => pA2 (s67 call n) K
theorem w67_ok {E : Env} (e : E.code 67 = some A67) (hp : E.prim 67 = none) : ShOK E 67 w67 := shW_ok (A := { pts := [], lps := [] }) (S := noS) e hp (by kernel_rfl) (by kernel_rfl) (by kernel_rfl)

noncomputable def T68 (call : CallFn) (n : Nat) (K : Kont) : Sp := {
  pt := fun β j => ifF j 15 (pA4 (p68_15 call n (pF4 (pB 0 β))) K) <| ifF j 36 (pA8 (p68_36 call n (pF4 (pB 1 β)) (pF8 (pB 0 β))) K) <| ifF j 58 (pA8 (p68_58 call n (pF4 (pB 1 β)) (pF8 (pB 0 β))) K) <| ifF j 60 (pA4 (p68_60 call n (pF4 (pB 0 β))) K) <| noP
  fs := fun β j => noP
  rd := fun β j => ifF j 8 (pA4 (b68_8 call n (pF4 (pB 0 β))) K) <| ifF j 29 (pA8 (b68_29 call n (pF4 (pB 1 β)) (pF8 (pB 0 β))) K) <| ifF j 43 (pA12 (b68_43 call n (pF4 (pB 2 β)) (pF8 (pB 1 β)) (pF12 (pB 0 β))) K) <| noP
  lp := fun β j m => ifL j 8 (pC4 (l68_8 call n m) K) <| ifL j 29 (pC8 (l68_29 call n (pF4 (pB 0 β)) m) K) <| ifL j 43 (pC12 (l68_43 call n (pF4 (pB 1 β)) (pF8 (pB 0 β)) m) K) <| noP }
@[irreducible] noncomputable def A68 : AFun := (compFn Tryz.prog Tryz.f68).getD ⟨0, [], .skip⟩
noncomputable def w68 : Sh := shW 1 fun call n K => pA1 (s68 call n) K
theorem w68_ok {E : Env} (e : E.code 68 = some A68) (hp : E.prim 68 = none) : ShOK E 68 w68 := shW_ok (A := { pts := [(15, [3, 13, 14, 15]), (36, [6, 7, 13, 14, 15, 28, 29, 30]), (58, [6, 7, 13, 14, 15, 28, 29, 30]), (60, [3, 13, 14, 15])], lps := [(8, [3, 13, 14, 15]), (29, [6, 7, 13, 14, 15, 28, 29, 30]), (43, [6, 7, 9, 13, 14, 15, 28, 29, 30, 34, 35, 36])] }) (S := T68) e hp (by kernel_rfl) (by kernel_rfl) (by kernel_rfl)

noncomputable def T69 (call : CallFn) (n : Nat) (K : Kont) : Sp := {
  pt := fun β j => ifF j 4001 (pA1 (p69_4001 call n) K) <| noP
  fs := fun β j => noP
  rd := fun β j => noP
  lp := fun β j m => noP }
@[irreducible] noncomputable def A69 : AFun := (compFn Tryz.prog Tryz.f69).getD ⟨0, [], .skip⟩
noncomputable def w69 : Sh := shW 1 fun call n K => pA1 (s69 call n) K
theorem w69_ok {E : Env} (e : E.code 69 = some A69) (hp : E.prim 69 = none) : ShOK E 69 w69 := shW_ok (A := { pts := [], lps := [], cuts := [(3, [(3, 4001, [5])])] }) (S := T69) e hp (by kernel_rfl) (by kernel_rfl) (by kernel_rfl)

noncomputable def T70 (call : CallFn) (n : Nat) (K : Kont) : Sp := {
  pt := fun β j => ifF j 15 (pA6 (p70_15 call n (pF6 (pB 0 β))) K) <| ifF j 49 (pA9 (p70_49 call n (pF6 (pB 0 β))) K) <| ifF j 73 (pA9 (p70_73 call n (pF6 (pB 1 β)) (pF9 (pB 0 β))) K) <| ifF j 98 (pA6 (p70_98 call n (pF6 (pB 0 β))) K) <| ifF j 99 (pA1 (p70_99 call n) K) <| ifF j 82001 (pA7 (p70_82001 call n (pF6 (pB 0 β))) K) <| noP
  fs := fun β j => noP
  rd := fun β j => ifF j 8 (pA6 (b70_8 call n (pF6 (pB 0 β))) K) <| ifF j 30 (pA9 (b70_30 call n (pF6 (pB 1 β)) (pF9 (pB 0 β))) K) <| ifF j 57 (pA9 (b70_57 call n (pF6 (pB 1 β)) (pF9 (pB 0 β))) K) <| ifF j 83 (pA9 (b70_83 call n (pF6 (pB 1 β)) (pF9 (pB 0 β))) K) <| noP
  lp := fun β j m => ifL j 8 (pC6 (l70_8 call n m) K) <| ifL j 30 (pC9 (l70_30 call n (pF6 (pB 0 β)) m) K) <| ifL j 57 (pC9 (l70_57 call n (pF6 (pB 0 β)) m) K) <| ifL j 83 (pC9 (l70_83 call n (pF6 (pB 0 β)) m) K) <| noP }
@[irreducible] noncomputable def A70 : AFun := (compFn Tryz.prog Tryz.f70).getD ⟨0, [], .skip⟩
noncomputable def w70 : Sh := shW 3 fun call n K => pA3 (s70 call n) K
theorem w70_ok {E : Env} (e : E.code 70 = some A70) (hp : E.prim 70 = none) : ShOK E 70 w70 := shW_ok (A := { pts := [(15, [2, 4, 7, 17, 18, 19]), (49, [2, 4, 7, 9, 17, 18, 19, 24, 43]), (73, [2, 4, 7, 17, 18, 19, 53, 54, 55]), (98, [2, 4, 7, 17, 18, 19]), (99, [4])], lps := [(8, [2, 4, 7, 17, 18, 19]), (30, [2, 4, 7, 17, 18, 19, 32, 33, 34]), (57, [2, 4, 7, 17, 18, 19, 53, 54, 55]), (83, [2, 4, 7, 17, 18, 19, 75, 76, 77])], cuts := [(81, [(4, 82001, [2, 4, 7, 17, 18, 19, 75])])] }) (S := T70) e hp (by kernel_rfl) (by kernel_rfl) (by kernel_rfl)

@[irreducible] noncomputable def A73 : AFun := (compFn Tryz.prog Tryz.f73).getD ⟨0, [], .skip⟩
noncomputable def w73 : Sh := shW 0 fun call n K => pA0 (s73 call n) K
theorem w73_ok {E : Env} (e : E.code 73 = some A73) (hp : E.prim 73 = none) : ShOK E 73 w73 := shW_ok (A := { pts := [], lps := [] }) (S := noS) e hp (by kernel_rfl) (by kernel_rfl) (by kernel_rfl)

noncomputable def T74 (call : CallFn) (n : Nat) (K : Kont) : Sp := {
  pt := fun β j => ifF j 4001 (pA1 (p74_4001 call n) K) <| noP
  fs := fun β j => noP
  rd := fun β j => noP
  lp := fun β j m => noP }
@[irreducible] noncomputable def A74 : AFun := (compFn Tryz.prog Tryz.f74).getD ⟨0, [], .skip⟩
noncomputable def w74 : Sh := shW 2 fun call n K => pA2 (s74 call n) K
theorem w74_ok {E : Env} (e : E.code 74 = some A74) (hp : E.prim 74 = none) : ShOK E 74 w74 := shW_ok (A := { pts := [], lps := [], cuts := [(3, [(2, 4001, [7])])] }) (S := T74) e hp (by kernel_rfl) (by kernel_rfl) (by kernel_rfl)

noncomputable def T75 (call : CallFn) (n : Nat) (K : Kont) : Sp := {
  pt := fun β j => ifF j 4001 (pA2 (p75_4001 call n) K) <| ifF j 6001 (pA4 (p75_6001 call n) K) <| noP
  fs := fun β j => noP
  rd := fun β j => noP
  lp := fun β j m => noP }
@[irreducible] noncomputable def A75 : AFun := (compFn Tryz.prog Tryz.f75).getD ⟨0, [], .skip⟩
noncomputable def w75 : Sh := shW 3 fun call n K => pA3 (s75 call n) K
theorem w75_ok {E : Env} (e : E.code 75 = some A75) (hp : E.prim 75 = none) : ShOK E 75 w75 := shW_ok (A := { pts := [], lps := [], cuts := [(3, [(3, 4001, [2, 10])]), (5, [(15, 6001, [15, 19, 23, 25])])] }) (S := T75) e hp (by kernel_rfl) (by kernel_rfl) (by kernel_rfl)

noncomputable def T76 (call : CallFn) (n : Nat) (K : Kont) : Sp := {
  pt := fun β j => ifF j 4001 (pA3 (p76_4001 call n) K) <| ifF j 4002 (pA4 (p76_4002 call n) K) <| noP
  fs := fun β j => noP
  rd := fun β j => noP
  lp := fun β j m => noP }
@[irreducible] noncomputable def A76 : AFun := (compFn Tryz.prog Tryz.f76).getD ⟨0, [], .skip⟩
noncomputable def w76 : Sh := shW 1 fun call n K => pA1 (s76 call n) K
theorem w76_ok {E : Env} (e : E.code 76 = some A76) (hp : E.prim 76 = none) : ShOK E 76 w76 := shW_ok (A := { pts := [], lps := [], cuts := [(3, [(3, 4001, [0, 3, 5]), (3, 4002, [0, 3, 6, 8])])] }) (S := T76) e hp (by kernel_rfl) (by kernel_rfl) (by kernel_rfl)

@[irreducible] noncomputable def A77 : AFun := (compFn Tryz.prog Tryz.f77).getD ⟨0, [], .skip⟩
noncomputable def w77 : Sh := shW 2 fun call n K => pA2 (s77 call n) K
theorem w77_ok {E : Env} (e : E.code 77 = some A77) (hp : E.prim 77 = none) : ShOK E 77 w77 := shW_ok (A := { pts := [], lps := [] }) (S := noS) e hp (by kernel_rfl) (by kernel_rfl) (by kernel_rfl)

noncomputable def T78 (call : CallFn) (n : Nat) (K : Kont) : Sp := {
  pt := fun β j => ifF j 4001 (pA1 (p78_4001 call n) K) <| ifF j 6001 (pA2 (p78_6001 call n) K) <| noP
  fs := fun β j => noP
  rd := fun β j => noP
  lp := fun β j m => noP }
@[irreducible] noncomputable def A78 : AFun := (compFn Tryz.prog Tryz.f78).getD ⟨0, [], .skip⟩
noncomputable def w78 : Sh := shW 2 fun call n K => pA2 (s78 call n) K
theorem w78_ok {E : Env} (e : E.code 78 = some A78) (hp : E.prim 78 = none) : ShOK E 78 w78 := shW_ok (A := { pts := [], lps := [], cuts := [(3, [(3, 4001, [8])]), (5, [(7, 6001, [12, 15])])] }) (S := T78) e hp (by kernel_rfl) (by kernel_rfl) (by kernel_rfl)

noncomputable def T79 (call : CallFn) (n : Nat) (K : Kont) : Sp := {
  pt := fun β j => ifF j 31 (pA2 (p79_31 call n) K) <| ifF j 4001 (pA3 (p79_4001 call n) K) <| ifF j 31001 (pA3 (p79_31001 call n) K) <| noP
  fs := fun β j => noP
  rd := fun β j => noP
  lp := fun β j m => noP }
@[irreducible] noncomputable def A79 : AFun := (compFn Tryz.prog Tryz.f79).getD ⟨0, [], .skip⟩
noncomputable def w79 : Sh := shW 1 fun call n K => pA1 (s79 call n) K
theorem w79_ok {E : Env} (e : E.code 79 = some A79) (hp : E.prim 79 = none) : ShOK E 79 w79 := shW_ok (A := { pts := [(31, [2, 3])], lps := [], cuts := [(3, [(2, 4001, [0, 2, 5])]), (30, [(2, 31001, [2, 3, 14])])] }) (S := T79) e hp (by kernel_rfl) (by kernel_rfl) (by kernel_rfl)

@[irreducible] noncomputable def A80 : AFun := (compFn Tryz.prog Tryz.f80).getD ⟨0, [], .skip⟩
noncomputable def w80 : Sh := shW 2 fun call n K => pA2 (s80 call n) K
theorem w80_ok {E : Env} (e : E.code 80 = some A80) (hp : E.prim 80 = none) : ShOK E 80 w80 := shW_ok (A := { pts := [], lps := [] }) (S := noS) e hp (by kernel_rfl) (by kernel_rfl) (by kernel_rfl)

noncomputable def T81 (call : CallFn) (n : Nat) (K : Kont) : Sp := {
  pt := fun β j => ifF j 4001 (pA3 (p81_4001 call n) K) <| noP
  fs := fun β j => noP
  rd := fun β j => noP
  lp := fun β j m => noP }
@[irreducible] noncomputable def A81 : AFun := (compFn Tryz.prog Tryz.f81).getD ⟨0, [], .skip⟩
noncomputable def w81 : Sh := shW 1 fun call n K => pA1 (s81 call n) K
theorem w81_ok {E : Env} (e : E.code 81 = some A81) (hp : E.prim 81 = none) : ShOK E 81 w81 := shW_ok (A := { pts := [], lps := [], cuts := [(3, [(3, 4001, [0, 3, 5])])] }) (S := T81) e hp (by kernel_rfl) (by kernel_rfl) (by kernel_rfl)

noncomputable def T83 (call : CallFn) (n : Nat) (K : Kont) : Sp := {
  pt := fun β j => ifF j 30 (pA3 (p83_30 call n (pF3 (pB 0 β))) K) <| ifF j 31001 (pA4 (p83_31001 call n (pF3 (pB 0 β))) K) <| noP
  fs := fun β j => noP
  rd := fun β j => ifF j 5 (pA3 (b83_5 call n (pF3 (pB 0 β))) K) <| ifF j 11 (pA6 (b83_11 call n (pF3 (pB 1 β)) (pF6 (pB 0 β))) K) <| noP
  lp := fun β j m => ifL j 5 (pC3 (l83_5 call n m) K) <| ifL j 11 (pC6 (l83_11 call n (pF3 (pB 0 β)) m) K) <| noP }
@[irreducible] noncomputable def A83 : AFun := (compFn Tryz.prog Tryz.f83).getD ⟨0, [], .skip⟩
noncomputable def w83 : Sh := shW 2 fun call n K => pA2 (s83 call n) K
theorem w83_ok {E : Env} (e : E.code 83 = some A83) (hp : E.prim 83 = none) : ShOK E 83 w83 := shW_ok (A := { pts := [(30, [0, 1, 5])], lps := [(5, [0, 1, 5]), (11, [0, 1, 5, 8, 9, 10])], cuts := [(30, [(3, 31001, [0, 1, 19, 21])])] }) (S := T83) e hp (by kernel_rfl) (by kernel_rfl) (by kernel_rfl)

noncomputable def T84 (call : CallFn) (n : Nat) (K : Kont) : Sp := {
  pt := fun β j => ifF j 12 (pA4 (p84_12 call n) K) <| ifF j 21 (pA3 (p84_21 call n) K) <| ifF j 45 (pA3 (p84_45 call n) K) <| ifF j 18001 (pA4 (p84_18001 call n) K) <| ifF j 23001 (pA4 (p84_23001 call n) K) <| ifF j 24001 (pA4 (p84_24001 call n) K) <| ifF j 29001 (pA4 (p84_29001 call n) K) <| ifF j 30001 (pA4 (p84_30001 call n) K) <| ifF j 34001 (pA4 (p84_34001 call n) K) <| ifF j 38001 (pA4 (p84_38001 call n) K) <| ifF j 42001 (pA4 (p84_42001 call n) K) <| noP
  fs := fun β j => noP
  rd := fun β j => noP
  lp := fun β j m => noP }
@[irreducible] noncomputable def A84 : AFun := (compFn Tryz.prog Tryz.f84).getD ⟨0, [], .skip⟩
noncomputable def w84 : Sh := shW 1 fun call n K => pA1 (s84 call n) K
theorem w84_ok {E : Env} (e : E.code 84 = some A84) (hp : E.prim 84 = none) : ShOK E 84 w84 := shW_ok (A := { pts := [(12, [0, 2, 3, 8]), (21, [0, 2, 3]), (45, [0, 2, 3])], lps := [], cuts := [(17, [(2, 18001, [0, 2, 3, 15])]), (22, [(2, 23001, [0, 2, 3, 19])]), (23, [(2, 24001, [0, 2, 3, 22])]), (28, [(2, 29001, [0, 2, 3, 28])]), (29, [(2, 30001, [0, 2, 3, 32])]), (33, [(2, 34001, [0, 2, 3, 38])]), (37, [(2, 38001, [0, 2, 3, 45])]), (41, [(2, 42001, [0, 2, 3, 52])])] }) (S := T84) e hp (by kernel_rfl) (by kernel_rfl) (by kernel_rfl)

noncomputable def T85 (call : CallFn) (n : Nat) (K : Kont) : Sp := {
  pt := fun β j => ifF j 15 (pA2 (p85_15 call n) K) <| ifF j 8001 (pA6 (p85_8001 call n (pF4 (pB 0 β))) K) <| ifF j 8002 (pA6 (p85_8002 call n (pF4 (pB 0 β))) K) <| noP
  fs := fun β j => noP
  rd := fun β j => ifF j 4 (pA4 (b85_4 call n (pF4 (pB 0 β))) K) <| noP
  lp := fun β j m => ifL j 4 (pC4 (l85_4 call n m) K) <| noP }
@[irreducible] noncomputable def A85 : AFun := (compFn Tryz.prog Tryz.f85).getD ⟨0, [], .skip⟩
noncomputable def w85 : Sh := shW 3 fun call n K => pA3 (s85 call n) K
theorem w85_ok {E : Env} (e : E.code 85 = some A85) (hp : E.prim 85 = none) : ShOK E 85 w85 := shW_ok (A := { pts := [(15, [0, 1])], lps := [(4, [0, 1, 2, 6])], cuts := [(7, [(5, 8001, [0, 1, 2, 6, 8, 11]), (8, 8002, [0, 1, 2, 14, 17, 19])])] }) (S := T85) e hp (by kernel_rfl) (by kernel_rfl) (by kernel_rfl)

@[irreducible] noncomputable def A86 : AFun := (compFn Tryz.prog Tryz.f86).getD ⟨0, [], .skip⟩
noncomputable def w86 : Sh := shW 2 fun call n K => pA2 (s86 call n) K
theorem w86_ok {E : Env} (e : E.code 86 = some A86) (hp : E.prim 86 = none) : ShOK E 86 w86 := shW_ok (A := { pts := [], lps := [] }) (S := noS) e hp (by kernel_rfl) (by kernel_rfl) (by kernel_rfl)

noncomputable def T87 (call : CallFn) (n : Nat) (K : Kont) : Sp := {
  pt := fun β j => ifF j 4001 (pA3 (p87_4001 call n) K) <| ifF j 4002 (pA4 (p87_4002 call n) K) <| noP
  fs := fun β j => noP
  rd := fun β j => noP
  lp := fun β j m => noP }
@[irreducible] noncomputable def A87 : AFun := (compFn Tryz.prog Tryz.f87).getD ⟨0, [], .skip⟩
noncomputable def w87 : Sh := shW 1 fun call n K => pA1 (s87 call n) K
theorem w87_ok {E : Env} (e : E.code 87 = some A87) (hp : E.prim 87 = none) : ShOK E 87 w87 := shW_ok (A := { pts := [], lps := [], cuts := [(3, [(3, 4001, [0, 3, 5]), (3, 4002, [0, 3, 6, 8])])] }) (S := T87) e hp (by kernel_rfl) (by kernel_rfl) (by kernel_rfl)

noncomputable def T89 (call : CallFn) (n : Nat) (K : Kont) : Sp := {
  pt := fun β j => ifF j 10 (pA2 (p89_10 call n) K) <| ifF j 50 (pA7 (p89_50 call n (pF4 (pB 0 β))) K) <| ifF j 57 (pA4 (p89_57 call n (pF4 (pB 0 β))) K) <| ifF j 58 (pA1 (p89_58 call n) K) <| noP
  fs := fun β j => noP
  rd := fun β j => ifF j 16 (pA4 (b89_16 call n (pF4 (pB 0 β))) K) <| noP
  lp := fun β j m => ifL j 16 (pC4 (l89_16 call n m) K) <| noP }
@[irreducible] noncomputable def A89 : AFun := (compFn Tryz.prog Tryz.f89).getD ⟨0, [], .skip⟩
noncomputable def w89 : Sh := shW 2 fun call n K => pA2 (s89 call n) K
theorem w89_ok {E : Env} (e : E.code 89 = some A89) (hp : E.prim 89 = none) : ShOK E 89 w89 := shW_ok (A := { pts := [(10, [0, 3]), (50, [0, 5, 23, 24, 25, 35, 38]), (57, [0, 23, 24, 25]), (58, [0])], lps := [(16, [0, 23, 24, 25])] }) (S := T89) e hp (by kernel_rfl) (by kernel_rfl) (by kernel_rfl)

noncomputable def T90 (call : CallFn) (n : Nat) (K : Kont) : Sp := {
  pt := fun β j => ifF j 22 (pA3 (p90_22 call n) K) <| ifF j 24 (pA2 (p90_24 call n) K) <| ifF j 30 (pA2 (p90_30 call n) K) <| ifF j 36 (pA2 (p90_36 call n) K) <| ifF j 42 (pA2 (p90_42 call n) K) <| ifF j 48 (pA2 (p90_48 call n) K) <| ifF j 71 (pA1 (p90_71 call n) K) <| ifF j 4001 (pA4 (p90_4001 call n) K) <| ifF j 23001 (pA4 (p90_23001 call n) K) <| ifF j 29001 (pA4 (p90_29001 call n) K) <| ifF j 35001 (pA4 (p90_35001 call n) K) <| noP
  fs := fun β j => noP
  rd := fun β j => ifF j 58 (pA4 (b90_58 call n (pF4 (pB 0 β))) K) <| noP
  lp := fun β j m => ifL j 58 (pC4 (l90_58 call n m) K) <| noP }
@[irreducible] noncomputable def A90 : AFun := (compFn Tryz.prog Tryz.f90).getD ⟨0, [], .skip⟩
noncomputable def w90 : Sh := shW 2 fun call n K => pA2 (s90 call n) K
theorem w90_ok {E : Env} (e : E.code 90 = some A90) (hp : E.prim 90 = none) : ShOK E 90 w90 := shW_ok (A := { pts := [(22, [0, 3, 4]), (24, [0, 3]), (30, [0, 3]), (36, [0, 3]), (42, [0, 3]), (48, [0, 3]), (71, [0])], lps := [(58, [0, 79, 80, 81])], cuts := [(3, [(4, 4001, [0, 3, 7, 10])]), (22, [(3, 23001, [0, 3, 35, 37])]), (28, [(4, 29001, [0, 3, 43, 46])]), (34, [(4, 35001, [0, 3, 52, 55])])] }) (S := T90) e hp (by kernel_rfl) (by kernel_rfl) (by kernel_rfl)

@[irreducible] noncomputable def A91 : AFun := (compFn Tryz.prog Tryz.f91).getD ⟨0, [], .skip⟩
noncomputable def w91 : Sh := shW 2 fun call n K => pA2 (s91 call n) K
theorem w91_ok {E : Env} (e : E.code 91 = some A91) (hp : E.prim 91 = none) : ShOK E 91 w91 := shW_ok (A := { pts := [], lps := [] }) (S := noS) e hp (by kernel_rfl) (by kernel_rfl) (by kernel_rfl)

noncomputable def T92 (call : CallFn) (n : Nat) (K : Kont) : Sp := {
  pt := fun β j => ifF j 1001 (pA2 (p92_1001 call n) K) <| noP
  fs := fun β j => noP
  rd := fun β j => noP
  lp := fun β j m => noP }
@[irreducible] noncomputable def A92 : AFun := (compFn Tryz.prog Tryz.f92).getD ⟨0, [], .skip⟩
noncomputable def w92 : Sh := shW 2 fun call n K => pA2 (s92 call n) K
theorem w92_ok {E : Env} (e : E.code 92 = some A92) (hp : E.prim 92 = none) : ShOK E 92 w92 := shW_ok (A := { pts := [], lps := [], cuts := [(0, [(2, 1001, [1, 4])])] }) (S := T92) e hp (by kernel_rfl) (by kernel_rfl) (by kernel_rfl)

noncomputable def T93 (call : CallFn) (n : Nat) (K : Kont) : Sp := {
  pt := fun β j => ifF j 10 (pA3 (p93_10 call n) K) <| ifF j 29001 (pA6 (p93_29001 call n (pF5 (pB 0 β))) K) <| noP
  fs := fun β j => noP
  rd := fun β j => ifF j 14 (pA5 (b93_14 call n (pF5 (pB 0 β))) K) <| noP
  lp := fun β j m => ifL j 14 (pC5 (l93_14 call n m) K) <| noP }
@[irreducible] noncomputable def A93 : AFun := (compFn Tryz.prog Tryz.f93).getD ⟨0, [], .skip⟩
noncomputable def w93 : Sh := shW 3 fun call n K => pA3 (s93 call n) K
theorem w93_ok {E : Env} (e : E.code 93 = some A93) (hp : E.prim 93 = none) : ShOK E 93 w93 := shW_ok (A := { pts := [(10, [0, 1, 2])], lps := [(14, [1, 2, 15, 16, 17])], cuts := [(28, [(4, 29001, [1, 2, 15, 16, 17, 29])])] }) (S := T93) e hp (by kernel_rfl) (by kernel_rfl) (by kernel_rfl)

noncomputable def T94 (call : CallFn) (n : Nat) (K : Kont) : Sp := {
  pt := fun β j => ifF j 4001 (pA2 (p94_4001 call n) K) <| noP
  fs := fun β j => noP
  rd := fun β j => noP
  lp := fun β j m => noP }
@[irreducible] noncomputable def A94 : AFun := (compFn Tryz.prog Tryz.f94).getD ⟨0, [], .skip⟩
noncomputable def w94 : Sh := shW 2 fun call n K => pA2 (s94 call n) K
theorem w94_ok {E : Env} (e : E.code 94 = some A94) (hp : E.prim 94 = none) : ShOK E 94 w94 := shW_ok (A := { pts := [], lps := [], cuts := [(3, [(18, 4001, [17, 22])])] }) (S := T94) e hp (by kernel_rfl) (by kernel_rfl) (by kernel_rfl)

noncomputable def T95 (call : CallFn) (n : Nat) (K : Kont) : Sp := {
  pt := fun β j => ifF j 10 (pA3 (p95_10 call n) K) <| ifF j 29001 (pA6 (p95_29001 call n (pF5 (pB 0 β))) K) <| noP
  fs := fun β j => noP
  rd := fun β j => ifF j 14 (pA5 (b95_14 call n (pF5 (pB 0 β))) K) <| noP
  lp := fun β j m => ifL j 14 (pC5 (l95_14 call n m) K) <| noP }
@[irreducible] noncomputable def A95 : AFun := (compFn Tryz.prog Tryz.f95).getD ⟨0, [], .skip⟩
noncomputable def w95 : Sh := shW 3 fun call n K => pA3 (s95 call n) K
theorem w95_ok {E : Env} (e : E.code 95 = some A95) (hp : E.prim 95 = none) : ShOK E 95 w95 := shW_ok (A := { pts := [(10, [0, 1, 2])], lps := [(14, [1, 2, 15, 16, 17])], cuts := [(28, [(4, 29001, [1, 2, 15, 16, 17, 29])])] }) (S := T95) e hp (by kernel_rfl) (by kernel_rfl) (by kernel_rfl)

noncomputable def T96 (call : CallFn) (n : Nat) (K : Kont) : Sp := {
  pt := fun β j => ifF j 4001 (pA4 (p96_4001 call n) K) <| ifF j 4002 (pA2 (p96_4002 call n) K) <| noP
  fs := fun β j => noP
  rd := fun β j => noP
  lp := fun β j m => noP }
@[irreducible] noncomputable def A96 : AFun := (compFn Tryz.prog Tryz.f96).getD ⟨0, [], .skip⟩
noncomputable def w96 : Sh := shW 2 fun call n K => pA2 (s96 call n) K
theorem w96_ok {E : Env} (e : E.code 96 = some A96) (hp : E.prim 96 = none) : ShOK E 96 w96 := shW_ok (A := { pts := [], lps := [], cuts := [(3, [(46, 4001, [2, 3, 45, 50]), (7, 4002, [52, 57])])] }) (S := T96) e hp (by kernel_rfl) (by kernel_rfl) (by kernel_rfl)

noncomputable def T97 (call : CallFn) (n : Nat) (K : Kont) : Sp := {
  pt := fun β j => ifF j 10 (pA3 (p97_10 call n) K) <| ifF j 29001 (pA6 (p97_29001 call n (pF5 (pB 0 β))) K) <| noP
  fs := fun β j => noP
  rd := fun β j => ifF j 14 (pA5 (b97_14 call n (pF5 (pB 0 β))) K) <| noP
  lp := fun β j m => ifL j 14 (pC5 (l97_14 call n m) K) <| noP }
@[irreducible] noncomputable def A97 : AFun := (compFn Tryz.prog Tryz.f97).getD ⟨0, [], .skip⟩
noncomputable def w97 : Sh := shW 3 fun call n K => pA3 (s97 call n) K
theorem w97_ok {E : Env} (e : E.code 97 = some A97) (hp : E.prim 97 = none) : ShOK E 97 w97 := shW_ok (A := { pts := [(10, [0, 1, 2])], lps := [(14, [1, 2, 15, 16, 17])], cuts := [(28, [(4, 29001, [1, 2, 15, 16, 17, 29])])] }) (S := T97) e hp (by kernel_rfl) (by kernel_rfl) (by kernel_rfl)

noncomputable def T98 (call : CallFn) (n : Nat) (K : Kont) : Sp := {
  pt := fun β j => ifF j 4001 (pA4 (p98_4001 call n) K) <| ifF j 4002 (pA2 (p98_4002 call n) K) <| noP
  fs := fun β j => noP
  rd := fun β j => noP
  lp := fun β j m => noP }
@[irreducible] noncomputable def A98 : AFun := (compFn Tryz.prog Tryz.f98).getD ⟨0, [], .skip⟩
noncomputable def w98 : Sh := shW 2 fun call n K => pA2 (s98 call n) K
theorem w98_ok {E : Env} (e : E.code 98 = some A98) (hp : E.prim 98 = none) : ShOK E 98 w98 := shW_ok (A := { pts := [], lps := [], cuts := [(3, [(11, 4001, [2, 3, 10, 15]), (7, 4002, [17, 22])])] }) (S := T98) e hp (by kernel_rfl) (by kernel_rfl) (by kernel_rfl)

noncomputable def T99 (call : CallFn) (n : Nat) (K : Kont) : Sp := {
  pt := fun β j => ifF j 29 (pA1 (p99_29 call n) K) <| ifF j 31001 (pA2 (p99_31001 call n) K) <| noP
  fs := fun β j => noP
  rd := fun β j => ifF j 6 (pA3 (b99_6 call n (pF3 (pB 0 β))) K) <| noP
  lp := fun β j m => ifL j 6 (pC3 (l99_6 call n m) K) <| noP }
@[irreducible] noncomputable def A99 : AFun := (compFn Tryz.prog Tryz.f99).getD ⟨0, [], .skip⟩
noncomputable def w99 : Sh := shW 1 fun call n K => pA1 (s99 call n) K
theorem w99_ok {E : Env} (e : E.code 99 = some A99) (hp : E.prim 99 = none) : ShOK E 99 w99 := shW_ok (A := { pts := [(29, [0])], lps := [(6, [0, 7, 8])], cuts := [(30, [(11, 31001, [55, 57])])] }) (S := T99) e hp (by kernel_rfl) (by kernel_rfl) (by kernel_rfl)

@[irreducible] noncomputable def A100 : AFun := (compFn Tryz.prog Tryz.f100).getD ⟨0, [], .skip⟩
noncomputable def w100 : Sh := shW 2 fun call n K => pA2 (s100 call n) K
theorem w100_ok {E : Env} (e : E.code 100 = some A100) (hp : E.prim 100 = none) : ShOK E 100 w100 := shW_ok (A := { pts := [], lps := [] }) (S := noS) e hp (by kernel_rfl) (by kernel_rfl) (by kernel_rfl)

@[irreducible] noncomputable def A101 : AFun := (compFn Tryz.prog Tryz.f101).getD ⟨0, [], .skip⟩
noncomputable def w101 : Sh := shW 2 fun call n K => pA2 (s101 call n) K
theorem w101_ok {E : Env} (e : E.code 101 = some A101) (hp : E.prim 101 = none) : ShOK E 101 w101 := shW_ok (A := { pts := [], lps := [] }) (S := noS) e hp (by kernel_rfl) (by kernel_rfl) (by kernel_rfl)

noncomputable def T102 (call : CallFn) (n : Nat) (K : Kont) : Sp := {
  pt := fun β j => ifF j 4001 (pA1 (p102_4001 call n) K) <| noP
  fs := fun β j => noP
  rd := fun β j => noP
  lp := fun β j m => noP }
@[irreducible] noncomputable def A102 : AFun := (compFn Tryz.prog Tryz.f102).getD ⟨0, [], .skip⟩
noncomputable def w102 : Sh := shW 2 fun call n K => pA2 (s102 call n) K
theorem w102_ok {E : Env} (e : E.code 102 = some A102) (hp : E.prim 102 = none) : ShOK E 102 w102 := shW_ok (A := { pts := [], lps := [], cuts := [(3, [(3, 4001, [7])])] }) (S := T102) e hp (by kernel_rfl) (by kernel_rfl) (by kernel_rfl)

@[irreducible] noncomputable def A103 : AFun := (compFn Tryz.prog Tryz.f103).getD ⟨0, [], .skip⟩
noncomputable def w103 : Sh := shW 2 fun call n K => pA2 (s103 call n) K
theorem w103_ok {E : Env} (e : E.code 103 = some A103) (hp : E.prim 103 = none) : ShOK E 103 w103 := shW_ok (A := { pts := [], lps := [] }) (S := noS) e hp (by kernel_rfl) (by kernel_rfl) (by kernel_rfl)

@[irreducible] noncomputable def A104 : AFun := (compFn Tryz.prog Tryz.f104).getD ⟨0, [], .skip⟩
noncomputable def w104 : Sh := shW 1 fun call n K => pA1 (s104 call n) K
theorem w104_ok {E : Env} (e : E.code 104 = some A104) (hp : E.prim 104 = none) : ShOK E 104 w104 := shW_ok (A := { pts := [], lps := [] }) (S := noS) e hp (by kernel_rfl) (by kernel_rfl) (by kernel_rfl)

noncomputable def T106 (call : CallFn) (n : Nat) (K : Kont) : Sp := {
  pt := fun β j => ifF j 12001 (pA1 (p106_12001 call n) K) <| noP
  fs := fun β j => noP
  rd := fun β j => noP
  lp := fun β j m => noP }
@[irreducible] noncomputable def A106 : AFun := (compFn Tryz.prog Tryz.f106).getD ⟨0, [], .skip⟩
noncomputable def w106 : Sh := shW 1 fun call n K => pA1 (s106 call n) K
theorem w106_ok {E : Env} (e : E.code 106 = some A106) (hp : E.prim 106 = none) : ShOK E 106 w106 := shW_ok (A := { pts := [], lps := [], cuts := [(11, [(3, 12001, [7])])] }) (S := T106) e hp (by kernel_rfl) (by kernel_rfl) (by kernel_rfl)

noncomputable def T107 (call : CallFn) (n : Nat) (K : Kont) : Sp := {
  pt := fun β j => ifF j 59 (pA2 (p107_59 call n) K) <| ifF j 78 (pA4 (p107_78 call n (pF4 (pB 0 β))) K) <| ifF j 85 (pA5 (p107_85 call n) K) <| ifF j 34001 (pA4 (p107_34001 call n) K) <| ifF j 34002 (pA4 (p107_34002 call n) K) <| noP
  fs := fun β j => noP
  rd := fun β j => ifF j 46 (pA5 (b107_46 call n (pF5 (pB 0 β))) K) <| ifF j 62 (pA4 (b107_62 call n (pF4 (pB 0 β))) K) <| noP
  lp := fun β j m => ifL j 46 (pC5 (l107_46 call n m) K) <| ifL j 62 (pC4 (l107_62 call n m) K) <| noP }
@[irreducible] noncomputable def A107 : AFun := (compFn Tryz.prog Tryz.f107).getD ⟨0, [], .skip⟩
noncomputable def w107 : Sh := shW 3 fun call n K => pA3 (s107 call n) K
theorem w107_ok {E : Env} (e : E.code 107 = some A107) (hp : E.prim 107 = none) : ShOK E 107 w107 := shW_ok (A := { pts := [(59, [2, 4]), (78, [2, 124, 125, 126]), (85, [0, 2, 4, 13, 139])], lps := [(46, [2, 4, 112, 113, 114]), (62, [2, 124, 125, 126])], cuts := [(33, [(4, 34001, [2, 4, 6, 70]), (5, 34002, [2, 4, 71, 75])])] }) (S := T107) e hp (by kernel_rfl) (by kernel_rfl) (by kernel_rfl)

noncomputable def T108 (call : CallFn) (n : Nat) (K : Kont) : Sp := {
  pt := fun β j => ifF j 30 (pA8 (p108_30 call n (pF7 (pB 0 β))) K) <| ifF j 20001 (pA9 (p108_20001 call n (pF7 (pB 0 β))) K) <| noP
  fs := fun β j => noP
  rd := fun β j => ifF j 7 (pA7 (b108_7 call n (pF7 (pB 0 β))) K) <| noP
  lp := fun β j m => ifL j 7 (pC7 (l108_7 call n m) K) <| noP }
@[irreducible] noncomputable def A108 : AFun := (compFn Tryz.prog Tryz.f108).getD ⟨0, [], .skip⟩
noncomputable def w108 : Sh := shW 3 fun call n K => pA3 (s108 call n) K
theorem w108_ok {E : Env} (e : E.code 108 = some A108) (hp : E.prim 108 = none) : ShOK E 108 w108 := shW_ok (A := { pts := [(30, [0, 2, 4, 6, 8, 12, 13, 14])], lps := [(7, [0, 2, 4, 6, 12, 13, 14])], cuts := [(19, [(4, 20001, [0, 2, 4, 6, 8, 12, 13, 14, 21])])] }) (S := T108) e hp (by kernel_rfl) (by kernel_rfl) (by kernel_rfl)

@[irreducible] noncomputable def A109 : AFun := (compFn Tryz.prog Tryz.f109).getD ⟨0, [], .skip⟩
noncomputable def w109 : Sh := shW 2 fun call n K => pA2 (s109 call n) K
theorem w109_ok {E : Env} (e : E.code 109 = some A109) (hp : E.prim 109 = none) : ShOK E 109 w109 := shW_ok (A := { pts := [], lps := [] }) (S := noS) e hp (by kernel_rfl) (by kernel_rfl) (by kernel_rfl)

noncomputable def T110 (call : CallFn) (n : Nat) (K : Kont) : Sp := {
  pt := fun β j => ifF j 4001 (pA1 (p110_4001 call n) K) <| noP
  fs := fun β j => noP
  rd := fun β j => noP
  lp := fun β j m => noP }
@[irreducible] noncomputable def A110 : AFun := (compFn Tryz.prog Tryz.f110).getD ⟨0, [], .skip⟩
noncomputable def w110 : Sh := shW 2 fun call n K => pA2 (s110 call n) K
theorem w110_ok {E : Env} (e : E.code 110 = some A110) (hp : E.prim 110 = none) : ShOK E 110 w110 := shW_ok (A := { pts := [], lps := [], cuts := [(3, [(3, 4001, [7])])] }) (S := T110) e hp (by kernel_rfl) (by kernel_rfl) (by kernel_rfl)

noncomputable def T111 (call : CallFn) (n : Nat) (K : Kont) : Sp := {
  pt := fun β j => ifF j 4001 (pA1 (p111_4001 call n) K) <| noP
  fs := fun β j => noP
  rd := fun β j => noP
  lp := fun β j m => noP }
@[irreducible] noncomputable def A111 : AFun := (compFn Tryz.prog Tryz.f111).getD ⟨0, [], .skip⟩
noncomputable def w111 : Sh := shW 2 fun call n K => pA2 (s111 call n) K
theorem w111_ok {E : Env} (e : E.code 111 = some A111) (hp : E.prim 111 = none) : ShOK E 111 w111 := shW_ok (A := { pts := [], lps := [], cuts := [(3, [(3, 4001, [7])])] }) (S := T111) e hp (by kernel_rfl) (by kernel_rfl) (by kernel_rfl)

noncomputable def T112 (call : CallFn) (n : Nat) (K : Kont) : Sp := {
  pt := fun β j => ifF j 4001 (pA1 (p112_4001 call n) K) <| noP
  fs := fun β j => noP
  rd := fun β j => noP
  lp := fun β j m => noP }
@[irreducible] noncomputable def A112 : AFun := (compFn Tryz.prog Tryz.f112).getD ⟨0, [], .skip⟩
noncomputable def w112 : Sh := shW 2 fun call n K => pA2 (s112 call n) K
theorem w112_ok {E : Env} (e : E.code 112 = some A112) (hp : E.prim 112 = none) : ShOK E 112 w112 := shW_ok (A := { pts := [], lps := [], cuts := [(3, [(3, 4001, [6])])] }) (S := T112) e hp (by kernel_rfl) (by kernel_rfl) (by kernel_rfl)

noncomputable def T113 (call : CallFn) (n : Nat) (K : Kont) : Sp := {
  pt := fun β j => ifF j 4001 (pA4 (p113_4001 call n) K) <| ifF j 4002 (pA4 (p113_4002 call n) K) <| ifF j 10001 (pA4 (p113_10001 call n) K) <| ifF j 10002 (pA4 (p113_10002 call n) K) <| ifF j 10003 (pA2 (p113_10003 call n) K) <| noP
  fs := fun β j => noP
  rd := fun β j => noP
  lp := fun β j m => noP }
@[irreducible] noncomputable def A113 : AFun := (compFn Tryz.prog Tryz.f113).getD ⟨0, [], .skip⟩
noncomputable def w113 : Sh := shW 2 fun call n K => pA2 (s113 call n) K
theorem w113_ok {E : Env} (e : E.code 113 = some A113) (hp : E.prim 113 = none) : ShOK E 113 w113 := shW_ok (A := { pts := [], lps := [], cuts := [(3, [(9, 4001, [2, 3, 11, 15]), (6, 4002, [2, 3, 17, 21])]), (9, [(6, 10001, [2, 6, 29, 33]), (6, 10002, [2, 6, 35, 39]), (6, 10003, [41, 45])])] }) (S := T113) e hp (by kernel_rfl) (by kernel_rfl) (by kernel_rfl)

noncomputable def T114 (call : CallFn) (n : Nat) (K : Kont) : Sp := {
  pt := fun β j => noP
  fs := fun β j => noP
  rd := fun β j => ifF j 6 (pA4 (b114_6 call n (pF4 (pB 0 β))) K) <| noP
  lp := fun β j m => ifL j 6 (pC4 (l114_6 call n m) K) <| noP }
@[irreducible] noncomputable def A114 : AFun := (compFn Tryz.prog Tryz.f114).getD ⟨0, [], .skip⟩
noncomputable def w114 : Sh := shW 2 fun call n K => pA2 (s114 call n) K
theorem w114_ok {E : Env} (e : E.code 114 = some A114) (hp : E.prim 114 = none) : ShOK E 114 w114 := shW_ok (A := { pts := [], lps := [(6, [0, 1, 7, 8])] }) (S := T114) e hp (by kernel_rfl) (by kernel_rfl) (by kernel_rfl)

noncomputable def T115 (call : CallFn) (n : Nat) (K : Kont) : Sp := {
  pt := fun β j => ifF j 50 (pA1 (p115_50 call n) K) <| ifF j 81 (pA1 (p115_81 call n) K) <| ifF j 87 (pA0 (p115_87 call n) K) <| ifF j 11001 (pA1 (p115_11001 call n) K) <| ifF j 11002 (pA1 (p115_11002 call n) K) <| ifF j 23001 (pA1 (p115_23001 call n) K) <| ifF j 27001 (pA1 (p115_27001 call n) K) <| ifF j 33001 (pA2 (p115_33001 call n) K) <| ifF j 36001 (pA3 (p115_36001 call n) K) <| ifF j 58001 (pA1 (p115_58001 call n) K) <| ifF j 58002 (pA1 (p115_58002 call n) K) <| ifF j 80001 (pA5 (p115_80001 call n (pF4 (pB 0 β))) K) <| noP
  fs := fun β j => noP
  rd := fun β j => ifF j 37 (pA5 (b115_37 call n (pF5 (pB 0 β))) K) <| ifF j 68 (pA4 (b115_68 call n (pF4 (pB 0 β))) K) <| noP
  lp := fun β j m => ifL j 37 (pC5 (l115_37 call n m) K) <| ifL j 68 (pC4 (l115_68 call n m) K) <| noP }
@[irreducible] noncomputable def A115 : AFun := (compFn Tryz.prog Tryz.f115).getD ⟨0, [], .skip⟩
noncomputable def w115 : Sh := shW 1 fun call n K => pA1 (s115 call n) K
theorem w115_ok {E : Env} (e : E.code 115 = some A115) (hp : E.prim 115 = none) : ShOK E 115 w115 := shW_ok (A := { pts := [(50, [4]), (81, [8]), (87, [])], lps := [(37, [4, 5, 43, 44, 45]), (68, [8, 68, 69, 70])], cuts := [(10, [(3, 11001, [17]), (1, 11002, [18])]), (22, [(2, 23001, [29])]), (26, [(2, 27001, [33])]), (32, [(3, 33001, [1, 39])]), (35, [(3, 36001, [4, 5, 43])]), (57, [(3, 58001, [62]), (1, 58002, [63])]), (79, [(3, 80001, [68, 69, 70, 74, 76])])] }) (S := T115) e hp (by kernel_rfl) (by kernel_rfl) (by kernel_rfl)

noncomputable def T116 (call : CallFn) (n : Nat) (K : Kont) : Sp := {
  pt := fun β j => ifF j 2001 (pA4 (p116_2001 call n) K) <| noP
  fs := fun β j => noP
  rd := fun β j => noP
  lp := fun β j m => noP }
@[irreducible] noncomputable def A116 : AFun := (compFn Tryz.prog Tryz.f116).getD ⟨0, [], .skip⟩
noncomputable def w116 : Sh := shW 2 fun call n K => pA2 (s116 call n) K
theorem w116_ok {E : Env} (e : E.code 116 = some A116) (hp : E.prim 116 = none) : ShOK E 116 w116 := shW_ok (A := { pts := [], lps := [], cuts := [(1, [(6, 2001, [0, 1, 5, 8])])] }) (S := T116) e hp (by kernel_rfl) (by kernel_rfl) (by kernel_rfl)

noncomputable def T117 (call : CallFn) (n : Nat) (K : Kont) : Sp := {
  pt := fun β j => ifF j 27 (pA6 (p117_27 call n (pF5 (pB 0 β))) K) <| ifF j 21001 (pA7 (p117_21001 call n (pF5 (pB 0 β))) K) <| noP
  fs := fun β j => noP
  rd := fun β j => ifF j 8 (pA5 (b117_8 call n (pF5 (pB 0 β))) K) <| noP
  lp := fun β j m => ifL j 8 (pC5 (l117_8 call n m) K) <| noP }
@[irreducible] noncomputable def A117 : AFun := (compFn Tryz.prog Tryz.f117).getD ⟨0, [], .skip⟩
noncomputable def w117 : Sh := shW 2 fun call n K => pA2 (s117 call n) K
theorem w117_ok {E : Env} (e : E.code 117 = some A117) (hp : E.prim 117 = none) : ShOK E 117 w117 := shW_ok (A := { pts := [(27, [1, 5, 8, 10, 11, 12])], lps := [(8, [1, 5, 10, 11, 12])], cuts := [(20, [(3, 21001, [1, 5, 6, 10, 11, 12, 19])])] }) (S := T117) e hp (by kernel_rfl) (by kernel_rfl) (by kernel_rfl)

@[irreducible] noncomputable def A118 : AFun := (compFn Tryz.prog Tryz.f118).getD ⟨0, [], .skip⟩
noncomputable def w118 : Sh := shW 1 fun call n K => pA1 (s118 call n) K
theorem w118_ok {E : Env} (e : E.code 118 = some A118) (hp : E.prim 118 = none) : ShOK E 118 w118 := shW_ok (A := { pts := [], lps := [] }) (S := noS) e hp (by kernel_rfl) (by kernel_rfl) (by kernel_rfl)

@[irreducible] noncomputable def A120 : AFun := (compFn Tryz.prog Tryz.f120).getD ⟨0, [], .skip⟩
noncomputable def w120 : Sh := shW 1 fun call n K => pA1 (s120 call n) K
theorem w120_ok {E : Env} (e : E.code 120 = some A120) (hp : E.prim 120 = none) : ShOK E 120 w120 := shW_ok (A := { pts := [], lps := [] }) (S := noS) e hp (by kernel_rfl) (by kernel_rfl) (by kernel_rfl)

@[irreducible] noncomputable def A121 : AFun := (compFn Tryz.prog Tryz.f121).getD ⟨0, [], .skip⟩
noncomputable def w121 : Sh := shW 2 fun call n K => pA2 (s121 call n) K
theorem w121_ok {E : Env} (e : E.code 121 = some A121) (hp : E.prim 121 = none) : ShOK E 121 w121 := shW_ok (A := { pts := [], lps := [] }) (S := noS) e hp (by kernel_rfl) (by kernel_rfl) (by kernel_rfl)

noncomputable def T122 (call : CallFn) (n : Nat) (K : Kont) : Sp := {
  pt := fun β j => ifF j 156 (pA1 (p122_156 call n) K) <| noP
  fs := fun β j => noP
  rd := fun β j => noP
  lp := fun β j m => noP }
@[irreducible] noncomputable def A122 : AFun := (compFn Tryz.prog Tryz.f122).getD ⟨0, [], .skip⟩
noncomputable def w122 : Sh := shW 1 fun call n K => pA1 (s122 call n) K
theorem w122_ok {E : Env} (e : E.code 122 = some A122) (hp : E.prim 122 = none) : ShOK E 122 w122 := shW_ok (A := { pts := [(156, [4])], lps := [] }) (S := T122) e hp (by kernel_rfl) (by kernel_rfl) (by kernel_rfl)

@[irreducible] noncomputable def A123 : AFun := (compFn Tryz.prog Tryz.f123).getD ⟨0, [], .skip⟩
noncomputable def w123 : Sh := shW 1 fun call n K => pA1 (s123 call n) K
theorem w123_ok {E : Env} (e : E.code 123 = some A123) (hp : E.prim 123 = none) : ShOK E 123 w123 := shW_ok (A := { pts := [], lps := [] }) (S := noS) e hp (by kernel_rfl) (by kernel_rfl) (by kernel_rfl)

@[irreducible] noncomputable def A124 : AFun := (compFn Tryz.prog Tryz.f124).getD ⟨0, [], .skip⟩
noncomputable def w124 : Sh := shW 2 fun call n K => pA2 (s124 call n) K
theorem w124_ok {E : Env} (e : E.code 124 = some A124) (hp : E.prim 124 = none) : ShOK E 124 w124 := shW_ok (A := { pts := [], lps := [] }) (S := noS) e hp (by kernel_rfl) (by kernel_rfl) (by kernel_rfl)

noncomputable def T125 (call : CallFn) (n : Nat) (K : Kont) : Sp := {
  pt := fun β j => ifF j 4001 (pA2 (p125_4001 call n) K) <| noP
  fs := fun β j => noP
  rd := fun β j => noP
  lp := fun β j m => noP }
@[irreducible] noncomputable def A125 : AFun := (compFn Tryz.prog Tryz.f125).getD ⟨0, [], .skip⟩
noncomputable def w125 : Sh := shW 2 fun call n K => pA2 (s125 call n) K
theorem w125_ok {E : Env} (e : E.code 125 = some A125) (hp : E.prim 125 = none) : ShOK E 125 w125 := shW_ok (A := { pts := [], lps := [], cuts := [(3, [(2, 4001, [1, 6])])] }) (S := T125) e hp (by kernel_rfl) (by kernel_rfl) (by kernel_rfl)

noncomputable def T127 (call : CallFn) (n : Nat) (K : Kont) : Sp := {
  pt := fun β j => ifF j 9001 (pA2 (p127_9001 call n) K) <| ifF j 15001 (pA2 (p127_15001 call n) K) <| ifF j 23001 (pA3 (p127_23001 call n) K) <| ifF j 27001 (pA4 (p127_27001 call n) K) <| ifF j 37001 (pA2 (p127_37001 call n) K) <| ifF j 45001 (pA3 (p127_45001 call n) K) <| ifF j 55001 (pA2 (p127_55001 call n) K) <| ifF j 61001 (pA2 (p127_61001 call n) K) <| ifF j 64001 (pA3 (p127_64001 call n) K) <| ifF j 64002 (pA4 (p127_64002 call n) K) <| ifF j 67001 (pA3 (p127_67001 call n) K) <| ifF j 71001 (pA3 (p127_71001 call n) K) <| ifF j 77001 (pA2 (p127_77001 call n) K) <| noP
  fs := fun β j => noP
  rd := fun β j => noP
  lp := fun β j m => noP }
@[irreducible] noncomputable def A127 : AFun := (compFn Tryz.prog Tryz.f127).getD ⟨0, [], .skip⟩
noncomputable def w127 : Sh := shW 1 fun call n K => pA1 (s127 call n) K
theorem w127_ok {E : Env} (e : E.code 127 = some A127) (hp : E.prim 127 = none) : ShOK E 127 w127 := shW_ok (A := { pts := [], lps := [], cuts := [(8, [(2, 9001, [2, 10])]), (14, [(2, 15001, [2, 16])]), (22, [(3, 23001, [0, 2, 25])]), (26, [(3, 27001, [0, 2, 3, 32])]), (36, [(2, 37001, [2, 41])]), (44, [(2, 45001, [0, 2, 48])]), (54, [(2, 55001, [2, 57])]), (60, [(2, 61001, [2, 62])]), (63, [(2, 64001, [0, 2, 65]), (3, 64002, [0, 2, 66, 68])]), (66, [(2, 67001, [0, 2, 72])]), (70, [(2, 71001, [2, 5, 78])]), (76, [(2, 77001, [2, 82])])] }) (S := T127) e hp (by kernel_rfl) (by kernel_rfl) (by kernel_rfl)

noncomputable def T128 (call : CallFn) (n : Nat) (K : Kont) : Sp := {
  pt := fun β j => ifF j 12 (pA2 (p128_12 call n) K) <| noP
  fs := fun β j => noP
  rd := fun β j => noP
  lp := fun β j m => noP }
@[irreducible] noncomputable def A128 : AFun := (compFn Tryz.prog Tryz.f128).getD ⟨0, [], .skip⟩
noncomputable def w128 : Sh := shW 2 fun call n K => pA2 (s128 call n) K
theorem w128_ok {E : Env} (e : E.code 128 = some A128) (hp : E.prim 128 = none) : ShOK E 128 w128 := shW_ok (A := { pts := [(12, [2, 5])], lps := [] }) (S := T128) e hp (by kernel_rfl) (by kernel_rfl) (by kernel_rfl)

noncomputable def T129 (call : CallFn) (n : Nat) (K : Kont) : Sp := {
  pt := fun β j => ifF j 4001 (pA2 (p129_4001 call n) K) <| noP
  fs := fun β j => noP
  rd := fun β j => noP
  lp := fun β j m => noP }
@[irreducible] noncomputable def A129 : AFun := (compFn Tryz.prog Tryz.f129).getD ⟨0, [], .skip⟩
noncomputable def w129 : Sh := shW 1 fun call n K => pA1 (s129 call n) K
theorem w129_ok {E : Env} (e : E.code 129 = some A129) (hp : E.prim 129 = none) : ShOK E 129 w129 := shW_ok (A := { pts := [], lps := [], cuts := [(3, [(2, 4001, [2, 4])])] }) (S := T129) e hp (by kernel_rfl) (by kernel_rfl) (by kernel_rfl)

noncomputable def T130 (call : CallFn) (n : Nat) (K : Kont) : Sp := {
  pt := fun β j => ifF j 22 (pA5 (p130_22 call n (pF4 (pB 0 β))) K) <| ifF j 28 (pA5 (p130_28 call n (pF4 (pB 0 β))) K) <| noP
  fs := fun β j => noP
  rd := fun β j => ifF j 3 (pA4 (b130_3 call n (pF4 (pB 0 β))) K) <| noP
  lp := fun β j m => ifL j 3 (pC4 (l130_3 call n m) K) <| noP }
@[irreducible] noncomputable def A130 : AFun := (compFn Tryz.prog Tryz.f130).getD ⟨0, [], .skip⟩
noncomputable def w130 : Sh := shW 2 fun call n K => pA2 (s130 call n) K
theorem w130_ok {E : Env} (e : E.code 130 = some A130) (hp : E.prim 130 = none) : ShOK E 130 w130 := shW_ok (A := { pts := [(22, [0, 5, 6, 7, 8]), (28, [0, 5, 6, 7, 8])], lps := [(3, [0, 6, 7, 8])] }) (S := T130) e hp (by kernel_rfl) (by kernel_rfl) (by kernel_rfl)

noncomputable def T131 (call : CallFn) (n : Nat) (K : Kont) : Sp := {
  pt := fun β j => ifF j 30 (pA4 (p131_30 call n (pF4 (pB 0 β))) K) <| ifF j 31 (pA1 (p131_31 call n) K) <| noP
  fs := fun β j => noP
  rd := fun β j => ifF j 10 (pA4 (b131_10 call n (pF4 (pB 0 β))) K) <| noP
  lp := fun β j m => ifL j 10 (pC4 (l131_10 call n m) K) <| noP }
@[irreducible] noncomputable def A131 : AFun := (compFn Tryz.prog Tryz.f131).getD ⟨0, [], .skip⟩
noncomputable def w131 : Sh := shW 1 fun call n K => pA1 (s131 call n) K
theorem w131_ok {E : Env} (e : E.code 131 = some A131) (hp : E.prim 131 = none) : ShOK E 131 w131 := shW_ok (A := { pts := [(30, [0, 3, 8, 9]), (31, [3])], lps := [(10, [0, 3, 8, 9])] }) (S := T131) e hp (by kernel_rfl) (by kernel_rfl) (by kernel_rfl)

@[irreducible] noncomputable def A132 : AFun := (compFn Tryz.prog Tryz.f132).getD ⟨0, [], .skip⟩
noncomputable def w132 : Sh := shW 1 fun call n K => pA1 (s132 call n) K
theorem w132_ok {E : Env} (e : E.code 132 = some A132) (hp : E.prim 132 = none) : ShOK E 132 w132 := shW_ok (A := { pts := [], lps := [] }) (S := noS) e hp (by kernel_rfl) (by kernel_rfl) (by kernel_rfl)

@[irreducible] noncomputable def A133 : AFun := (compFn Tryz.prog Tryz.f133).getD ⟨0, [], .skip⟩
noncomputable def w133 : Sh := shW 2 fun call n K => pA2 (s133 call n) K
theorem w133_ok {E : Env} (e : E.code 133 = some A133) (hp : E.prim 133 = none) : ShOK E 133 w133 := shW_ok (A := { pts := [], lps := [] }) (S := noS) e hp (by kernel_rfl) (by kernel_rfl) (by kernel_rfl)

noncomputable def T134 (call : CallFn) (n : Nat) (K : Kont) : Sp := {
  pt := fun β j => noP
  fs := fun β j => noP
  rd := fun β j => ifF j 3 (pA4 (b134_3 call n (pF4 (pB 0 β))) K) <| noP
  lp := fun β j m => ifL j 3 (pC4 (l134_3 call n m) K) <| noP }
@[irreducible] noncomputable def A134 : AFun := (compFn Tryz.prog Tryz.f134).getD ⟨0, [], .skip⟩
noncomputable def w134 : Sh := shW 2 fun call n K => pA2 (s134 call n) K
theorem w134_ok {E : Env} (e : E.code 134 = some A134) (hp : E.prim 134 = none) : ShOK E 134 w134 := shW_ok (A := { pts := [], lps := [(3, [0, 6, 7, 8])] }) (S := T134) e hp (by kernel_rfl) (by kernel_rfl) (by kernel_rfl)

noncomputable def T135 (call : CallFn) (n : Nat) (K : Kont) : Sp := {
  pt := fun β j => ifF j 12 (pA4 (p135_12 call n) K) <| ifF j 30 (pA4 (p135_30 call n) K) <| ifF j 43 (pA1 (p135_43 call n) K) <| ifF j 38001 (pA3 (p135_38001 call n) K) <| noP
  fs := fun β j => noP
  rd := fun β j => noP
  lp := fun β j m => noP }
@[irreducible] noncomputable def A135 : AFun := (compFn Tryz.prog Tryz.f135).getD ⟨0, [], .skip⟩
noncomputable def w135 : Sh := shW 2 fun call n K => pA2 (s135 call n) K
theorem w135_ok {E : Env} (e : E.code 135 = some A135) (hp : E.prim 135 = none) : ShOK E 135 w135 := shW_ok (A := { pts := [(12, [0, 3, 5, 8]), (30, [0, 3, 5, 38]), (43, [0])], lps := [], cuts := [(37, [(4, 38001, [0, 55, 58])])] }) (S := T135) e hp (by kernel_rfl) (by kernel_rfl) (by kernel_rfl)

noncomputable def T136 (call : CallFn) (n : Nat) (K : Kont) : Sp := {
  pt := fun β j => ifF j 20 (pA6 (p136_20 call n (pF5 (pB 0 β))) K) <| noP
  fs := fun β j => noP
  rd := fun β j => ifF j 3 (pA5 (b136_3 call n (pF5 (pB 0 β))) K) <| noP
  lp := fun β j m => ifL j 3 (pC5 (l136_3 call n m) K) <| noP }
@[irreducible] noncomputable def A136 : AFun := (compFn Tryz.prog Tryz.f136).getD ⟨0, [], .skip⟩
noncomputable def w136 : Sh := shW 3 fun call n K => pA3 (s136 call n) K
theorem w136_ok {E : Env} (e : E.code 136 = some A136) (hp : E.prim 136 = none) : ShOK E 136 w136 := shW_ok (A := { pts := [(20, [0, 2, 7, 8, 9, 10])], lps := [(3, [0, 2, 8, 9, 10])] }) (S := T136) e hp (by kernel_rfl) (by kernel_rfl) (by kernel_rfl)

@[irreducible] noncomputable def A137 : AFun := (compFn Tryz.prog Tryz.f137).getD ⟨0, [], .skip⟩
noncomputable def w137 : Sh := shW 2 fun call n K => pA2 (s137 call n) K
theorem w137_ok {E : Env} (e : E.code 137 = some A137) (hp : E.prim 137 = none) : ShOK E 137 w137 := shW_ok (A := { pts := [], lps := [] }) (S := noS) e hp (by kernel_rfl) (by kernel_rfl) (by kernel_rfl)

noncomputable def T138 (call : CallFn) (n : Nat) (K : Kont) : Sp := {
  pt := fun β j => ifF j 10 (pA2 (p138_10 call n) K) <| noP
  fs := fun β j => noP
  rd := fun β j => ifF j 14 (pA4 (b138_14 call n (pF4 (pB 0 β))) K) <| noP
  lp := fun β j m => ifL j 14 (pC4 (l138_14 call n m) K) <| noP }
@[irreducible] noncomputable def A138 : AFun := (compFn Tryz.prog Tryz.f138).getD ⟨0, [], .skip⟩
noncomputable def w138 : Sh := shW 2 fun call n K => pA2 (s138 call n) K
theorem w138_ok {E : Env} (e : E.code 138 = some A138) (hp : E.prim 138 = none) : ShOK E 138 w138 := shW_ok (A := { pts := [(10, [0, 1])], lps := [(14, [0, 1, 12, 13])] }) (S := T138) e hp (by kernel_rfl) (by kernel_rfl) (by kernel_rfl)

@[irreducible] noncomputable def A139 : AFun := (compFn Tryz.prog Tryz.f139).getD ⟨0, [], .skip⟩
noncomputable def w139 : Sh := shW 2 fun call n K => pA2 (s139 call n) K
theorem w139_ok {E : Env} (e : E.code 139 = some A139) (hp : E.prim 139 = none) : ShOK E 139 w139 := shW_ok (A := { pts := [], lps := [] }) (S := noS) e hp (by kernel_rfl) (by kernel_rfl) (by kernel_rfl)

noncomputable def T140 (call : CallFn) (n : Nat) (K : Kont) : Sp := {
  pt := fun β j => ifF j 10 (pA3 (p140_10 call n) K) <| ifF j 29001 (pA6 (p140_29001 call n (pF5 (pB 0 β))) K) <| noP
  fs := fun β j => noP
  rd := fun β j => ifF j 14 (pA5 (b140_14 call n (pF5 (pB 0 β))) K) <| noP
  lp := fun β j m => ifL j 14 (pC5 (l140_14 call n m) K) <| noP }
@[irreducible] noncomputable def A140 : AFun := (compFn Tryz.prog Tryz.f140).getD ⟨0, [], .skip⟩
noncomputable def w140 : Sh := shW 3 fun call n K => pA3 (s140 call n) K
theorem w140_ok {E : Env} (e : E.code 140 = some A140) (hp : E.prim 140 = none) : ShOK E 140 w140 := shW_ok (A := { pts := [(10, [0, 1, 2])], lps := [(14, [1, 2, 15, 16, 17])], cuts := [(28, [(4, 29001, [1, 2, 15, 16, 17, 29])])] }) (S := T140) e hp (by kernel_rfl) (by kernel_rfl) (by kernel_rfl)

noncomputable def T141 (call : CallFn) (n : Nat) (K : Kont) : Sp := {
  pt := fun β j => ifF j 4001 (pA4 (p141_4001 call n) K) <| ifF j 4002 (pA2 (p141_4002 call n) K) <| noP
  fs := fun β j => noP
  rd := fun β j => noP
  lp := fun β j m => noP }
@[irreducible] noncomputable def A141 : AFun := (compFn Tryz.prog Tryz.f141).getD ⟨0, [], .skip⟩
noncomputable def w141 : Sh := shW 2 fun call n K => pA2 (s141 call n) K
theorem w141_ok {E : Env} (e : E.code 141 = some A141) (hp : E.prim 141 = none) : ShOK E 141 w141 := shW_ok (A := { pts := [], lps := [], cuts := [(3, [(25, 4001, [2, 3, 24, 29]), (7, 4002, [31, 36])])] }) (S := T141) e hp (by kernel_rfl) (by kernel_rfl) (by kernel_rfl)

noncomputable def T142 (call : CallFn) (n : Nat) (K : Kont) : Sp := {
  pt := fun β j => ifF j 10 (pA2 (p142_10 call n) K) <| noP
  fs := fun β j => noP
  rd := fun β j => ifF j 14 (pA4 (b142_14 call n (pF4 (pB 0 β))) K) <| noP
  lp := fun β j m => ifL j 14 (pC4 (l142_14 call n m) K) <| noP }
@[irreducible] noncomputable def A142 : AFun := (compFn Tryz.prog Tryz.f142).getD ⟨0, [], .skip⟩
noncomputable def w142 : Sh := shW 2 fun call n K => pA2 (s142 call n) K
theorem w142_ok {E : Env} (e : E.code 142 = some A142) (hp : E.prim 142 = none) : ShOK E 142 w142 := shW_ok (A := { pts := [(10, [0, 1])], lps := [(14, [0, 1, 12, 13])] }) (S := T142) e hp (by kernel_rfl) (by kernel_rfl) (by kernel_rfl)

noncomputable def T143 (call : CallFn) (n : Nat) (K : Kont) : Sp := {
  pt := fun β j => ifF j 156 (pA1 (p143_156 call n) K) <| noP
  fs := fun β j => noP
  rd := fun β j => noP
  lp := fun β j m => noP }
@[irreducible] noncomputable def A143 : AFun := (compFn Tryz.prog Tryz.f143).getD ⟨0, [], .skip⟩
noncomputable def w143 : Sh := shW 1 fun call n K => pA1 (s143 call n) K
theorem w143_ok {E : Env} (e : E.code 143 = some A143) (hp : E.prim 143 = none) : ShOK E 143 w143 := shW_ok (A := { pts := [(156, [4])], lps := [] }) (S := T143) e hp (by kernel_rfl) (by kernel_rfl) (by kernel_rfl)

noncomputable def T144 (call : CallFn) (n : Nat) (K : Kont) : Sp := {
  pt := fun β j => ifF j 14001 (pA4 (p144_14001 call n (pF4 (pB 0 β))) K) <| noP
  fs := fun β j => noP
  rd := fun β j => ifF j 3 (pA4 (b144_3 call n (pF4 (pB 0 β))) K) <| noP
  lp := fun β j m => ifL j 3 (pC4 (l144_3 call n m) K) <| noP }
@[irreducible] noncomputable def A144 : AFun := (compFn Tryz.prog Tryz.f144).getD ⟨0, [], .skip⟩
noncomputable def w144 : Sh := shW 3 fun call n K => pA3 (s144 call n) K
theorem w144_ok {E : Env} (e : E.code 144 = some A144) (hp : E.prim 144 = none) : ShOK E 144 w144 := shW_ok (A := { pts := [], lps := [(3, [0, 1, 4, 5])], cuts := [(13, [(9, 14001, [0, 1, 4, 40])])] }) (S := T144) e hp (by kernel_rfl) (by kernel_rfl) (by kernel_rfl)

noncomputable def T145 (call : CallFn) (n : Nat) (K : Kont) : Sp := {
  pt := fun β j => noP
  fs := fun β j => noP
  rd := fun β j => ifF j 6 (pA4 (b145_6 call n (pF4 (pB 0 β))) K) <| noP
  lp := fun β j m => ifL j 6 (pC4 (l145_6 call n m) K) <| noP }
@[irreducible] noncomputable def A145 : AFun := (compFn Tryz.prog Tryz.f145).getD ⟨0, [], .skip⟩
noncomputable def w145 : Sh := shW 2 fun call n K => pA2 (s145 call n) K
theorem w145_ok {E : Env} (e : E.code 145 = some A145) (hp : E.prim 145 = none) : ShOK E 145 w145 := shW_ok (A := { pts := [], lps := [(6, [0, 1, 7, 8])] }) (S := T145) e hp (by kernel_rfl) (by kernel_rfl) (by kernel_rfl)

noncomputable def T147 (call : CallFn) (n : Nat) (K : Kont) : Sp := {
  pt := fun β j => ifF j 27 (pA4 (p147_27 call n) K) <| ifF j 33 (pA4 (p147_33 call n) K) <| ifF j 50 (pA2 (p147_50 call n) K) <| ifF j 6001 (pA4 (p147_6001 call n) K) <| noP
  fs := fun β j => noP
  rd := fun β j => ifF j 10 (pA7 (b147_10 call n (pF7 (pB 0 β))) K) <| ifF j 37 (pA7 (b147_37 call n (pF7 (pB 0 β))) K) <| noP
  lp := fun β j m => ifL j 10 (pC7 (l147_10 call n m) K) <| ifL j 37 (pC7 (l147_37 call n m) K) <| noP }
@[irreducible] noncomputable def A147 : AFun := (compFn Tryz.prog Tryz.f147).getD ⟨0, [], .skip⟩
noncomputable def w147 : Sh := shW 3 fun call n K => pA3 (s147 call n) K
theorem w147_ok {E : Env} (e : E.code 147 = some A147) (hp : E.prim 147 = none) : ShOK E 147 w147 := shW_ok (A := { pts := [(27, [2, 3, 4, 6]), (33, [2, 3, 4, 6]), (50, [2, 6])], lps := [(10, [2, 3, 4, 6, 36, 37, 38]), (37, [2, 3, 4, 6, 82, 83, 84])], cuts := [(5, [(2, 6001, [2, 3, 4, 34])])] }) (S := T147) e hp (by kernel_rfl) (by kernel_rfl) (by kernel_rfl)

@[irreducible] noncomputable def A148 : AFun := (compFn Tryz.prog Tryz.f148).getD ⟨0, [], .skip⟩
noncomputable def w148 : Sh := shW 2 fun call n K => pA2 (s148 call n) K
theorem w148_ok {E : Env} (e : E.code 148 = some A148) (hp : E.prim 148 = none) : ShOK E 148 w148 := shW_ok (A := { pts := [], lps := [] }) (S := noS) e hp (by kernel_rfl) (by kernel_rfl) (by kernel_rfl)

noncomputable def T149 (call : CallFn) (n : Nat) (K : Kont) : Sp := {
  pt := fun β j => ifF j 15 (pA7 (p149_15 call n (pF7 (pB 0 β))) K) <| ifF j 37 (pA7 (p149_37 call n (pF7 (pB 0 β))) K) <| ifF j 38 (pA3 (p149_38 call n) K) <| ifF j 21001 (pA8 (p149_21001 call n (pF7 (pB 0 β))) K) <| noP
  fs := fun β j => noP
  rd := fun β j => ifF j 8 (pA7 (b149_8 call n (pF7 (pB 0 β))) K) <| ifF j 22 (pA8 (b149_22 call n (pF7 (pB 1 β)) (pF8 (pB 0 β))) K) <| ifF j 41 (pA3 (b149_41 call n (pF3 (pB 0 β))) K) <| noP
  lp := fun β j m => ifL j 8 (pC7 (l149_8 call n m) K) <| ifL j 22 (pC8 (l149_22 call n (pF7 (pB 0 β)) m) K) <| ifL j 41 (pC3 (l149_41 call n m) K) <| noP }
@[irreducible] noncomputable def A149 : AFun := (compFn Tryz.prog Tryz.f149).getD ⟨0, [], .skip⟩
noncomputable def w149 : Sh := shW 3 fun call n K => pA3 (s149 call n) K
theorem w149_ok {E : Env} (e : E.code 149 = some A149) (hp : E.prim 149 = none) : ShOK E 149 w149 := shW_ok (A := { pts := [(15, [0, 2, 4, 6, 15, 16, 17]), (37, [0, 2, 4, 6, 15, 16, 17]), (38, [2, 4, 6])], lps := [(8, [0, 2, 4, 6, 15, 16, 17]), (22, [0, 2, 4, 6, 15, 16, 17, 25]), (41, [2, 4, 47])], cuts := [(20, [(4, 21001, [0, 2, 4, 6, 15, 16, 17, 24])])] }) (S := T149) e hp (by kernel_rfl) (by kernel_rfl) (by kernel_rfl)

noncomputable def T150 (call : CallFn) (n : Nat) (K : Kont) : Sp := {
  pt := fun β j => ifF j 4001 (pA2 (p150_4001 call n) K) <| noP
  fs := fun β j => noP
  rd := fun β j => noP
  lp := fun β j m => noP }
@[irreducible] noncomputable def A150 : AFun := (compFn Tryz.prog Tryz.f150).getD ⟨0, [], .skip⟩
noncomputable def w150 : Sh := shW 3 fun call n K => pA3 (s150 call n) K
theorem w150_ok {E : Env} (e : E.code 150 = some A150) (hp : E.prim 150 = none) : ShOK E 150 w150 := shW_ok (A := { pts := [], lps := [], cuts := [(3, [(3, 4001, [5, 14])])] }) (S := T150) e hp (by kernel_rfl) (by kernel_rfl) (by kernel_rfl)

noncomputable def T151 (call : CallFn) (n : Nat) (K : Kont) : Sp := {
  pt := fun β j => noP
  fs := fun β j => noP
  rd := fun β j => ifF j 7 (pA4 (b151_7 call n (pF4 (pB 0 β))) K) <| noP
  lp := fun β j m => ifL j 7 (pC4 (l151_7 call n m) K) <| noP }
@[irreducible] noncomputable def A151 : AFun := (compFn Tryz.prog Tryz.f151).getD ⟨0, [], .skip⟩
noncomputable def w151 : Sh := shW 2 fun call n K => pA2 (s151 call n) K
theorem w151_ok {E : Env} (e : E.code 151 = some A151) (hp : E.prim 151 = none) : ShOK E 151 w151 := shW_ok (A := { pts := [], lps := [(7, [1, 10, 11, 12])] }) (S := T151) e hp (by kernel_rfl) (by kernel_rfl) (by kernel_rfl)

noncomputable def T152 (call : CallFn) (n : Nat) (K : Kont) : Sp := {
  pt := fun β j => ifF j 5001 (pA2 (p152_5001 call n) K) <| noP
  fs := fun β j => noP
  rd := fun β j => noP
  lp := fun β j m => noP }
@[irreducible] noncomputable def A152 : AFun := (compFn Tryz.prog Tryz.f152).getD ⟨0, [], .skip⟩
noncomputable def w152 : Sh := shW 2 fun call n K => pA2 (s152 call n) K
theorem w152_ok {E : Env} (e : E.code 152 = some A152) (hp : E.prim 152 = none) : ShOK E 152 w152 := shW_ok (A := { pts := [], lps := [], cuts := [(4, [(8, 5001, [10, 14])])] }) (S := T152) e hp (by kernel_rfl) (by kernel_rfl) (by kernel_rfl)

noncomputable def T153 (call : CallFn) (n : Nat) (K : Kont) : Sp := {
  pt := fun β j => noP
  fs := fun β j => noP
  rd := fun β j => ifF j 6 (pA4 (b153_6 call n (pF4 (pB 0 β))) K) <| noP
  lp := fun β j m => ifL j 6 (pC4 (l153_6 call n m) K) <| noP }
@[irreducible] noncomputable def A153 : AFun := (compFn Tryz.prog Tryz.f153).getD ⟨0, [], .skip⟩
noncomputable def w153 : Sh := shW 2 fun call n K => pA2 (s153 call n) K
theorem w153_ok {E : Env} (e : E.code 153 = some A153) (hp : E.prim 153 = none) : ShOK E 153 w153 := shW_ok (A := { pts := [], lps := [(6, [0, 1, 7, 8])] }) (S := T153) e hp (by kernel_rfl) (by kernel_rfl) (by kernel_rfl)

noncomputable def T154 (call : CallFn) (n : Nat) (K : Kont) : Sp := {
  pt := fun β j => noP
  fs := fun β j => noP
  rd := fun β j => ifF j 6 (pA4 (b154_6 call n (pF4 (pB 0 β))) K) <| noP
  lp := fun β j m => ifL j 6 (pC4 (l154_6 call n m) K) <| noP }
@[irreducible] noncomputable def A154 : AFun := (compFn Tryz.prog Tryz.f154).getD ⟨0, [], .skip⟩
noncomputable def w154 : Sh := shW 2 fun call n K => pA2 (s154 call n) K
theorem w154_ok {E : Env} (e : E.code 154 = some A154) (hp : E.prim 154 = none) : ShOK E 154 w154 := shW_ok (A := { pts := [], lps := [(6, [0, 1, 7, 8])] }) (S := T154) e hp (by kernel_rfl) (by kernel_rfl) (by kernel_rfl)

noncomputable def T155 (call : CallFn) (n : Nat) (K : Kont) : Sp := {
  pt := fun β j => ifF j 4001 (pA1 (p155_4001 call n) K) <| noP
  fs := fun β j => noP
  rd := fun β j => noP
  lp := fun β j m => noP }
@[irreducible] noncomputable def A155 : AFun := (compFn Tryz.prog Tryz.f155).getD ⟨0, [], .skip⟩
noncomputable def w155 : Sh := shW 2 fun call n K => pA2 (s155 call n) K
theorem w155_ok {E : Env} (e : E.code 155 = some A155) (hp : E.prim 155 = none) : ShOK E 155 w155 := shW_ok (A := { pts := [], lps := [], cuts := [(3, [(3, 4001, [7])])] }) (S := T155) e hp (by kernel_rfl) (by kernel_rfl) (by kernel_rfl)

@[irreducible] noncomputable def A156 : AFun := (compFn Tryz.prog Tryz.f156).getD ⟨0, [], .skip⟩
noncomputable def w156 : Sh := shW 2 fun call n K => pA2 (s156 call n) K
theorem w156_ok {E : Env} (e : E.code 156 = some A156) (hp : E.prim 156 = none) : ShOK E 156 w156 := shW_ok (A := { pts := [], lps := [] }) (S := noS) e hp (by kernel_rfl) (by kernel_rfl) (by kernel_rfl)

noncomputable def T157 (call : CallFn) (n : Nat) (K : Kont) : Sp := {
  pt := fun β j => ifF j 4001 (pA1 (p157_4001 call n) K) <| noP
  fs := fun β j => noP
  rd := fun β j => noP
  lp := fun β j m => noP }
@[irreducible] noncomputable def A157 : AFun := (compFn Tryz.prog Tryz.f157).getD ⟨0, [], .skip⟩
noncomputable def w157 : Sh := shW 2 fun call n K => pA2 (s157 call n) K
theorem w157_ok {E : Env} (e : E.code 157 = some A157) (hp : E.prim 157 = none) : ShOK E 157 w157 := shW_ok (A := { pts := [], lps := [], cuts := [(3, [(3, 4001, [7])])] }) (S := T157) e hp (by kernel_rfl) (by kernel_rfl) (by kernel_rfl)

noncomputable def T159 (call : CallFn) (n : Nat) (K : Kont) : Sp := {
  pt := fun β j => ifF j 6 (pA3 (p159_6 call n) K) <| ifF j 16 (pA5 (p159_16 call n (pF5 (pB 0 β))) K) <| ifF j 37 (pA6 (p159_37 call n (pF5 (pB 0 β))) K) <| ifF j 56 (pA6 (p159_56 call n (pF5 (pB 0 β))) K) <| ifF j 76 (pA5 (p159_76 call n (pF5 (pB 0 β))) K) <| noP
  fs := fun β j => noP
  rd := fun β j => ifF j 9 (pA5 (b159_9 call n (pF5 (pB 0 β))) K) <| ifF j 24 (pA9 (b159_24 call n (pF5 (pB 1 β)) (pF9 (pB 0 β))) K) <| ifF j 43 (pA9 (b159_43 call n (pF5 (pB 1 β)) (pF9 (pB 0 β))) K) <| ifF j 63 (pA8 (b159_63 call n (pF5 (pB 1 β)) (pF8 (pB 0 β))) K) <| noP
  lp := fun β j m => ifL j 9 (pC5 (l159_9 call n m) K) <| ifL j 24 (pC9 (l159_24 call n (pF5 (pB 0 β)) m) K) <| ifL j 43 (pC9 (l159_43 call n (pF5 (pB 0 β)) m) K) <| ifL j 63 (pC8 (l159_63 call n (pF5 (pB 0 β)) m) K) <| noP }
@[irreducible] noncomputable def A159 : AFun := (compFn Tryz.prog Tryz.f159).getD ⟨0, [], .skip⟩
noncomputable def w159 : Sh := shW 3 fun call n K => pA3 (s159 call n) K
theorem w159_ok {E : Env} (e : E.code 159 = some A159) (hp : E.prim 159 = none) : ShOK E 159 w159 := shW_ok (A := { pts := [(6, [0, 1, 2]), (16, [1, 2, 16, 17, 18]), (37, [1, 2, 7, 16, 17, 18]), (56, [1, 2, 7, 16, 17, 18]), (76, [1, 2, 16, 17, 18])], lps := [(9, [1, 2, 16, 17, 18]), (24, [1, 2, 7, 16, 17, 18, 23, 24, 25]), (43, [1, 2, 7, 16, 17, 18, 38, 39, 40]), (63, [1, 2, 16, 17, 18, 62, 63, 64])] }) (S := T159) e hp (by kernel_rfl) (by kernel_rfl) (by kernel_rfl)

@[irreducible] noncomputable def A160 : AFun := (compFn Tryz.prog Tryz.f160).getD ⟨0, [], .skip⟩
noncomputable def w160 : Sh := shW 3 fun call n K => pA3 (s160 call n) K
theorem w160_ok {E : Env} (e : E.code 160 = some A160) (hp : E.prim 160 = none) : ShOK E 160 w160 := shW_ok (A := { pts := [], lps := [] }) (S := noS) e hp (by kernel_rfl) (by kernel_rfl) (by kernel_rfl)

@[irreducible] noncomputable def A161 : AFun := (compFn Tryz.prog Tryz.f161).getD ⟨0, [], .skip⟩
noncomputable def w161 : Sh := shW 2 fun call n K => pA2 (s161 call n) K
theorem w161_ok {E : Env} (e : E.code 161 = some A161) (hp : E.prim 161 = none) : ShOK E 161 w161 := shW_ok (A := { pts := [], lps := [] }) (S := noS) e hp (by kernel_rfl) (by kernel_rfl) (by kernel_rfl)

noncomputable def T162 (call : CallFn) (n : Nat) (K : Kont) : Sp := {
  pt := fun β j => ifF j 4001 (pA1 (p162_4001 call n) K) <| noP
  fs := fun β j => noP
  rd := fun β j => noP
  lp := fun β j m => noP }
@[irreducible] noncomputable def A162 : AFun := (compFn Tryz.prog Tryz.f162).getD ⟨0, [], .skip⟩
noncomputable def w162 : Sh := shW 2 fun call n K => pA2 (s162 call n) K
theorem w162_ok {E : Env} (e : E.code 162 = some A162) (hp : E.prim 162 = none) : ShOK E 162 w162 := shW_ok (A := { pts := [], lps := [], cuts := [(3, [(3, 4001, [7])])] }) (S := T162) e hp (by kernel_rfl) (by kernel_rfl) (by kernel_rfl)

@[irreducible] noncomputable def A163 : AFun := (compFn Tryz.prog Tryz.f163).getD ⟨0, [], .skip⟩
noncomputable def w163 : Sh := shW 2 fun call n K => pA2 (s163 call n) K
theorem w163_ok {E : Env} (e : E.code 163 = some A163) (hp : E.prim 163 = none) : ShOK E 163 w163 := shW_ok (A := { pts := [], lps := [] }) (S := noS) e hp (by kernel_rfl) (by kernel_rfl) (by kernel_rfl)

noncomputable def T164 (call : CallFn) (n : Nat) (K : Kont) : Sp := {
  pt := fun β j => noP
  fs := fun β j => noP
  rd := fun β j => ifF j 8 (pA4 (b164_8 call n (pF4 (pB 0 β))) K) <| noP
  lp := fun β j m => ifL j 8 (pC4 (l164_8 call n m) K) <| noP }
@[irreducible] noncomputable def A164 : AFun := (compFn Tryz.prog Tryz.f164).getD ⟨0, [], .skip⟩
noncomputable def w164 : Sh := shW 1 fun call n K => pA1 (s164 call n) K
theorem w164_ok {E : Env} (e : E.code 164 = some A164) (hp : E.prim 164 = none) : ShOK E 164 w164 := shW_ok (A := { pts := [], lps := [(8, [3, 6, 7, 8])] }) (S := T164) e hp (by kernel_rfl) (by kernel_rfl) (by kernel_rfl)

noncomputable def T165 (call : CallFn) (n : Nat) (K : Kont) : Sp := {
  pt := fun β j => ifF j 12 (pA3 (p165_12 call n) K) <| ifF j 34 (pA4 (p165_34 call n (pF4 (pB 0 β))) K) <| ifF j 35 (pA2 (p165_35 call n) K) <| ifF j 29001 (pA6 (p165_29001 call n (pF4 (pB 0 β))) K) <| noP
  fs := fun β j => noP
  rd := fun β j => ifF j 16 (pA4 (b165_16 call n (pF4 (pB 0 β))) K) <| noP
  lp := fun β j m => ifL j 16 (pC4 (l165_16 call n m) K) <| noP }
@[irreducible] noncomputable def A165 : AFun := (compFn Tryz.prog Tryz.f165).getD ⟨0, [], .skip⟩
noncomputable def w165 : Sh := shW 2 fun call n K => pA2 (s165 call n) K
theorem w165_ok {E : Env} (e : E.code 165 = some A165) (hp : E.prim 165 = none) : ShOK E 165 w165 := shW_ok (A := { pts := [(12, [0, 1, 5]), (34, [0, 1, 5, 6]), (35, [0, 5])], lps := [(16, [0, 1, 5, 6])], cuts := [(28, [(3, 29001, [0, 1, 5, 6, 7, 28])])] }) (S := T165) e hp (by kernel_rfl) (by kernel_rfl) (by kernel_rfl)

noncomputable def T166 (call : CallFn) (n : Nat) (K : Kont) : Sp := {
  pt := fun β j => ifF j 4001 (pA1 (p166_4001 call n) K) <| noP
  fs := fun β j => noP
  rd := fun β j => noP
  lp := fun β j m => noP }
@[irreducible] noncomputable def A166 : AFun := (compFn Tryz.prog Tryz.f166).getD ⟨0, [], .skip⟩
noncomputable def w166 : Sh := shW 2 fun call n K => pA2 (s166 call n) K
theorem w166_ok {E : Env} (e : E.code 166 = some A166) (hp : E.prim 166 = none) : ShOK E 166 w166 := shW_ok (A := { pts := [], lps := [], cuts := [(3, [(3, 4001, [6])])] }) (S := T166) e hp (by kernel_rfl) (by kernel_rfl) (by kernel_rfl)

noncomputable def T167 (call : CallFn) (n : Nat) (K : Kont) : Sp := {
  pt := fun β j => ifF j 13001 (pA3 (p167_13001 call n (pF2 (pB 0 β))) K) <| ifF j 27001 (pA3 (p167_27001 call n (pF2 (pB 0 β))) K) <| noP
  fs := fun β j => noP
  rd := fun β j => ifF j 1 (pA2 (b167_1 call n (pF2 (pB 0 β))) K) <| noP
  lp := fun β j m => ifL j 1 (pC2 (l167_1 call n m) K) <| noP }
@[irreducible] noncomputable def A167 : AFun := (compFn Tryz.prog Tryz.f167).getD ⟨0, [], .skip⟩
noncomputable def w167 : Sh := shW 2 fun call n K => pA2 (s167 call n) K
theorem w167_ok {E : Env} (e : E.code 167 = some A167) (hp : E.prim 167 = none) : ShOK E 167 w167 := shW_ok (A := { pts := [], lps := [(1, [0, 1])], cuts := [(12, [(2, 13001, [0, 1, 19])]), (26, [(3, 27001, [0, 1, 49])])] }) (S := T167) e hp (by kernel_rfl) (by kernel_rfl) (by kernel_rfl)

noncomputable def T168 (call : CallFn) (n : Nat) (K : Kont) : Sp := {
  pt := fun β j => ifF j 23 (pA2 (p168_23 call n (pF1 (pB 0 β))) K) <| ifF j 49 (pA2 (p168_49 call n (pF1 (pB 0 β))) K) <| ifF j 14001 (pA3 (p168_14001 call n (pF1 (pB 0 β))) K) <| ifF j 40001 (pA3 (p168_40001 call n (pF1 (pB 0 β))) K) <| noP
  fs := fun β j => ifF j 0 (pA1 (f168_0 call n (pF1 (pB 0 β))) K) <| noP
  rd := fun β j => ifF j 0 (pA1 (j168_0 call n (pF1 (pB 0 β))) K) <| noP
  lp := fun β j m => ifL j 0 (pC1 (g168_0 call n m) K) <| noP }
@[irreducible] noncomputable def A168 : AFun := (compFn Tryz.prog Tryz.f168).getD ⟨0, [], .skip⟩
noncomputable def w168 : Sh := shW 1 fun call n K => pA1 (s168 call n) K
theorem w168_ok {E : Env} (e : E.code 168 = some A168) (hp : E.prim 168 = none) : ShOK E 168 w168 := shW_ok (A := { pts := [(23, [0, 3]), (49, [0, 3])], lps := [(0, [0])], scs := [(0, [0])], cuts := [(13, [(5, 14001, [0, 31, 33])]), (39, [(5, 40001, [0, 31, 33])])] }) (S := T168) e hp (by kernel_rfl) (by kernel_rfl) (by kernel_rfl)

noncomputable def T169 (call : CallFn) (n : Nat) (K : Kont) : Sp := {
  pt := fun β j => ifF j 15001 (pA3 (p169_15001 call n) K) <| ifF j 27001 (pA3 (p169_27001 call n) K) <| ifF j 39001 (pA3 (p169_39001 call n) K) <| ifF j 45001 (pA2 (p169_45001 call n) K) <| ifF j 53001 (pA3 (p169_53001 call n) K) <| noP
  fs := fun β j => noP
  rd := fun β j => noP
  lp := fun β j m => noP }
@[irreducible] noncomputable def A169 : AFun := (compFn Tryz.prog Tryz.f169).getD ⟨0, [], .skip⟩
noncomputable def w169 : Sh := shW 1 fun call n K => pA1 (s169 call n) K
theorem w169_ok {E : Env} (e : E.code 169 = some A169) (hp : E.prim 169 = none) : ShOK E 169 w169 := shW_ok (A := { pts := [], lps := [], cuts := [(14, [(3, 15001, [2, 3, 18])]), (26, [(3, 27001, [2, 3, 30])]), (38, [(3, 39001, [2, 3, 42])]), (44, [(2, 45001, [2, 50])]), (52, [(3, 53001, [2, 3, 60])])] }) (S := T169) e hp (by kernel_rfl) (by kernel_rfl) (by kernel_rfl)

@[irreducible] noncomputable def A172 : AFun := (compFn Tryz.prog Tryz.f172).getD ⟨0, [], .skip⟩
noncomputable def w172 : Sh := shW 1 fun call n K => pA1 (s172 call n) K
theorem w172_ok {E : Env} (e : E.code 172 = some A172) (hp : E.prim 172 = none) : ShOK E 172 w172 := shW_ok (A := { pts := [], lps := [] }) (S := noS) e hp (by kernel_rfl) (by kernel_rfl) (by kernel_rfl)

noncomputable def T173 (call : CallFn) (n : Nat) (K : Kont) : Sp := {
  pt := fun β j => ifF j 4001 (pA3 (p173_4001 call n) K) <| noP
  fs := fun β j => noP
  rd := fun β j => noP
  lp := fun β j m => noP }
@[irreducible] noncomputable def A173 : AFun := (compFn Tryz.prog Tryz.f173).getD ⟨0, [], .skip⟩
noncomputable def w173 : Sh := shW 2 fun call n K => pA2 (s173 call n) K
theorem w173_ok {E : Env} (e : E.code 173 = some A173) (hp : E.prim 173 = none) : ShOK E 173 w173 := shW_ok (A := { pts := [], lps := [], cuts := [(3, [(2, 4001, [0, 1, 7])])] }) (S := T173) e hp (by kernel_rfl) (by kernel_rfl) (by kernel_rfl)

noncomputable def T174 (call : CallFn) (n : Nat) (K : Kont) : Sp := {
  pt := fun β j => ifF j 25 (pA3 (p174_25 call n) K) <| noP
  fs := fun β j => noP
  rd := fun β j => ifF j 14 (pA4 (b174_14 call n (pF4 (pB 0 β))) K) <| noP
  lp := fun β j m => ifL j 14 (pC4 (l174_14 call n m) K) <| noP }
@[irreducible] noncomputable def A174 : AFun := (compFn Tryz.prog Tryz.f174).getD ⟨0, [], .skip⟩
noncomputable def w174 : Sh := shW 1 fun call n K => pA1 (s174 call n) K
theorem w174_ok {E : Env} (e : E.code 174 = some A174) (hp : E.prim 174 = none) : ShOK E 174 w174 := shW_ok (A := { pts := [(25, [0, 2, 3])], lps := [(14, [0, 2, 3, 4])] }) (S := T174) e hp (by kernel_rfl) (by kernel_rfl) (by kernel_rfl)

noncomputable def T175 (call : CallFn) (n : Nat) (K : Kont) : Sp := {
  pt := fun β j => ifF j 14 (pA3 (p175_14 call n) K) <| ifF j 6001 (pA3 (p175_6001 call n) K) <| ifF j 14001 (pA4 (p175_14001 call n) K) <| ifF j 18001 (pA4 (p175_18001 call n) K) <| ifF j 24001 (pA4 (p175_24001 call n) K) <| noP
  fs := fun β j => noP
  rd := fun β j => noP
  lp := fun β j m => noP }
@[irreducible] noncomputable def A175 : AFun := (compFn Tryz.prog Tryz.f175).getD ⟨0, [], .skip⟩
noncomputable def w175 : Sh := shW 1 fun call n K => pA1 (s175 call n) K
theorem w175_ok {E : Env} (e : E.code 175 = some A175) (hp : E.prim 175 = none) : ShOK E 175 w175 := shW_ok (A := { pts := [(14, [0, 2, 3])], lps := [], cuts := [(5, [(2, 6001, [0, 2, 7])]), (13, [(2, 14001, [0, 2, 3, 16])]), (17, [(2, 18001, [0, 2, 3, 21])]), (23, [(3, 24001, [0, 2, 3, 30])])] }) (S := T175) e hp (by kernel_rfl) (by kernel_rfl) (by kernel_rfl)

noncomputable def T176 (call : CallFn) (n : Nat) (K : Kont) : Sp := {
  pt := fun β j => ifF j 4001 (pA3 (p176_4001 call n) K) <| noP
  fs := fun β j => noP
  rd := fun β j => noP
  lp := fun β j m => noP }
@[irreducible] noncomputable def A176 : AFun := (compFn Tryz.prog Tryz.f176).getD ⟨0, [], .skip⟩
noncomputable def w176 : Sh := shW 1 fun call n K => pA1 (s176 call n) K
theorem w176_ok {E : Env} (e : E.code 176 = some A176) (hp : E.prim 176 = none) : ShOK E 176 w176 := shW_ok (A := { pts := [], lps := [], cuts := [(3, [(2, 4001, [1, 2, 5])])] }) (S := T176) e hp (by kernel_rfl) (by kernel_rfl) (by kernel_rfl)

noncomputable def T177 (call : CallFn) (n : Nat) (K : Kont) : Sp := {
  pt := fun β j => ifF j 12 (pA3 (p177_12 call n) K) <| ifF j 10001 (pA4 (p177_10001 call n) K) <| ifF j 14001 (pA4 (p177_14001 call n) K) <| noP
  fs := fun β j => noP
  rd := fun β j => noP
  lp := fun β j m => noP }
@[irreducible] noncomputable def A177 : AFun := (compFn Tryz.prog Tryz.f177).getD ⟨0, [], .skip⟩
noncomputable def w177 : Sh := shW 1 fun call n K => pA1 (s177 call n) K
theorem w177_ok {E : Env} (e : E.code 177 = some A177) (hp : E.prim 177 = none) : ShOK E 177 w177 := shW_ok (A := { pts := [(12, [1, 2, 3])], lps := [], cuts := [(9, [(2, 10001, [1, 2, 3, 8])]), (13, [(2, 14001, [1, 2, 3, 14])])] }) (S := T177) e hp (by kernel_rfl) (by kernel_rfl) (by kernel_rfl)

noncomputable def T178 (call : CallFn) (n : Nat) (K : Kont) : Sp := {
  pt := fun β j => ifF j 2001 (pA3 (p178_2001 call n) K) <| ifF j 6001 (pA3 (p178_6001 call n) K) <| noP
  fs := fun β j => noP
  rd := fun β j => noP
  lp := fun β j m => noP }
@[irreducible] noncomputable def A178 : AFun := (compFn Tryz.prog Tryz.f178).getD ⟨0, [], .skip⟩
noncomputable def w178 : Sh := shW 2 fun call n K => pA2 (s178 call n) K
theorem w178_ok {E : Env} (e : E.code 178 = some A178) (hp : E.prim 178 = none) : ShOK E 178 w178 := shW_ok (A := { pts := [], lps := [], cuts := [(1, [(2, 2001, [0, 1, 4])]), (5, [(2, 6001, [1, 2, 10])])] }) (S := T178) e hp (by kernel_rfl) (by kernel_rfl) (by kernel_rfl)

noncomputable def T179 (call : CallFn) (n : Nat) (K : Kont) : Sp := {
  pt := fun β j => ifF j 10 (pA3 (p179_10 call n) K) <| ifF j 8001 (pA2 (p179_8001 call n) K) <| ifF j 12001 (pA4 (p179_12001 call n) K) <| ifF j 17001 (pA5 (p179_17001 call n (pF4 (pB 0 β))) K) <| ifF j 17002 (pA6 (p179_17002 call n (pF4 (pB 0 β))) K) <| noP
  fs := fun β j => noP
  rd := fun β j => ifF j 13 (pA4 (b179_13 call n (pF4 (pB 0 β))) K) <| noP
  lp := fun β j m => ifL j 13 (pC4 (l179_13 call n m) K) <| noP }
@[irreducible] noncomputable def A179 : AFun := (compFn Tryz.prog Tryz.f179).getD ⟨0, [], .skip⟩
noncomputable def w179 : Sh := shW 2 fun call n K => pA2 (s179 call n) K
theorem w179_ok {E : Env} (e : E.code 179 = some A179) (hp : E.prim 179 = none) : ShOK E 179 w179 := shW_ok (A := { pts := [(10, [0, 1, 4])], lps := [(13, [0, 1, 4, 5])], cuts := [(7, [(2, 8001, [4, 13])]), (11, [(4, 12001, [0, 1, 4, 17])]), (16, [(2, 17001, [0, 1, 4, 5, 19]), (2, 17002, [0, 1, 4, 5, 19, 21])])] }) (S := T179) e hp (by kernel_rfl) (by kernel_rfl) (by kernel_rfl)

@[irreducible] noncomputable def A180 : AFun := (compFn Tryz.prog Tryz.f180).getD ⟨0, [], .skip⟩
noncomputable def w180 : Sh := shW 2 fun call n K => pA2 (s180 call n) K
theorem w180_ok {E : Env} (e : E.code 180 = some A180) (hp : E.prim 180 = none) : ShOK E 180 w180 := shW_ok (A := { pts := [], lps := [] }) (S := noS) e hp (by kernel_rfl) (by kernel_rfl) (by kernel_rfl)

@[irreducible] noncomputable def A181 : AFun := (compFn Tryz.prog Tryz.f181).getD ⟨0, [], .skip⟩
noncomputable def w181 : Sh := shW 2 fun call n K => pA2 (s181 call n) K
theorem w181_ok {E : Env} (e : E.code 181 = some A181) (hp : E.prim 181 = none) : ShOK E 181 w181 := shW_ok (A := { pts := [], lps := [] }) (S := noS) e hp (by kernel_rfl) (by kernel_rfl) (by kernel_rfl)

@[irreducible] noncomputable def A182 : AFun := (compFn Tryz.prog Tryz.f182).getD ⟨0, [], .skip⟩
noncomputable def w182 : Sh := shW 1 fun call n K => pA1 (s182 call n) K
theorem w182_ok {E : Env} (e : E.code 182 = some A182) (hp : E.prim 182 = none) : ShOK E 182 w182 := shW_ok (A := { pts := [], lps := [] }) (S := noS) e hp (by kernel_rfl) (by kernel_rfl) (by kernel_rfl)

noncomputable def T183 (call : CallFn) (n : Nat) (K : Kont) : Sp := {
  pt := fun β j => ifF j 24 (pA1 (p183_24 call n) K) <| ifF j 44001 (pA1 (p183_44001 call n) K) <| noP
  fs := fun β j => noP
  rd := fun β j => noP
  lp := fun β j m => noP }
@[irreducible] noncomputable def A183 : AFun := (compFn Tryz.prog Tryz.f183).getD ⟨0, [], .skip⟩
noncomputable def w183 : Sh := shW 2 fun call n K => pA2 (s183 call n) K
theorem w183_ok {E : Env} (e : E.code 183 = some A183) (hp : E.prim 183 = none) : ShOK E 183 w183 := shW_ok (A := { pts := [(24, [6])], lps := [], cuts := [(43, [(6, 44001, [50])])] }) (S := T183) e hp (by kernel_rfl) (by kernel_rfl) (by kernel_rfl)

noncomputable def T184 (call : CallFn) (n : Nat) (K : Kont) : Sp := {
  pt := fun β j => ifF j 18 (pA4 (p184_18 call n) K) <| ifF j 62 (pA5 (p184_62 call n (pF4 (pB 0 β))) K) <| ifF j 64 (pA1 (p184_64 call n) K) <| ifF j 100 (pA1 (p184_100 call n) K) <| noP
  fs := fun β j => noP
  rd := fun β j => ifF j 45 (pA4 (b184_45 call n (pF4 (pB 0 β))) K) <| noP
  lp := fun β j m => ifL j 45 (pC4 (l184_45 call n m) K) <| noP }
@[irreducible] noncomputable def A184 : AFun := (compFn Tryz.prog Tryz.f184).getD ⟨0, [], .skip⟩
noncomputable def w184 : Sh := shW 2 fun call n K => pA2 (s184 call n) K
theorem w184_ok {E : Env} (e : E.code 184 = some A184) (hp : E.prim 184 = none) : ShOK E 184 w184 := shW_ok (A := { pts := [(18, [2, 3, 9, 17]), (62, [2, 5, 60, 61, 62]), (64, [2]), (100, [2])], lps := [(45, [2, 60, 61, 62])] }) (S := T184) e hp (by kernel_rfl) (by kernel_rfl) (by kernel_rfl)

@[irreducible] noncomputable def A185 : AFun := (compFn Tryz.prog Tryz.f185).getD ⟨0, [], .skip⟩
noncomputable def w185 : Sh := shW 2 fun call n K => pA2 (s185 call n) K
theorem w185_ok {E : Env} (e : E.code 185 = some A185) (hp : E.prim 185 = none) : ShOK E 185 w185 := shW_ok (A := { pts := [], lps := [] }) (S := noS) e hp (by kernel_rfl) (by kernel_rfl) (by kernel_rfl)

noncomputable def T186 (call : CallFn) (n : Nat) (K : Kont) : Sp := {
  pt := fun β j => ifF j 46 (pA5 (p186_46 call n) K) <| ifF j 51 (pA1 (p186_51 call n) K) <| ifF j 6001 (pA4 (p186_6001 call n) K) <| noP
  fs := fun β j => noP
  rd := fun β j => noP
  lp := fun β j m => noP }
@[irreducible] noncomputable def A186 : AFun := (compFn Tryz.prog Tryz.f186).getD ⟨0, [], .skip⟩
noncomputable def w186 : Sh := shW 3 fun call n K => pA3 (s186 call n) K
theorem w186_ok {E : Env} (e : E.code 186 = some A186) (hp : E.prim 186 = none) : ShOK E 186 w186 := shW_ok (A := { pts := [(46, [0, 4, 6, 7, 8]), (51, [0])], lps := [], cuts := [(5, [(3, 6001, [0, 2, 4, 14])])] }) (S := T186) e hp (by kernel_rfl) (by kernel_rfl) (by kernel_rfl)

noncomputable def T187 (call : CallFn) (n : Nat) (K : Kont) : Sp := {
  pt := fun β j => ifF j 10 (pA3 (p187_10 call n) K) <| ifF j 29001 (pA6 (p187_29001 call n (pF5 (pB 0 β))) K) <| noP
  fs := fun β j => noP
  rd := fun β j => ifF j 14 (pA5 (b187_14 call n (pF5 (pB 0 β))) K) <| noP
  lp := fun β j m => ifL j 14 (pC5 (l187_14 call n m) K) <| noP }
@[irreducible] noncomputable def A187 : AFun := (compFn Tryz.prog Tryz.f187).getD ⟨0, [], .skip⟩
noncomputable def w187 : Sh := shW 3 fun call n K => pA3 (s187 call n) K
theorem w187_ok {E : Env} (e : E.code 187 = some A187) (hp : E.prim 187 = none) : ShOK E 187 w187 := shW_ok (A := { pts := [(10, [0, 1, 2])], lps := [(14, [1, 2, 15, 16, 17])], cuts := [(28, [(4, 29001, [1, 2, 15, 16, 17, 29])])] }) (S := T187) e hp (by kernel_rfl) (by kernel_rfl) (by kernel_rfl)

noncomputable def T188 (call : CallFn) (n : Nat) (K : Kont) : Sp := {
  pt := fun β j => ifF j 4001 (pA4 (p188_4001 call n) K) <| ifF j 4002 (pA4 (p188_4002 call n) K) <| ifF j 4003 (pA4 (p188_4003 call n) K) <| ifF j 4004 (pA4 (p188_4004 call n) K) <| ifF j 4005 (pA4 (p188_4005 call n) K) <| ifF j 4006 (pA4 (p188_4006 call n) K) <| ifF j 4007 (pA2 (p188_4007 call n) K) <| noP
  fs := fun β j => noP
  rd := fun β j => noP
  lp := fun β j m => noP }
@[irreducible] noncomputable def A188 : AFun := (compFn Tryz.prog Tryz.f188).getD ⟨0, [], .skip⟩
noncomputable def w188 : Sh := shW 2 fun call n K => pA2 (s188 call n) K
theorem w188_ok {E : Env} (e : E.code 188 = some A188) (hp : E.prim 188 = none) : ShOK E 188 w188 := shW_ok (A := { pts := [], lps := [], cuts := [(3, [(39, 4001, [2, 3, 38, 43]), (7, 4002, [2, 3, 45, 50]), (7, 4003, [2, 3, 52, 57]), (7, 4004, [2, 3, 59, 64]), (7, 4005, [2, 3, 66, 71]), (7, 4006, [2, 3, 73, 78]), (7, 4007, [80, 85])])] }) (S := T188) e hp (by kernel_rfl) (by kernel_rfl) (by kernel_rfl)

noncomputable def T189 (call : CallFn) (n : Nat) (K : Kont) : Sp := {
  pt := fun β j => ifF j 10 (pA3 (p189_10 call n) K) <| ifF j 29001 (pA6 (p189_29001 call n (pF5 (pB 0 β))) K) <| noP
  fs := fun β j => noP
  rd := fun β j => ifF j 14 (pA5 (b189_14 call n (pF5 (pB 0 β))) K) <| noP
  lp := fun β j m => ifL j 14 (pC5 (l189_14 call n m) K) <| noP }
@[irreducible] noncomputable def A189 : AFun := (compFn Tryz.prog Tryz.f189).getD ⟨0, [], .skip⟩
noncomputable def w189 : Sh := shW 3 fun call n K => pA3 (s189 call n) K
theorem w189_ok {E : Env} (e : E.code 189 = some A189) (hp : E.prim 189 = none) : ShOK E 189 w189 := shW_ok (A := { pts := [(10, [0, 1, 2])], lps := [(14, [1, 2, 15, 16, 17])], cuts := [(28, [(4, 29001, [1, 2, 15, 16, 17, 29])])] }) (S := T189) e hp (by kernel_rfl) (by kernel_rfl) (by kernel_rfl)

noncomputable def T190 (call : CallFn) (n : Nat) (K : Kont) : Sp := {
  pt := fun β j => ifF j 4001 (pA2 (p190_4001 call n) K) <| noP
  fs := fun β j => noP
  rd := fun β j => noP
  lp := fun β j m => noP }
@[irreducible] noncomputable def A190 : AFun := (compFn Tryz.prog Tryz.f190).getD ⟨0, [], .skip⟩
noncomputable def w190 : Sh := shW 2 fun call n K => pA2 (s190 call n) K
theorem w190_ok {E : Env} (e : E.code 190 = some A190) (hp : E.prim 190 = none) : ShOK E 190 w190 := shW_ok (A := { pts := [], lps := [], cuts := [(3, [(11, 4001, [10, 15])])] }) (S := T190) e hp (by kernel_rfl) (by kernel_rfl) (by kernel_rfl)

noncomputable def T191 (call : CallFn) (n : Nat) (K : Kont) : Sp := {
  pt := fun β j => ifF j 4001 (pA4 (p191_4001 call n) K) <| ifF j 4002 (pA2 (p191_4002 call n) K) <| noP
  fs := fun β j => noP
  rd := fun β j => noP
  lp := fun β j m => noP }
@[irreducible] noncomputable def A191 : AFun := (compFn Tryz.prog Tryz.f191).getD ⟨0, [], .skip⟩
noncomputable def w191 : Sh := shW 2 fun call n K => pA2 (s191 call n) K
theorem w191_ok {E : Env} (e : E.code 191 = some A191) (hp : E.prim 191 = none) : ShOK E 191 w191 := shW_ok (A := { pts := [], lps := [], cuts := [(3, [(18, 4001, [2, 3, 17, 22]), (7, 4002, [24, 29])])] }) (S := T191) e hp (by kernel_rfl) (by kernel_rfl) (by kernel_rfl)

noncomputable def T192 (call : CallFn) (n : Nat) (K : Kont) : Sp := {
  pt := fun β j => ifF j 4001 (pA5 (p192_4001 call n) K) <| noP
  fs := fun β j => noP
  rd := fun β j => noP
  lp := fun β j m => noP }
@[irreducible] noncomputable def A192 : AFun := (compFn Tryz.prog Tryz.f192).getD ⟨0, [], .skip⟩
noncomputable def w192 : Sh := shW 4 fun call n K => pA4 (s192 call n) K
theorem w192_ok {E : Env} (e : E.code 192 = some A192) (hp : E.prim 192 = none) : ShOK E 192 w192 := shW_ok (A := { pts := [], lps := [], cuts := [(3, [(8, 4001, [2, 3, 4, 10, 14])])] }) (S := T192) e hp (by kernel_rfl) (by kernel_rfl) (by kernel_rfl)

noncomputable def T193 (call : CallFn) (n : Nat) (K : Kont) : Sp := {
  pt := fun β j => noP
  fs := fun β j => noP
  rd := fun β j => ifF j 3 (pA2 (b193_3 call n (pF2 (pB 0 β))) K) <| noP
  lp := fun β j m => ifL j 3 (pC2 (l193_3 call n m) K) <| noP }
@[irreducible] noncomputable def A193 : AFun := (compFn Tryz.prog Tryz.f193).getD ⟨0, [], .skip⟩
noncomputable def w193 : Sh := shW 2 fun call n K => pA2 (s193 call n) K
theorem w193_ok {E : Env} (e : E.code 193 = some A193) (hp : E.prim 193 = none) : ShOK E 193 w193 := shW_ok (A := { pts := [], lps := [(3, [0, 7])] }) (S := T193) e hp (by kernel_rfl) (by kernel_rfl) (by kernel_rfl)

noncomputable def T195 (call : CallFn) (n : Nat) (K : Kont) : Sp := {
  pt := fun β j => noP
  fs := fun β j => noP
  rd := fun β j => ifF j 6 (pA4 (b195_6 call n (pF4 (pB 0 β))) K) <| noP
  lp := fun β j m => ifL j 6 (pC4 (l195_6 call n m) K) <| noP }
@[irreducible] noncomputable def A195 : AFun := (compFn Tryz.prog Tryz.f195).getD ⟨0, [], .skip⟩
noncomputable def w195 : Sh := shW 2 fun call n K => pA2 (s195 call n) K
theorem w195_ok {E : Env} (e : E.code 195 = some A195) (hp : E.prim 195 = none) : ShOK E 195 w195 := shW_ok (A := { pts := [], lps := [(6, [0, 1, 7, 8])] }) (S := T195) e hp (by kernel_rfl) (by kernel_rfl) (by kernel_rfl)

@[irreducible] noncomputable def A196 : AFun := (compFn Tryz.prog Tryz.f196).getD ⟨0, [], .skip⟩
noncomputable def w196 : Sh := shW 2 fun call n K => pA2 (s196 call n) K
theorem w196_ok {E : Env} (e : E.code 196 = some A196) (hp : E.prim 196 = none) : ShOK E 196 w196 := shW_ok (A := { pts := [], lps := [] }) (S := noS) e hp (by kernel_rfl) (by kernel_rfl) (by kernel_rfl)

noncomputable def T197 (call : CallFn) (n : Nat) (K : Kont) : Sp := {
  pt := fun β j => noP
  fs := fun β j => noP
  rd := fun β j => ifF j 6 (pA4 (b197_6 call n (pF4 (pB 0 β))) K) <| noP
  lp := fun β j m => ifL j 6 (pC4 (l197_6 call n m) K) <| noP }
@[irreducible] noncomputable def A197 : AFun := (compFn Tryz.prog Tryz.f197).getD ⟨0, [], .skip⟩
noncomputable def w197 : Sh := shW 2 fun call n K => pA2 (s197 call n) K
theorem w197_ok {E : Env} (e : E.code 197 = some A197) (hp : E.prim 197 = none) : ShOK E 197 w197 := shW_ok (A := { pts := [], lps := [(6, [0, 1, 7, 8])] }) (S := T197) e hp (by kernel_rfl) (by kernel_rfl) (by kernel_rfl)

noncomputable def T198 (call : CallFn) (n : Nat) (K : Kont) : Sp := {
  pt := fun β j => noP
  fs := fun β j => noP
  rd := fun β j => ifF j 6 (pA4 (b198_6 call n (pF4 (pB 0 β))) K) <| noP
  lp := fun β j m => ifL j 6 (pC4 (l198_6 call n m) K) <| noP }
@[irreducible] noncomputable def A198 : AFun := (compFn Tryz.prog Tryz.f198).getD ⟨0, [], .skip⟩
noncomputable def w198 : Sh := shW 2 fun call n K => pA2 (s198 call n) K
theorem w198_ok {E : Env} (e : E.code 198 = some A198) (hp : E.prim 198 = none) : ShOK E 198 w198 := shW_ok (A := { pts := [], lps := [(6, [0, 1, 7, 8])] }) (S := T198) e hp (by kernel_rfl) (by kernel_rfl) (by kernel_rfl)

noncomputable def T199 (call : CallFn) (n : Nat) (K : Kont) : Sp := {
  pt := fun β j => noP
  fs := fun β j => noP
  rd := fun β j => ifF j 6 (pA4 (b199_6 call n (pF4 (pB 0 β))) K) <| noP
  lp := fun β j m => ifL j 6 (pC4 (l199_6 call n m) K) <| noP }
@[irreducible] noncomputable def A199 : AFun := (compFn Tryz.prog Tryz.f199).getD ⟨0, [], .skip⟩
noncomputable def w199 : Sh := shW 2 fun call n K => pA2 (s199 call n) K
theorem w199_ok {E : Env} (e : E.code 199 = some A199) (hp : E.prim 199 = none) : ShOK E 199 w199 := shW_ok (A := { pts := [], lps := [(6, [0, 1, 7, 8])] }) (S := T199) e hp (by kernel_rfl) (by kernel_rfl) (by kernel_rfl)

noncomputable def T200 (call : CallFn) (n : Nat) (K : Kont) : Sp := {
  pt := fun β j => noP
  fs := fun β j => noP
  rd := fun β j => ifF j 6 (pA4 (b200_6 call n (pF4 (pB 0 β))) K) <| noP
  lp := fun β j m => ifL j 6 (pC4 (l200_6 call n m) K) <| noP }
@[irreducible] noncomputable def A200 : AFun := (compFn Tryz.prog Tryz.f200).getD ⟨0, [], .skip⟩
noncomputable def w200 : Sh := shW 2 fun call n K => pA2 (s200 call n) K
theorem w200_ok {E : Env} (e : E.code 200 = some A200) (hp : E.prim 200 = none) : ShOK E 200 w200 := shW_ok (A := { pts := [], lps := [(6, [0, 1, 7, 8])] }) (S := T200) e hp (by kernel_rfl) (by kernel_rfl) (by kernel_rfl)

@[irreducible] noncomputable def A201 : AFun := (compFn Tryz.prog Tryz.f201).getD ⟨0, [], .skip⟩
noncomputable def w201 : Sh := shW 2 fun call n K => pA2 (s201 call n) K
theorem w201_ok {E : Env} (e : E.code 201 = some A201) (hp : E.prim 201 = none) : ShOK E 201 w201 := shW_ok (A := { pts := [], lps := [] }) (S := noS) e hp (by kernel_rfl) (by kernel_rfl) (by kernel_rfl)

@[irreducible] noncomputable def A202 : AFun := (compFn Tryz.prog Tryz.f202).getD ⟨0, [], .skip⟩
noncomputable def w202 : Sh := shW 3 fun call n K => pA3 (s202 call n) K
theorem w202_ok {E : Env} (e : E.code 202 = some A202) (hp : E.prim 202 = none) : ShOK E 202 w202 := shW_ok (A := { pts := [], lps := [] }) (S := noS) e hp (by kernel_rfl) (by kernel_rfl) (by kernel_rfl)

@[irreducible] noncomputable def A203 : AFun := (compFn Tryz.prog Tryz.f203).getD ⟨0, [], .skip⟩
noncomputable def w203 : Sh := shW 1 fun call n K => pA1 (s203 call n) K
theorem w203_ok {E : Env} (e : E.code 203 = some A203) (hp : E.prim 203 = none) : ShOK E 203 w203 := shW_ok (A := { pts := [], lps := [] }) (S := noS) e hp (by kernel_rfl) (by kernel_rfl) (by kernel_rfl)

noncomputable def T204 (call : CallFn) (n : Nat) (K : Kont) : Sp := {
  pt := fun β j => ifF j 5001 (pA3 (p204_5001 call n) K) <| ifF j 5002 (pA3 (p204_5002 call n) K) <| noP
  fs := fun β j => noP
  rd := fun β j => noP
  lp := fun β j m => noP }
@[irreducible] noncomputable def A204 : AFun := (compFn Tryz.prog Tryz.f204).getD ⟨0, [], .skip⟩
noncomputable def w204 : Sh := shW 2 fun call n K => pA2 (s204 call n) K
theorem w204_ok {E : Env} (e : E.code 204 = some A204) (hp : E.prim 204 = none) : ShOK E 204 w204 := shW_ok (A := { pts := [], lps := [], cuts := [(4, [(3, 5001, [0, 1, 7]), (1, 5002, [0, 1, 8])])] }) (S := T204) e hp (by kernel_rfl) (by kernel_rfl) (by kernel_rfl)

@[irreducible] noncomputable def A205 : AFun := (compFn Tryz.prog Tryz.f205).getD ⟨0, [], .skip⟩
noncomputable def w205 : Sh := shW 1 fun call n K => pA1 (s205 call n) K
theorem w205_ok {E : Env} (e : E.code 205 = some A205) (hp : E.prim 205 = none) : ShOK E 205 w205 := shW_ok (A := { pts := [], lps := [] }) (S := noS) e hp (by kernel_rfl) (by kernel_rfl) (by kernel_rfl)

noncomputable def T206 (call : CallFn) (n : Nat) (K : Kont) : Sp := {
  pt := fun β j => noP
  fs := fun β j => noP
  rd := fun β j => ifF j 6 (pA4 (b206_6 call n (pF4 (pB 0 β))) K) <| noP
  lp := fun β j m => ifL j 6 (pC4 (l206_6 call n m) K) <| noP }
@[irreducible] noncomputable def A206 : AFun := (compFn Tryz.prog Tryz.f206).getD ⟨0, [], .skip⟩
noncomputable def w206 : Sh := shW 3 fun call n K => pA3 (s206 call n) K
theorem w206_ok {E : Env} (e : E.code 206 = some A206) (hp : E.prim 206 = none) : ShOK E 206 w206 := shW_ok (A := { pts := [], lps := [(6, [0, 1, 2, 7])] }) (S := T206) e hp (by kernel_rfl) (by kernel_rfl) (by kernel_rfl)

noncomputable def T207 (call : CallFn) (n : Nat) (K : Kont) : Sp := {
  pt := fun β j => ifF j 49 (pA3 (p207_49 call n (pF3 (pB 0 β))) K) <| ifF j 25001 (pA2 (p207_25001 call n (pF3 (pB 0 β))) K) <| ifF j 33001 (pA4 (p207_33001 call n (pF3 (pB 0 β))) K) <| noP
  fs := fun β j => noP
  rd := fun β j => ifF j 8 (pA3 (b207_8 call n (pF3 (pB 0 β))) K) <| noP
  lp := fun β j m => ifL j 8 (pC3 (l207_8 call n m) K) <| noP }
@[irreducible] noncomputable def A207 : AFun := (compFn Tryz.prog Tryz.f207).getD ⟨0, [], .skip⟩
noncomputable def w207 : Sh := shW 1 fun call n K => pA1 (s207 call n) K
theorem w207_ok {E : Env} (e : E.code 207 = some A207) (hp : E.prim 207 = none) : ShOK E 207 w207 := shW_ok (A := { pts := [(49, [0, 4, 5])], lps := [(8, [0, 4, 5])], cuts := [(24, [(1, 25001, [5, 30])]), (32, [(3, 33001, [0, 4, 5, 40])])] }) (S := T207) e hp (by kernel_rfl) (by kernel_rfl) (by kernel_rfl)

noncomputable def T208 (call : CallFn) (n : Nat) (K : Kont) : Sp := {
  pt := fun β j => ifF j 25 (pA1 (p208_25 call n) K) <| noP
  fs := fun β j => noP
  rd := fun β j => ifF j 6 (pA4 (b208_6 call n (pF4 (pB 0 β))) K) <| noP
  lp := fun β j m => ifL j 6 (pC4 (l208_6 call n m) K) <| noP }
@[irreducible] noncomputable def A208 : AFun := (compFn Tryz.prog Tryz.f208).getD ⟨0, [], .skip⟩
noncomputable def w208 : Sh := shW 1 fun call n K => pA1 (s208 call n) K
theorem w208_ok {E : Env} (e : E.code 208 = some A208) (hp : E.prim 208 = none) : ShOK E 208 w208 := shW_ok (A := { pts := [(25, [0])], lps := [(6, [0, 5, 6, 7])] }) (S := T208) e hp (by kernel_rfl) (by kernel_rfl) (by kernel_rfl)

noncomputable def T214 (call : CallFn) (n : Nat) (K : Kont) : Sp := {
  pt := fun β j => ifF j 2001 (pA3 (p214_2001 call n) K) <| ifF j 2002 (pA4 (p214_2002 call n) K) <| noP
  fs := fun β j => noP
  rd := fun β j => noP
  lp := fun β j m => noP }
@[irreducible] noncomputable def A214 : AFun := (compFn Tryz.prog Tryz.f214).getD ⟨0, [], .skip⟩
noncomputable def w214 : Sh := shW 2 fun call n K => pA2 (s214 call n) K
theorem w214_ok {E : Env} (e : E.code 214 = some A214) (hp : E.prim 214 = none) : ShOK E 214 w214 := shW_ok (A := { pts := [], lps := [], cuts := [(1, [(2, 2001, [0, 1, 3]), (3, 2002, [0, 1, 4, 6])])] }) (S := T214) e hp (by kernel_rfl) (by kernel_rfl) (by kernel_rfl)

noncomputable def T215 (call : CallFn) (n : Nat) (K : Kont) : Sp := {
  pt := fun β j => ifF j 2001 (pA3 (p215_2001 call n) K) <| ifF j 2002 (pA4 (p215_2002 call n) K) <| noP
  fs := fun β j => noP
  rd := fun β j => noP
  lp := fun β j m => noP }
@[irreducible] noncomputable def A215 : AFun := (compFn Tryz.prog Tryz.f215).getD ⟨0, [], .skip⟩
noncomputable def w215 : Sh := shW 2 fun call n K => pA2 (s215 call n) K
theorem w215_ok {E : Env} (e : E.code 215 = some A215) (hp : E.prim 215 = none) : ShOK E 215 w215 := shW_ok (A := { pts := [], lps := [], cuts := [(1, [(2, 2001, [0, 1, 4]), (3, 2002, [0, 1, 5, 7])])] }) (S := T215) e hp (by kernel_rfl) (by kernel_rfl) (by kernel_rfl)

noncomputable def T216 (call : CallFn) (n : Nat) (K : Kont) : Sp := {
  pt := fun β j => ifF j 12 (pA4 (p216_12 call n) K) <| ifF j 15001 (pA5 (p216_15001 call n) K) <| ifF j 15002 (pA6 (p216_15002 call n) K) <| ifF j 18001 (pA2 (p216_18001 call n) K) <| ifF j 24001 (pA5 (p216_24001 call n) K) <| ifF j 28001 (pA2 (p216_28001 call n) K) <| noP
  fs := fun β j => noP
  rd := fun β j => noP
  lp := fun β j m => noP }
@[irreducible] noncomputable def A216 : AFun := (compFn Tryz.prog Tryz.f216).getD ⟨0, [], .skip⟩
noncomputable def w216 : Sh := shW 1 fun call n K => pA1 (s216 call n) K
theorem w216_ok {E : Env} (e : E.code 216 = some A216) (hp : E.prim 216 = none) : ShOK E 216 w216 := shW_ok (A := { pts := [(12, [0, 2, 3, 4])], lps := [], cuts := [(14, [(2, 15001, [0, 2, 3, 4, 11]), (4, 15002, [0, 2, 3, 4, 13, 15])]), (17, [(2, 18001, [2, 19])]), (23, [(2, 24001, [0, 2, 3, 4, 24])]), (27, [(6, 28001, [2, 37])])] }) (S := T216) e hp (by kernel_rfl) (by kernel_rfl) (by kernel_rfl)

noncomputable def T217 (call : CallFn) (n : Nat) (K : Kont) : Sp := {
  pt := fun β j => ifF j 23 (pA3 (p217_23 call n) K) <| ifF j 29 (pA2 (p217_29 call n) K) <| noP
  fs := fun β j => noP
  rd := fun β j => ifF j 8 (pA6 (b217_8 call n (pF6 (pB 0 β))) K) <| noP
  lp := fun β j m => ifL j 8 (pC6 (l217_8 call n m) K) <| noP }
@[irreducible] noncomputable def A217 : AFun := (compFn Tryz.prog Tryz.f217).getD ⟨0, [], .skip⟩
noncomputable def w217 : Sh := shW 3 fun call n K => pA3 (s217 call n) K
theorem w217_ok {E : Env} (e : E.code 217 = some A217) (hp : E.prim 217 = none) : ShOK E 217 w217 := shW_ok (A := { pts := [(23, [0, 6, 7]), (29, [6, 7])], lps := [(8, [0, 6, 7, 12, 13, 14])] }) (S := T217) e hp (by kernel_rfl) (by kernel_rfl) (by kernel_rfl)

noncomputable def T218 (call : CallFn) (n : Nat) (K : Kont) : Sp := {
  pt := fun β j => ifF j 4001 (pA2 (p218_4001 call n) K) <| noP
  fs := fun β j => noP
  rd := fun β j => noP
  lp := fun β j m => noP }
@[irreducible] noncomputable def A218 : AFun := (compFn Tryz.prog Tryz.f218).getD ⟨0, [], .skip⟩
noncomputable def w218 : Sh := shW 1 fun call n K => pA1 (s218 call n) K
theorem w218_ok {E : Env} (e : E.code 218 = some A218) (hp : E.prim 218 = none) : ShOK E 218 w218 := shW_ok (A := { pts := [], lps := [], cuts := [(3, [(4, 4001, [7, 10])])] }) (S := T218) e hp (by kernel_rfl) (by kernel_rfl) (by kernel_rfl)

@[irreducible] noncomputable def A219 : AFun := (compFn Tryz.prog Tryz.f219).getD ⟨0, [], .skip⟩
noncomputable def w219 : Sh := shW 2 fun call n K => pA2 (s219 call n) K
theorem w219_ok {E : Env} (e : E.code 219 = some A219) (hp : E.prim 219 = none) : ShOK E 219 w219 := shW_ok (A := { pts := [], lps := [] }) (S := noS) e hp (by kernel_rfl) (by kernel_rfl) (by kernel_rfl)

@[irreducible] noncomputable def A220 : AFun := (compFn Tryz.prog Tryz.f220).getD ⟨0, [], .skip⟩
noncomputable def w220 : Sh := shW 1 fun call n K => pA1 (s220 call n) K
theorem w220_ok {E : Env} (e : E.code 220 = some A220) (hp : E.prim 220 = none) : ShOK E 220 w220 := shW_ok (A := { pts := [], lps := [] }) (S := noS) e hp (by kernel_rfl) (by kernel_rfl) (by kernel_rfl)

@[irreducible] noncomputable def A224 : AFun := (compFn Tryz.prog Tryz.f224).getD ⟨0, [], .skip⟩
noncomputable def w224 : Sh := shW 1 fun call n K => pA1 (s224 call n) K
theorem w224_ok {E : Env} (e : E.code 224 = some A224) (hp : E.prim 224 = none) : ShOK E 224 w224 := shW_ok (A := { pts := [], lps := [] }) (S := noS) e hp (by kernel_rfl) (by kernel_rfl) (by kernel_rfl)

noncomputable def T225 (call : CallFn) (n : Nat) (K : Kont) : Sp := {
  pt := fun β j => ifF j 8 (pA2 (p225_8 call n) K) <| ifF j 18 (pA2 (p225_18 call n) K) <| noP
  fs := fun β j => noP
  rd := fun β j => noP
  lp := fun β j m => noP }
@[irreducible] noncomputable def A225 : AFun := (compFn Tryz.prog Tryz.f225).getD ⟨0, [], .skip⟩
noncomputable def w225 : Sh := shW 2 fun call n K => pA2 (s225 call n) K
theorem w225_ok {E : Env} (e : E.code 225 = some A225) (hp : E.prim 225 = none) : ShOK E 225 w225 := shW_ok (A := { pts := [(8, [2, 3]), (18, [2, 3])], lps := [] }) (S := T225) e hp (by kernel_rfl) (by kernel_rfl) (by kernel_rfl)

noncomputable def T226 (call : CallFn) (n : Nat) (K : Kont) : Sp := {
  pt := fun β j => ifF j 20 (pA6 (p226_20 call n (pF5 (pB 0 β))) K) <| noP
  fs := fun β j => noP
  rd := fun β j => ifF j 3 (pA5 (b226_3 call n (pF5 (pB 0 β))) K) <| noP
  lp := fun β j m => ifL j 3 (pC5 (l226_3 call n m) K) <| noP }
@[irreducible] noncomputable def A226 : AFun := (compFn Tryz.prog Tryz.f226).getD ⟨0, [], .skip⟩
noncomputable def w226 : Sh := shW 3 fun call n K => pA3 (s226 call n) K
theorem w226_ok {E : Env} (e : E.code 226 = some A226) (hp : E.prim 226 = none) : ShOK E 226 w226 := shW_ok (A := { pts := [(20, [0, 2, 7, 8, 9, 10])], lps := [(3, [0, 2, 8, 9, 10])] }) (S := T226) e hp (by kernel_rfl) (by kernel_rfl) (by kernel_rfl)

@[irreducible] noncomputable def A227 : AFun := (compFn Tryz.prog Tryz.f227).getD ⟨0, [], .skip⟩
noncomputable def w227 : Sh := shW 2 fun call n K => pA2 (s227 call n) K
theorem w227_ok {E : Env} (e : E.code 227 = some A227) (hp : E.prim 227 = none) : ShOK E 227 w227 := shW_ok (A := { pts := [], lps := [] }) (S := noS) e hp (by kernel_rfl) (by kernel_rfl) (by kernel_rfl)

noncomputable def T228 (call : CallFn) (n : Nat) (K : Kont) : Sp := {
  pt := fun β j => ifF j 20 (pA6 (p228_20 call n (pF5 (pB 0 β))) K) <| noP
  fs := fun β j => noP
  rd := fun β j => ifF j 3 (pA5 (b228_3 call n (pF5 (pB 0 β))) K) <| noP
  lp := fun β j m => ifL j 3 (pC5 (l228_3 call n m) K) <| noP }
@[irreducible] noncomputable def A228 : AFun := (compFn Tryz.prog Tryz.f228).getD ⟨0, [], .skip⟩
noncomputable def w228 : Sh := shW 3 fun call n K => pA3 (s228 call n) K
theorem w228_ok {E : Env} (e : E.code 228 = some A228) (hp : E.prim 228 = none) : ShOK E 228 w228 := shW_ok (A := { pts := [(20, [0, 2, 7, 8, 9, 10])], lps := [(3, [0, 2, 8, 9, 10])] }) (S := T228) e hp (by kernel_rfl) (by kernel_rfl) (by kernel_rfl)

@[irreducible] noncomputable def A229 : AFun := (compFn Tryz.prog Tryz.f229).getD ⟨0, [], .skip⟩
noncomputable def w229 : Sh := shW 2 fun call n K => pA2 (s229 call n) K
theorem w229_ok {E : Env} (e : E.code 229 = some A229) (hp : E.prim 229 = none) : ShOK E 229 w229 := shW_ok (A := { pts := [], lps := [] }) (S := noS) e hp (by kernel_rfl) (by kernel_rfl) (by kernel_rfl)

@[irreducible] noncomputable def A230 : AFun := (compFn Tryz.prog Tryz.f230).getD ⟨0, [], .skip⟩
noncomputable def w230 : Sh := shW 1 fun call n K => pA1 (s230 call n) K
theorem w230_ok {E : Env} (e : E.code 230 = some A230) (hp : E.prim 230 = none) : ShOK E 230 w230 := shW_ok (A := { pts := [], lps := [] }) (S := noS) e hp (by kernel_rfl) (by kernel_rfl) (by kernel_rfl)

@[irreducible] noncomputable def A231 : AFun := (compFn Tryz.prog Tryz.f231).getD ⟨0, [], .skip⟩
noncomputable def w231 : Sh := shW 2 fun call n K => pA2 (s231 call n) K
theorem w231_ok {E : Env} (e : E.code 231 = some A231) (hp : E.prim 231 = none) : ShOK E 231 w231 := shW_ok (A := { pts := [], lps := [] }) (S := noS) e hp (by kernel_rfl) (by kernel_rfl) (by kernel_rfl)

noncomputable def T232 (call : CallFn) (n : Nat) (K : Kont) : Sp := {
  pt := fun β j => ifF j 10 (pA2 (p232_10 call n) K) <| noP
  fs := fun β j => noP
  rd := fun β j => ifF j 14 (pA4 (b232_14 call n (pF4 (pB 0 β))) K) <| noP
  lp := fun β j m => ifL j 14 (pC4 (l232_14 call n m) K) <| noP }
@[irreducible] noncomputable def A232 : AFun := (compFn Tryz.prog Tryz.f232).getD ⟨0, [], .skip⟩
noncomputable def w232 : Sh := shW 2 fun call n K => pA2 (s232 call n) K
theorem w232_ok {E : Env} (e : E.code 232 = some A232) (hp : E.prim 232 = none) : ShOK E 232 w232 := shW_ok (A := { pts := [(10, [0, 1])], lps := [(14, [0, 1, 12, 13])] }) (S := T232) e hp (by kernel_rfl) (by kernel_rfl) (by kernel_rfl)

noncomputable def T233 (call : CallFn) (n : Nat) (K : Kont) : Sp := {
  pt := fun β j => ifF j 10 (pA3 (p233_10 call n) K) <| ifF j 29001 (pA6 (p233_29001 call n (pF5 (pB 0 β))) K) <| noP
  fs := fun β j => noP
  rd := fun β j => ifF j 14 (pA5 (b233_14 call n (pF5 (pB 0 β))) K) <| noP
  lp := fun β j m => ifL j 14 (pC5 (l233_14 call n m) K) <| noP }
@[irreducible] noncomputable def A233 : AFun := (compFn Tryz.prog Tryz.f233).getD ⟨0, [], .skip⟩
noncomputable def w233 : Sh := shW 3 fun call n K => pA3 (s233 call n) K
theorem w233_ok {E : Env} (e : E.code 233 = some A233) (hp : E.prim 233 = none) : ShOK E 233 w233 := shW_ok (A := { pts := [(10, [0, 1, 2])], lps := [(14, [1, 2, 15, 16, 17])], cuts := [(28, [(4, 29001, [1, 2, 15, 16, 17, 29])])] }) (S := T233) e hp (by kernel_rfl) (by kernel_rfl) (by kernel_rfl)

noncomputable def T234 (call : CallFn) (n : Nat) (K : Kont) : Sp := {
  pt := fun β j => ifF j 10 (pA3 (p234_10 call n) K) <| ifF j 29001 (pA6 (p234_29001 call n (pF5 (pB 0 β))) K) <| noP
  fs := fun β j => noP
  rd := fun β j => ifF j 14 (pA5 (b234_14 call n (pF5 (pB 0 β))) K) <| noP
  lp := fun β j m => ifL j 14 (pC5 (l234_14 call n m) K) <| noP }
@[irreducible] noncomputable def A234 : AFun := (compFn Tryz.prog Tryz.f234).getD ⟨0, [], .skip⟩
noncomputable def w234 : Sh := shW 3 fun call n K => pA3 (s234 call n) K
theorem w234_ok {E : Env} (e : E.code 234 = some A234) (hp : E.prim 234 = none) : ShOK E 234 w234 := shW_ok (A := { pts := [(10, [0, 1, 2])], lps := [(14, [1, 2, 15, 16, 17])], cuts := [(28, [(4, 29001, [1, 2, 15, 16, 17, 29])])] }) (S := T234) e hp (by kernel_rfl) (by kernel_rfl) (by kernel_rfl)

noncomputable def T235 (call : CallFn) (n : Nat) (K : Kont) : Sp := {
  pt := fun β j => ifF j 10 (pA3 (p235_10 call n) K) <| ifF j 29001 (pA6 (p235_29001 call n (pF5 (pB 0 β))) K) <| noP
  fs := fun β j => noP
  rd := fun β j => ifF j 14 (pA5 (b235_14 call n (pF5 (pB 0 β))) K) <| noP
  lp := fun β j m => ifL j 14 (pC5 (l235_14 call n m) K) <| noP }
@[irreducible] noncomputable def A235 : AFun := (compFn Tryz.prog Tryz.f235).getD ⟨0, [], .skip⟩
noncomputable def w235 : Sh := shW 3 fun call n K => pA3 (s235 call n) K
theorem w235_ok {E : Env} (e : E.code 235 = some A235) (hp : E.prim 235 = none) : ShOK E 235 w235 := shW_ok (A := { pts := [(10, [0, 1, 2])], lps := [(14, [1, 2, 15, 16, 17])], cuts := [(28, [(4, 29001, [1, 2, 15, 16, 17, 29])])] }) (S := T235) e hp (by kernel_rfl) (by kernel_rfl) (by kernel_rfl)

noncomputable def T236 (call : CallFn) (n : Nat) (K : Kont) : Sp := {
  pt := fun β j => ifF j 4001 (pA2 (p236_4001 call n) K) <| noP
  fs := fun β j => noP
  rd := fun β j => noP
  lp := fun β j m => noP }
@[irreducible] noncomputable def A236 : AFun := (compFn Tryz.prog Tryz.f236).getD ⟨0, [], .skip⟩
noncomputable def w236 : Sh := shW 2 fun call n K => pA2 (s236 call n) K
theorem w236_ok {E : Env} (e : E.code 236 = some A236) (hp : E.prim 236 = none) : ShOK E 236 w236 := shW_ok (A := { pts := [], lps := [], cuts := [(3, [(11, 4001, [10, 15])])] }) (S := T236) e hp (by kernel_rfl) (by kernel_rfl) (by kernel_rfl)

noncomputable def T237 (call : CallFn) (n : Nat) (K : Kont) : Sp := {
  pt := fun β j => ifF j 4001 (pA2 (p237_4001 call n) K) <| noP
  fs := fun β j => noP
  rd := fun β j => noP
  lp := fun β j m => noP }
@[irreducible] noncomputable def A237 : AFun := (compFn Tryz.prog Tryz.f237).getD ⟨0, [], .skip⟩
noncomputable def w237 : Sh := shW 2 fun call n K => pA2 (s237 call n) K
theorem w237_ok {E : Env} (e : E.code 237 = some A237) (hp : E.prim 237 = none) : ShOK E 237 w237 := shW_ok (A := { pts := [], lps := [], cuts := [(3, [(32, 4001, [31, 36])])] }) (S := T237) e hp (by kernel_rfl) (by kernel_rfl) (by kernel_rfl)

noncomputable def T238 (call : CallFn) (n : Nat) (K : Kont) : Sp := {
  pt := fun β j => ifF j 26 (pA5 (p238_26 call n (pF5 (pB 0 β))) K) <| ifF j 27 (pA2 (p238_27 call n) K) <| noP
  fs := fun β j => noP
  rd := fun β j => ifF j 8 (pA5 (b238_8 call n (pF5 (pB 0 β))) K) <| ifF j 33 (pA4 (b238_33 call n (pF4 (pB 0 β))) K) <| noP
  lp := fun β j m => ifL j 8 (pC5 (l238_8 call n m) K) <| ifL j 33 (pC4 (l238_33 call n m) K) <| noP }
@[irreducible] noncomputable def A238 : AFun := (compFn Tryz.prog Tryz.f238).getD ⟨0, [], .skip⟩
noncomputable def w238 : Sh := shW 1 fun call n K => pA1 (s238 call n) K
theorem w238_ok {E : Env} (e : E.code 238 = some A238) (hp : E.prim 238 = none) : ShOK E 238 w238 := shW_ok (A := { pts := [(26, [0, 3, 9, 10, 11]), (27, [0, 3])], lps := [(8, [0, 3, 9, 10, 11]), (33, [6, 25, 26, 27])] }) (S := T238) e hp (by kernel_rfl) (by kernel_rfl) (by kernel_rfl)

noncomputable def T239 (call : CallFn) (n : Nat) (K : Kont) : Sp := {
  pt := fun β j => ifF j 4001 (pA2 (p239_4001 call n) K) <| ifF j 4002 (pA3 (p239_4002 call n) K) <| noP
  fs := fun β j => noP
  rd := fun β j => noP
  lp := fun β j m => noP }
@[irreducible] noncomputable def A239 : AFun := (compFn Tryz.prog Tryz.f239).getD ⟨0, [], .skip⟩
noncomputable def w239 : Sh := shW 1 fun call n K => pA1 (s239 call n) K
theorem w239_ok {E : Env} (e : E.code 239 = some A239) (hp : E.prim 239 = none) : ShOK E 239 w239 := shW_ok (A := { pts := [], lps := [], cuts := [(3, [(2, 4001, [0, 4]), (3, 4002, [0, 5, 7])])] }) (S := T239) e hp (by kernel_rfl) (by kernel_rfl) (by kernel_rfl)

@[irreducible] noncomputable def A240 : AFun := (compFn Tryz.prog Tryz.f240).getD ⟨0, [], .skip⟩
noncomputable def w240 : Sh := shW 2 fun call n K => pA2 (s240 call n) K
theorem w240_ok {E : Env} (e : E.code 240 = some A240) (hp : E.prim 240 = none) : ShOK E 240 w240 := shW_ok (A := { pts := [], lps := [] }) (S := noS) e hp (by kernel_rfl) (by kernel_rfl) (by kernel_rfl)

noncomputable def T246 (call : CallFn) (n : Nat) (K : Kont) : Sp := {
  pt := fun β j => ifF j 4001 (pA3 (p246_4001 call n) K) <| ifF j 12001 (pA5 (p246_12001 call n (pF3 (pB 0 β))) K) <| noP
  fs := fun β j => noP
  rd := fun β j => ifF j 5 (pA3 (b246_5 call n (pF3 (pB 0 β))) K) <| noP
  lp := fun β j m => ifL j 5 (pC3 (l246_5 call n m) K) <| noP }
@[irreducible] noncomputable def A246 : AFun := (compFn Tryz.prog Tryz.f246).getD ⟨0, [], .skip⟩
noncomputable def w246 : Sh := shW 1 fun call n K => pA1 (s246 call n) K
theorem w246_ok {E : Env} (e : E.code 246 = some A246) (hp : E.prim 246 = none) : ShOK E 246 w246 := shW_ok (A := { pts := [], lps := [(5, [0, 2, 3])], cuts := [(3, [(2, 4001, [0, 2, 6])]), (11, [(2, 12001, [0, 2, 3, 4, 10])])] }) (S := T246) e hp (by kernel_rfl) (by kernel_rfl) (by kernel_rfl)

noncomputable def T254 (call : CallFn) (n : Nat) (K : Kont) : Sp := {
  pt := fun β j => ifF j 20 (pA6 (p254_20 call n (pF5 (pB 0 β))) K) <| noP
  fs := fun β j => noP
  rd := fun β j => ifF j 3 (pA5 (b254_3 call n (pF5 (pB 0 β))) K) <| noP
  lp := fun β j m => ifL j 3 (pC5 (l254_3 call n m) K) <| noP }
@[irreducible] noncomputable def A254 : AFun := (compFn Tryz.prog Tryz.f254).getD ⟨0, [], .skip⟩
noncomputable def w254 : Sh := shW 3 fun call n K => pA3 (s254 call n) K
theorem w254_ok {E : Env} (e : E.code 254 = some A254) (hp : E.prim 254 = none) : ShOK E 254 w254 := shW_ok (A := { pts := [(20, [0, 2, 7, 8, 9, 10])], lps := [(3, [0, 2, 8, 9, 10])] }) (S := T254) e hp (by kernel_rfl) (by kernel_rfl) (by kernel_rfl)

@[irreducible] noncomputable def A255 : AFun := (compFn Tryz.prog Tryz.f255).getD ⟨0, [], .skip⟩
noncomputable def w255 : Sh := shW 2 fun call n K => pA2 (s255 call n) K
theorem w255_ok {E : Env} (e : E.code 255 = some A255) (hp : E.prim 255 = none) : ShOK E 255 w255 := shW_ok (A := { pts := [], lps := [] }) (S := noS) e hp (by kernel_rfl) (by kernel_rfl) (by kernel_rfl)

@[irreducible] noncomputable def A256 : AFun := (compFn Tryz.prog Tryz.f256).getD ⟨0, [], .skip⟩
noncomputable def w256 : Sh := shW 2 fun call n K => pA2 (s256 call n) K
theorem w256_ok {E : Env} (e : E.code 256 = some A256) (hp : E.prim 256 = none) : ShOK E 256 w256 := shW_ok (A := { pts := [], lps := [] }) (S := noS) e hp (by kernel_rfl) (by kernel_rfl) (by kernel_rfl)

noncomputable def T257 (call : CallFn) (n : Nat) (K : Kont) : Sp := {
  pt := fun β j => ifF j 13001 (pA2 (p257_13001 call n) K) <| ifF j 17001 (pA2 (p257_17001 call n) K) <| ifF j 21001 (pA2 (p257_21001 call n) K) <| noP
  fs := fun β j => noP
  rd := fun β j => noP
  lp := fun β j m => noP }
@[irreducible] noncomputable def A257 : AFun := (compFn Tryz.prog Tryz.f257).getD ⟨0, [], .skip⟩
noncomputable def w257 : Sh := shW 2 fun call n K => pA2 (s257 call n) K
theorem w257_ok {E : Env} (e : E.code 257 = some A257) (hp : E.prim 257 = none) : ShOK E 257 w257 := shW_ok (A := { pts := [], lps := [], cuts := [(12, [(4, 13001, [15, 18])]), (16, [(4, 17001, [23, 26])]), (20, [(4, 21001, [31, 34])])] }) (S := T257) e hp (by kernel_rfl) (by kernel_rfl) (by kernel_rfl)

noncomputable def T258 (call : CallFn) (n : Nat) (K : Kont) : Sp := {
  pt := fun β j => ifF j 10 (pA3 (p258_10 call n) K) <| ifF j 29001 (pA6 (p258_29001 call n (pF5 (pB 0 β))) K) <| noP
  fs := fun β j => noP
  rd := fun β j => ifF j 14 (pA5 (b258_14 call n (pF5 (pB 0 β))) K) <| noP
  lp := fun β j m => ifL j 14 (pC5 (l258_14 call n m) K) <| noP }
@[irreducible] noncomputable def A258 : AFun := (compFn Tryz.prog Tryz.f258).getD ⟨0, [], .skip⟩
noncomputable def w258 : Sh := shW 3 fun call n K => pA3 (s258 call n) K
theorem w258_ok {E : Env} (e : E.code 258 = some A258) (hp : E.prim 258 = none) : ShOK E 258 w258 := shW_ok (A := { pts := [(10, [0, 1, 2])], lps := [(14, [1, 2, 15, 16, 17])], cuts := [(28, [(4, 29001, [1, 2, 15, 16, 17, 29])])] }) (S := T258) e hp (by kernel_rfl) (by kernel_rfl) (by kernel_rfl)

noncomputable def T259 (call : CallFn) (n : Nat) (K : Kont) : Sp := {
  pt := fun β j => ifF j 8 (pA2 (p259_8 call n) K) <| noP
  fs := fun β j => noP
  rd := fun β j => noP
  lp := fun β j m => noP }
@[irreducible] noncomputable def A259 : AFun := (compFn Tryz.prog Tryz.f259).getD ⟨0, [], .skip⟩
noncomputable def w259 : Sh := shW 2 fun call n K => pA2 (s259 call n) K
theorem w259_ok {E : Env} (e : E.code 259 = some A259) (hp : E.prim 259 = none) : ShOK E 259 w259 := shW_ok (A := { pts := [(8, [0, 1])], lps := [] }) (S := T259) e hp (by kernel_rfl) (by kernel_rfl) (by kernel_rfl)

@[irreducible] noncomputable def A260 : AFun := (compFn Tryz.prog Tryz.f260).getD ⟨0, [], .skip⟩
noncomputable def w260 : Sh := shW 2 fun call n K => pA2 (s260 call n) K
theorem w260_ok {E : Env} (e : E.code 260 = some A260) (hp : E.prim 260 = none) : ShOK E 260 w260 := shW_ok (A := { pts := [], lps := [] }) (S := noS) e hp (by kernel_rfl) (by kernel_rfl) (by kernel_rfl)

noncomputable def T262 (call : CallFn) (n : Nat) (K : Kont) : Sp := {
  pt := fun β j => ifF j 30 (pA5 (p262_30 call n) K) <| ifF j 11001 (pA3 (p262_11001 call n) K) <| ifF j 17001 (pA2 (p262_17001 call n) K) <| ifF j 23001 (pA2 (p262_23001 call n) K) <| ifF j 23002 (pA2 (p262_23002 call n) K) <| ifF j 33001 (pA2 (p262_33001 call n) K) <| ifF j 39001 (pA2 (p262_39001 call n) K) <| ifF j 45001 (pA2 (p262_45001 call n) K) <| ifF j 53001 (pA3 (p262_53001 call n) K) <| ifF j 69001 (pA2 (p262_69001 call n) K) <| ifF j 77001 (pA4 (p262_77001 call n) K) <| ifF j 81001 (pA2 (p262_81001 call n) K) <| ifF j 89001 (pA4 (p262_89001 call n) K) <| ifF j 93001 (pA5 (p262_93001 call n) K) <| ifF j 97001 (pA2 (p262_97001 call n) K) <| ifF j 101001 (pA2 (p262_101001 call n) K) <| noP
  fs := fun β j => noP
  rd := fun β j => noP
  lp := fun β j m => noP }
@[irreducible] noncomputable def A262 : AFun := (compFn Tryz.prog Tryz.f262).getD ⟨0, [], .skip⟩
noncomputable def w262 : Sh := shW 1 fun call n K => pA1 (s262 call n) K
theorem w262_ok {E : Env} (e : E.code 262 = some A262) (hp : E.prim 262 = none) : ShOK E 262 w262 := shW_ok (A := { pts := [(30, [1, 2, 3, 4, 48])], lps := [], cuts := [(10, [(3, 11001, [1, 2, 23])]), (16, [(3, 17001, [2, 39])]), (22, [(2, 23001, [2, 45]), (2, 23002, [2, 47])]), (32, [(5, 33001, [2, 57])]), (38, [(2, 39001, [2, 62])]), (44, [(2, 45001, [2, 68])]), (52, [(2, 53001, [1, 2, 77])]), (68, [(4, 69001, [2, 92])]), (76, [(2, 77001, [1, 2, 3, 99])]), (80, [(5, 81001, [2, 106])]), (88, [(2, 89001, [1, 2, 3, 113])]), (92, [(2, 93001, [1, 2, 3, 10, 118])]), (96, [(6, 97001, [2, 126])]), (100, [(2, 101001, [2, 128])])] }) (S := T262) e hp (by kernel_rfl) (by kernel_rfl) (by kernel_rfl)

noncomputable def T265 (call : CallFn) (n : Nat) (K : Kont) : Sp := {
  pt := fun β j => ifF j 20 (pA6 (p265_20 call n (pF5 (pB 0 β))) K) <| noP
  fs := fun β j => noP
  rd := fun β j => ifF j 3 (pA5 (b265_3 call n (pF5 (pB 0 β))) K) <| noP
  lp := fun β j m => ifL j 3 (pC5 (l265_3 call n m) K) <| noP }
@[irreducible] noncomputable def A265 : AFun := (compFn Tryz.prog Tryz.f265).getD ⟨0, [], .skip⟩
noncomputable def w265 : Sh := shW 3 fun call n K => pA3 (s265 call n) K
theorem w265_ok {E : Env} (e : E.code 265 = some A265) (hp : E.prim 265 = none) : ShOK E 265 w265 := shW_ok (A := { pts := [(20, [0, 2, 7, 8, 9, 10])], lps := [(3, [0, 2, 8, 9, 10])] }) (S := T265) e hp (by kernel_rfl) (by kernel_rfl) (by kernel_rfl)

@[irreducible] noncomputable def A266 : AFun := (compFn Tryz.prog Tryz.f266).getD ⟨0, [], .skip⟩
noncomputable def w266 : Sh := shW 2 fun call n K => pA2 (s266 call n) K
theorem w266_ok {E : Env} (e : E.code 266 = some A266) (hp : E.prim 266 = none) : ShOK E 266 w266 := shW_ok (A := { pts := [], lps := [] }) (S := noS) e hp (by kernel_rfl) (by kernel_rfl) (by kernel_rfl)

@[irreducible] noncomputable def A267 : AFun := (compFn Tryz.prog Tryz.f267).getD ⟨0, [], .skip⟩
noncomputable def w267 : Sh := shW 1 fun call n K => pA1 (s267 call n) K
theorem w267_ok {E : Env} (e : E.code 267 = some A267) (hp : E.prim 267 = none) : ShOK E 267 w267 := shW_ok (A := { pts := [], lps := [] }) (S := noS) e hp (by kernel_rfl) (by kernel_rfl) (by kernel_rfl)

@[irreducible] noncomputable def A268 : AFun := (compFn Tryz.prog Tryz.f268).getD ⟨0, [], .skip⟩
noncomputable def w268 : Sh := shW 1 fun call n K => pA1 (s268 call n) K
theorem w268_ok {E : Env} (e : E.code 268 = some A268) (hp : E.prim 268 = none) : ShOK E 268 w268 := shW_ok (A := { pts := [], lps := [] }) (S := noS) e hp (by kernel_rfl) (by kernel_rfl) (by kernel_rfl)

@[irreducible] noncomputable def A269 : AFun := (compFn Tryz.prog Tryz.f269).getD ⟨0, [], .skip⟩
noncomputable def w269 : Sh := shW 2 fun call n K => pA2 (s269 call n) K
theorem w269_ok {E : Env} (e : E.code 269 = some A269) (hp : E.prim 269 = none) : ShOK E 269 w269 := shW_ok (A := { pts := [], lps := [] }) (S := noS) e hp (by kernel_rfl) (by kernel_rfl) (by kernel_rfl)

@[irreducible] noncomputable def A270 : AFun := (compFn Tryz.prog Tryz.f270).getD ⟨0, [], .skip⟩
noncomputable def w270 : Sh := shW 1 fun call n K => pA1 (s270 call n) K
theorem w270_ok {E : Env} (e : E.code 270 = some A270) (hp : E.prim 270 = none) : ShOK E 270 w270 := shW_ok (A := { pts := [], lps := [] }) (S := noS) e hp (by kernel_rfl) (by kernel_rfl) (by kernel_rfl)

end Go.Proofs.YtnapiobolehfhaaGreatDoor
