/-
  The functions say no more than the code: so the kernel finds (printed by wip/tools/gen2.py).
-/
import Derived.Test.YtplimodjgbhmdaaGreatDoorXS0
import Derived.Test.YtplimodjgbhmdaaGreatDoorAbDn
import Derived.Test.YtplimodjgbhmdaaGreatDoorProg
import Derived.KernelRfl
namespace Go.Proofs.YtplimodjgbhmdaaGreatDoor
open Go.Ab
set_option linter.unusedVariables false

noncomputable def T3 (call : CallFn) (n : Nat) (K : Kont) : Sp := {
  pt := fun β j => ifF j 27 (pA0 (p3_27 call n) K) <| ifF j 19001 (pA3 (p3_19001 call n (pF2 (pB 0 β))) K) <| ifF j 19002 (pA3 (p3_19002 call n (pF2 (pB 0 β))) K) <| ifF j 29001 (pA1 (p3_29001 call n) K) <| ifF j 29002 (pA1 (p3_29002 call n) K) <| noP
  fs := fun β j => noP
  rd := fun β j => ifF j 8 (pA2 (b3_8 call n (pF2 (pB 0 β))) K) <| noP
  lp := fun β j m => ifL j 8 (pC2 (l3_8 call n m) K) <| noP }
@[irreducible] noncomputable def A3 : AFun := (compFn Tryz.prog Tryz.f3).getD ⟨0, [], .skip⟩
noncomputable def w3 : Sh := shW 0 fun call n K => pA0 (s3 call n) K
theorem w3_ok {E : Env} (e : E.code 3 = some A3) (hp : E.prim 3 = none) : ShOK E 3 w3 := shW_ok (A := { pts := [(27, [])], lps := [(8, [1, 2])], cuts := [(18, [(5, 19001, [1, 2, 19]), (1, 19002, [1, 2, 20])]), (28, [(1, 29001, [44]), (1, 29002, [45])])] }) (S := T3) e hp (by kernel_rfl) (by kernel_rfl) (by kernel_rfl)

noncomputable def T6 (call : CallFn) (n : Nat) (K : Kont) : Sp := {
  pt := fun β j => ifF j 4001 (pA1 (p6_4001 call n) K) <| noP
  fs := fun β j => noP
  rd := fun β j => noP
  lp := fun β j m => noP }
@[irreducible] noncomputable def A6 : AFun := (compFn Tryz.prog Tryz.f6).getD ⟨0, [], .skip⟩
noncomputable def w6 : Sh := shW 1 fun call n K => pA1 (s6 call n) K
theorem w6_ok {E : Env} (e : E.code 6 = some A6) (hp : E.prim 6 = none) : ShOK E 6 w6 := shW_ok (A := { pts := [], lps := [], cuts := [(3, [(4, 4001, [10])])] }) (S := T6) e hp (by kernel_rfl) (by kernel_rfl) (by kernel_rfl)

noncomputable def T7 (call : CallFn) (n : Nat) (K : Kont) : Sp := {
  pt := fun β j => ifF j 10 (pA2 (p7_10 call n) K) <| noP
  fs := fun β j => noP
  rd := fun β j => ifF j 14 (pA3 (b7_14 call n (pF3 (pB 0 β))) K) <| noP
  lp := fun β j m => ifL j 14 (pC3 (l7_14 call n m) K) <| noP }
@[irreducible] noncomputable def A7 : AFun := (compFn Tryz.prog Tryz.f7).getD ⟨0, [], .skip⟩
noncomputable def w7 : Sh := shW 2 fun call n K => pA2 (s7 call n) K
theorem w7_ok {E : Env} (e : E.code 7 = some A7) (hp : E.prim 7 = none) : ShOK E 7 w7 := shW_ok (A := { pts := [(10, [0, 1])], lps := [(14, [0, 1, 5])] }) (S := T7) e hp (by kernel_rfl) (by kernel_rfl) (by kernel_rfl)

noncomputable def T8 (call : CallFn) (n : Nat) (K : Kont) : Sp := {
  pt := fun β j => ifF j 4001 (pA1 (p8_4001 call n) K) <| ifF j 4002 (pA1 (p8_4002 call n) K) <| ifF j 6001 (pA2 (p8_6001 call n) K) <| ifF j 6002 (pA2 (p8_6002 call n) K) <| ifF j 6003 (pA2 (p8_6003 call n) K) <| noP
  fs := fun β j => noP
  rd := fun β j => noP
  lp := fun β j m => noP }
@[irreducible] noncomputable def A8 : AFun := (compFn Tryz.prog Tryz.f8).getD ⟨0, [], .skip⟩
noncomputable def w8 : Sh := shW 0 fun call n K => pA0 (s8 call n) K
theorem w8_ok {E : Env} (e : E.code 8 = some A8) (hp : E.prim 8 = none) : ShOK E 8 w8 := shW_ok (A := { pts := [], lps := [], cuts := [(3, [(1, 4001, [4]), (1, 4002, [5])]), (5, [(28, 6001, [31, 35]), (3, 6002, [37, 38]), (1, 6003, [37, 39])])] }) (S := T8) e hp (by kernel_rfl) (by kernel_rfl) (by kernel_rfl)

@[irreducible] noncomputable def A10 : AFun := (compFn Tryz.prog Tryz.f10).getD ⟨0, [], .skip⟩
noncomputable def w10 : Sh := shW 1 fun call n K => pA1 (s10 call n) K
theorem w10_ok {E : Env} (e : E.code 10 = some A10) (hp : E.prim 10 = none) : ShOK E 10 w10 := shW_ok (A := { pts := [], lps := [] }) (S := noS) e hp (by kernel_rfl) (by kernel_rfl) (by kernel_rfl)

noncomputable def T11 (call : CallFn) (n : Nat) (K : Kont) : Sp := {
  pt := fun β j => ifF j 12001 (pA1 (p11_12001 call n) K) <| noP
  fs := fun β j => noP
  rd := fun β j => noP
  lp := fun β j m => noP }
@[irreducible] noncomputable def A11 : AFun := (compFn Tryz.prog Tryz.f11).getD ⟨0, [], .skip⟩
noncomputable def w11 : Sh := shW 2 fun call n K => pA2 (s11 call n) K
theorem w11_ok {E : Env} (e : E.code 11 = some A11) (hp : E.prim 11 = none) : ShOK E 11 w11 := shW_ok (A := { pts := [], lps := [], cuts := [(11, [(3, 12001, [14])])] }) (S := T11) e hp (by kernel_rfl) (by kernel_rfl) (by kernel_rfl)

noncomputable def T12 (call : CallFn) (n : Nat) (K : Kont) : Sp := {
  pt := fun β j => ifF j 27 (pA1 (p12_27 call n) K) <| noP
  fs := fun β j => noP
  rd := fun β j => ifF j 10 (pA5 (b12_10 call n (pF5 (pB 0 β))) K) <| noP
  lp := fun β j m => ifL j 10 (pC5 (l12_10 call n m) K) <| noP }
@[irreducible] noncomputable def A12 : AFun := (compFn Tryz.prog Tryz.f12).getD ⟨0, [], .skip⟩
noncomputable def w12 : Sh := shW 1 fun call n K => pA1 (s12 call n) K
theorem w12_ok {E : Env} (e : E.code 12 = some A12) (hp : E.prim 12 = none) : ShOK E 12 w12 := shW_ok (A := { pts := [(27, [3])], lps := [(10, [3, 4, 9, 10, 11])] }) (S := T12) e hp (by kernel_rfl) (by kernel_rfl) (by kernel_rfl)

noncomputable def T13 (call : CallFn) (n : Nat) (K : Kont) : Sp := {
  pt := fun β j => ifF j 20001 (pA5 (p13_20001 call n (pF4 (pB 0 β))) K) <| noP
  fs := fun β j => noP
  rd := fun β j => ifF j 8 (pA4 (b13_8 call n (pF4 (pB 0 β))) K) <| noP
  lp := fun β j m => ifL j 8 (pC4 (l13_8 call n m) K) <| noP }
@[irreducible] noncomputable def A13 : AFun := (compFn Tryz.prog Tryz.f13).getD ⟨0, [], .skip⟩
noncomputable def w13 : Sh := shW 1 fun call n K => pA1 (s13 call n) K
theorem w13_ok {E : Env} (e : E.code 13 = some A13) (hp : E.prim 13 = none) : ShOK E 13 w13 := shW_ok (A := { pts := [], lps := [(8, [3, 6, 7, 8])], cuts := [(19, [(3, 20001, [6, 7, 8, 12, 14])])] }) (S := T13) e hp (by kernel_rfl) (by kernel_rfl) (by kernel_rfl)

noncomputable def T14 (call : CallFn) (n : Nat) (K : Kont) : Sp := {
  pt := fun β j => ifF j 6001 (pA3 (p14_6001 call n) K) <| noP
  fs := fun β j => noP
  rd := fun β j => noP
  lp := fun β j m => noP }
@[irreducible] noncomputable def A14 : AFun := (compFn Tryz.prog Tryz.f14).getD ⟨0, [], .skip⟩
noncomputable def w14 : Sh := shW 1 fun call n K => pA1 (s14 call n) K
theorem w14_ok {E : Env} (e : E.code 14 = some A14) (hp : E.prim 14 = none) : ShOK E 14 w14 := shW_ok (A := { pts := [], lps := [], cuts := [(5, [(3, 6001, [2, 5, 11])])] }) (S := T14) e hp (by kernel_rfl) (by kernel_rfl) (by kernel_rfl)

noncomputable def T15 (call : CallFn) (n : Nat) (K : Kont) : Sp := {
  pt := fun β j => ifF j 10 (pA2 (p15_10 call n) K) <| ifF j 31 (pA2 (p15_31 call n) K) <| ifF j 52 (pA2 (p15_52 call n) K) <| ifF j 54001 (pA3 (p15_54001 call n) K) <| ifF j 54002 (pA4 (p15_54002 call n) K) <| ifF j 54003 (pA4 (p15_54003 call n) K) <| ifF j 54004 (pA4 (p15_54004 call n) K) <| ifF j 54005 (pA2 (p15_54005 call n) K) <| noP
  fs := fun β j => noP
  rd := fun β j => ifF j 14 (pA3 (b15_14 call n (pF3 (pB 0 β))) K) <| ifF j 35 (pA3 (b15_35 call n (pF3 (pB 0 β))) K) <| noP
  lp := fun β j m => ifL j 14 (pC3 (l15_14 call n m) K) <| ifL j 35 (pC3 (l15_35 call n m) K) <| noP }
@[irreducible] noncomputable def A15 : AFun := (compFn Tryz.prog Tryz.f15).getD ⟨0, [], .skip⟩
noncomputable def w15 : Sh := shW 2 fun call n K => pA2 (s15 call n) K
theorem w15_ok {E : Env} (e : E.code 15 = some A15) (hp : E.prim 15 = none) : ShOK E 15 w15 := shW_ok (A := { pts := [(10, [2, 3]), (31, [2, 3]), (52, [2, 3])], lps := [(14, [2, 3, 5]), (35, [2, 3, 6])], cuts := [(53, [(5, 54001, [2, 3, 116]), (6, 54002, [2, 3, 117, 122]), (7, 54003, [2, 3, 124, 129]), (7, 54004, [2, 3, 131, 136]), (7, 54005, [138, 143])])] }) (S := T15) e hp (by kernel_rfl) (by kernel_rfl) (by kernel_rfl)

@[irreducible] noncomputable def A16 : AFun := (compFn Tryz.prog Tryz.f16).getD ⟨0, [], .skip⟩
noncomputable def w16 : Sh := shW 1 fun call n K => pA1 (s16 call n) K
theorem w16_ok {E : Env} (e : E.code 16 = some A16) (hp : E.prim 16 = none) : ShOK E 16 w16 := shW_ok (A := { pts := [], lps := [] }) (S := noS) e hp (by kernel_rfl) (by kernel_rfl) (by kernel_rfl)

noncomputable def T17 (call : CallFn) (n : Nat) (K : Kont) : Sp := {
  pt := fun β j => ifF j 4001 (pA1 (p17_4001 call n) K) <| noP
  fs := fun β j => noP
  rd := fun β j => noP
  lp := fun β j m => noP }
@[irreducible] noncomputable def A17 : AFun := (compFn Tryz.prog Tryz.f17).getD ⟨0, [], .skip⟩
noncomputable def w17 : Sh := shW 2 fun call n K => pA2 (s17 call n) K
theorem w17_ok {E : Env} (e : E.code 17 = some A17) (hp : E.prim 17 = none) : ShOK E 17 w17 := shW_ok (A := { pts := [], lps := [], cuts := [(3, [(3, 4001, [7])])] }) (S := T17) e hp (by kernel_rfl) (by kernel_rfl) (by kernel_rfl)

noncomputable def T18 (call : CallFn) (n : Nat) (K : Kont) : Sp := {
  pt := fun β j => ifF j 4001 (pA3 (p18_4001 call n) K) <| ifF j 4002 (pA4 (p18_4002 call n) K) <| ifF j 4003 (pA2 (p18_4003 call n) K) <| noP
  fs := fun β j => noP
  rd := fun β j => noP
  lp := fun β j m => noP }
@[irreducible] noncomputable def A18 : AFun := (compFn Tryz.prog Tryz.f18).getD ⟨0, [], .skip⟩
noncomputable def w18 : Sh := shW 2 fun call n K => pA2 (s18 call n) K
theorem w18_ok {E : Env} (e : E.code 18 = some A18) (hp : E.prim 18 = none) : ShOK E 18 w18 := shW_ok (A := { pts := [], lps := [], cuts := [(3, [(5, 4001, [1, 2, 8]), (7, 4002, [1, 2, 10, 15]), (7, 4003, [18, 22])])] }) (S := T18) e hp (by kernel_rfl) (by kernel_rfl) (by kernel_rfl)

noncomputable def T19 (call : CallFn) (n : Nat) (K : Kont) : Sp := {
  pt := fun β j => ifF j 4001 (pA1 (p19_4001 call n) K) <| noP
  fs := fun β j => noP
  rd := fun β j => noP
  lp := fun β j m => noP }
@[irreducible] noncomputable def A19 : AFun := (compFn Tryz.prog Tryz.f19).getD ⟨0, [], .skip⟩
noncomputable def w19 : Sh := shW 2 fun call n K => pA2 (s19 call n) K
theorem w19_ok {E : Env} (e : E.code 19 = some A19) (hp : E.prim 19 = none) : ShOK E 19 w19 := shW_ok (A := { pts := [], lps := [], cuts := [(3, [(3, 4001, [7])])] }) (S := T19) e hp (by kernel_rfl) (by kernel_rfl) (by kernel_rfl)

noncomputable def T20 (call : CallFn) (n : Nat) (K : Kont) : Sp := {
  pt := fun β j => ifF j 4001 (pA1 (p20_4001 call n) K) <| noP
  fs := fun β j => noP
  rd := fun β j => noP
  lp := fun β j m => noP }
@[irreducible] noncomputable def A20 : AFun := (compFn Tryz.prog Tryz.f20).getD ⟨0, [], .skip⟩
noncomputable def w20 : Sh := shW 2 fun call n K => pA2 (s20 call n) K
theorem w20_ok {E : Env} (e : E.code 20 = some A20) (hp : E.prim 20 = none) : ShOK E 20 w20 := shW_ok (A := { pts := [], lps := [], cuts := [(3, [(4, 4001, [7])])] }) (S := T20) e hp (by kernel_rfl) (by kernel_rfl) (by kernel_rfl)

noncomputable def T21 (call : CallFn) (n : Nat) (K : Kont) : Sp := {
  pt := fun β j => ifF j 52 (pA1 (p21_52 call n) K) <| ifF j 91 (pA1 (p21_91 call n) K) <| ifF j 11001 (pA1 (p21_11001 call n) K) <| ifF j 11002 (pA1 (p21_11002 call n) K) <| ifF j 27001 (pA1 (p21_27001 call n) K) <| ifF j 27002 (pA1 (p21_27002 call n) K) <| ifF j 33001 (pA2 (p21_33001 call n) K) <| ifF j 38001 (pA3 (p21_38001 call n) K) <| ifF j 51001 (pA6 (p21_51001 call n (pF5 (pB 0 β))) K) <| ifF j 51002 (pA6 (p21_51002 call n (pF5 (pB 0 β))) K) <| ifF j 85001 (pA5 (p21_85001 call n (pF4 (pB 0 β))) K) <| noP
  fs := fun β j => noP
  rd := fun β j => ifF j 39 (pA5 (b21_39 call n (pF5 (pB 0 β))) K) <| ifF j 72 (pA4 (b21_72 call n (pF4 (pB 0 β))) K) <| noP
  lp := fun β j m => ifL j 39 (pC5 (l21_39 call n m) K) <| ifL j 72 (pC4 (l21_72 call n m) K) <| noP }
@[irreducible] noncomputable def A21 : AFun := (compFn Tryz.prog Tryz.f21).getD ⟨0, [], .skip⟩
noncomputable def w21 : Sh := shW 1 fun call n K => pA1 (s21 call n) K
theorem w21_ok {E : Env} (e : E.code 21 = some A21) (hp : E.prim 21 = none) : ShOK E 21 w21 := shW_ok (A := { pts := [(52, [5]), (91, [1])], lps := [(39, [4, 5, 48, 49, 50]), (72, [9, 80, 81, 82])], cuts := [(10, [(3, 11001, [18]), (1, 11002, [19])]), (26, [(2, 27001, [36]), (1, 27002, [37])]), (32, [(3, 33001, [1, 44])]), (37, [(3, 38001, [4, 5, 48])]), (50, [(4, 51001, [4, 48, 49, 50, 54, 57]), (1, 51002, [4, 48, 49, 50, 54, 58])]), (84, [(3, 85001, [80, 81, 82, 86, 88])])] }) (S := T21) e hp (by kernel_rfl) (by kernel_rfl) (by kernel_rfl)

noncomputable def T22 (call : CallFn) (n : Nat) (K : Kont) : Sp := {
  pt := fun β j => ifF j 8 (pA5 (p22_8 call n) K) <| noP
  fs := fun β j => noP
  rd := fun β j => ifF j 11 (pA7 (b22_11 call n (pF7 (pB 0 β))) K) <| noP
  lp := fun β j m => ifL j 11 (pC7 (l22_11 call n m) K) <| noP }
@[irreducible] noncomputable def A22 : AFun := (compFn Tryz.prog Tryz.f22).getD ⟨0, [], .skip⟩
noncomputable def w22 : Sh := shW 5 fun call n K => pA5 (s22 call n) K
theorem w22_ok {E : Env} (e : E.code 22 = some A22) (hp : E.prim 22 = none) : ShOK E 22 w22 := shW_ok (A := { pts := [(8, [0, 1, 2, 3, 4])], lps := [(11, [0, 1, 2, 4, 20, 21, 22])] }) (S := T22) e hp (by kernel_rfl) (by kernel_rfl) (by kernel_rfl)

noncomputable def T23 (call : CallFn) (n : Nat) (K : Kont) : Sp := {
  pt := fun β j => ifF j 4001 (pA2 (p23_4001 call n) K) <| noP
  fs := fun β j => noP
  rd := fun β j => noP
  lp := fun β j m => noP }
@[irreducible] noncomputable def A23 : AFun := (compFn Tryz.prog Tryz.f23).getD ⟨0, [], .skip⟩
noncomputable def w23 : Sh := shW 2 fun call n K => pA2 (s23 call n) K
theorem w23_ok {E : Env} (e : E.code 23 = some A23) (hp : E.prim 23 = none) : ShOK E 23 w23 := shW_ok (A := { pts := [], lps := [], cuts := [(3, [(2, 4001, [1, 6])])] }) (S := T23) e hp (by kernel_rfl) (by kernel_rfl) (by kernel_rfl)

noncomputable def T24 (call : CallFn) (n : Nat) (K : Kont) : Sp := {
  pt := fun β j => ifF j 2001 (pA3 (p24_2001 call n) K) <| noP
  fs := fun β j => noP
  rd := fun β j => noP
  lp := fun β j m => noP }
@[irreducible] noncomputable def A24 : AFun := (compFn Tryz.prog Tryz.f24).getD ⟨0, [], .skip⟩
noncomputable def w24 : Sh := shW 2 fun call n K => pA2 (s24 call n) K
theorem w24_ok {E : Env} (e : E.code 24 = some A24) (hp : E.prim 24 = none) : ShOK E 24 w24 := shW_ok (A := { pts := [], lps := [], cuts := [(1, [(2, 2001, [0, 1, 4])])] }) (S := T24) e hp (by kernel_rfl) (by kernel_rfl) (by kernel_rfl)

noncomputable def T25 (call : CallFn) (n : Nat) (K : Kont) : Sp := {
  pt := fun β j => ifF j 15 (pA4 (p25_15 call n (pF4 (pB 0 β))) K) <| ifF j 37 (pA4 (p25_37 call n (pF4 (pB 0 β))) K) <| ifF j 36001 (pA8 (p25_36001 call n (pF4 (pB 1 β)) (pF7 (pB 0 β))) K) <| noP
  fs := fun β j => noP
  rd := fun β j => ifF j 8 (pA4 (b25_8 call n (pF4 (pB 0 β))) K) <| ifF j 24 (pA7 (b25_24 call n (pF4 (pB 1 β)) (pF7 (pB 0 β))) K) <| noP
  lp := fun β j m => ifL j 8 (pC4 (l25_8 call n m) K) <| ifL j 24 (pC7 (l25_24 call n (pF4 (pB 0 β)) m) K) <| noP }
@[irreducible] noncomputable def A25 : AFun := (compFn Tryz.prog Tryz.f25).getD ⟨0, [], .skip⟩
noncomputable def w25 : Sh := shW 1 fun call n K => pA1 (s25 call n) K
theorem w25_ok {E : Env} (e : E.code 25 = some A25) (hp : E.prim 25 = none) : ShOK E 25 w25 := shW_ok (A := { pts := [(15, [3, 8, 9, 10]), (37, [3, 8, 9, 10])], lps := [(8, [3, 8, 9, 10]), (24, [3, 8, 9, 10, 25, 26, 27])], cuts := [(35, [(3, 36001, [8, 9, 10, 25, 26, 27, 31, 33])])] }) (S := T25) e hp (by kernel_rfl) (by kernel_rfl) (by kernel_rfl)

noncomputable def T26 (call : CallFn) (n : Nat) (K : Kont) : Sp := {
  pt := fun β j => ifF j 27 (pA3 (p26_27 call n) K) <| ifF j 44 (pA3 (p26_44 call n) K) <| ifF j 61 (pA2 (p26_61 call n) K) <| noP
  fs := fun β j => noP
  rd := fun β j => ifF j 14 (pA6 (b26_14 call n (pF6 (pB 0 β))) K) <| ifF j 31 (pA6 (b26_31 call n (pF6 (pB 0 β))) K) <| ifF j 48 (pA5 (b26_48 call n (pF5 (pB 0 β))) K) <| noP
  lp := fun β j m => ifL j 14 (pC6 (l26_14 call n m) K) <| ifL j 31 (pC6 (l26_31 call n m) K) <| ifL j 48 (pC5 (l26_48 call n m) K) <| noP }
@[irreducible] noncomputable def A26 : AFun := (compFn Tryz.prog Tryz.f26).getD ⟨0, [], .skip⟩
noncomputable def w26 : Sh := shW 1 fun call n K => pA1 (s26 call n) K
theorem w26_ok {E : Env} (e : E.code 26 = some A26) (hp : E.prim 26 = none) : ShOK E 26 w26 := shW_ok (A := { pts := [(27, [1, 2, 3]), (44, [1, 2, 3]), (61, [2, 3])], lps := [(14, [1, 2, 3, 31, 32, 33]), (31, [1, 2, 3, 46, 47, 48]), (48, [2, 3, 65, 66, 67])] }) (S := T26) e hp (by kernel_rfl) (by kernel_rfl) (by kernel_rfl)

noncomputable def T27 (call : CallFn) (n : Nat) (K : Kont) : Sp := {
  pt := fun β j => ifF j 4001 (pA3 (p27_4001 call n) K) <| ifF j 14001 (pA1 (p27_14001 call n) K) <| noP
  fs := fun β j => noP
  rd := fun β j => noP
  lp := fun β j m => noP }
@[irreducible] noncomputable def A27 : AFun := (compFn Tryz.prog Tryz.f27).getD ⟨0, [], .skip⟩
noncomputable def w27 : Sh := shW 2 fun call n K => pA2 (s27 call n) K
theorem w27_ok {E : Env} (e : E.code 27 = some A27) (hp : E.prim 27 = none) : ShOK E 27 w27 := shW_ok (A := { pts := [], lps := [], cuts := [(3, [(2, 4001, [0, 1, 9])]), (13, [(5, 14001, [21])])] }) (S := T27) e hp (by kernel_rfl) (by kernel_rfl) (by kernel_rfl)

noncomputable def T28 (call : CallFn) (n : Nat) (K : Kont) : Sp := {
  pt := fun β j => ifF j 1001 (pA2 (p28_1001 call n) K) <| noP
  fs := fun β j => noP
  rd := fun β j => noP
  lp := fun β j m => noP }
@[irreducible] noncomputable def A28 : AFun := (compFn Tryz.prog Tryz.f28).getD ⟨0, [], .skip⟩
noncomputable def w28 : Sh := shW 2 fun call n K => pA2 (s28 call n) K
theorem w28_ok {E : Env} (e : E.code 28 = some A28) (hp : E.prim 28 = none) : ShOK E 28 w28 := shW_ok (A := { pts := [], lps := [], cuts := [(0, [(2, 1001, [1, 4])])] }) (S := T28) e hp (by kernel_rfl) (by kernel_rfl) (by kernel_rfl)

noncomputable def T29 (call : CallFn) (n : Nat) (K : Kont) : Sp := {
  pt := fun β j => ifF j 26 (pA2 (p29_26 call n) K) <| noP
  fs := fun β j => noP
  rd := fun β j => ifF j 6 (pA3 (b29_6 call n (pF3 (pB 0 β))) K) <| noP
  lp := fun β j m => ifL j 6 (pC3 (l29_6 call n m) K) <| noP }
@[irreducible] noncomputable def A29 : AFun := (compFn Tryz.prog Tryz.f29).getD ⟨0, [], .skip⟩
noncomputable def w29 : Sh := shW 1 fun call n K => pA1 (s29 call n) K
theorem w29_ok {E : Env} (e : E.code 29 = some A29) (hp : E.prim 29 = none) : ShOK E 29 w29 := shW_ok (A := { pts := [(26, [2, 3])], lps := [(6, [0, 2, 3])] }) (S := T29) e hp (by kernel_rfl) (by kernel_rfl) (by kernel_rfl)

noncomputable def T30 (call : CallFn) (n : Nat) (K : Kont) : Sp := {
  pt := fun β j => ifF j 4001 (pA4 (p30_4001 call n) K) <| ifF j 4002 (pA2 (p30_4002 call n) K) <| noP
  fs := fun β j => noP
  rd := fun β j => noP
  lp := fun β j m => noP }
@[irreducible] noncomputable def A30 : AFun := (compFn Tryz.prog Tryz.f30).getD ⟨0, [], .skip⟩
noncomputable def w30 : Sh := shW 2 fun call n K => pA2 (s30 call n) K
theorem w30_ok {E : Env} (e : E.code 30 = some A30) (hp : E.prim 30 = none) : ShOK E 30 w30 := shW_ok (A := { pts := [], lps := [], cuts := [(3, [(18, 4001, [2, 3, 17, 22]), (7, 4002, [24, 29])])] }) (S := T30) e hp (by kernel_rfl) (by kernel_rfl) (by kernel_rfl)

noncomputable def T31 (call : CallFn) (n : Nat) (K : Kont) : Sp := {
  pt := fun β j => ifF j 10 (pA2 (p31_10 call n) K) <| noP
  fs := fun β j => noP
  rd := fun β j => ifF j 14 (pA3 (b31_14 call n (pF3 (pB 0 β))) K) <| noP
  lp := fun β j m => ifL j 14 (pC3 (l31_14 call n m) K) <| noP }
@[irreducible] noncomputable def A31 : AFun := (compFn Tryz.prog Tryz.f31).getD ⟨0, [], .skip⟩
noncomputable def w31 : Sh := shW 2 fun call n K => pA2 (s31 call n) K
theorem w31_ok {E : Env} (e : E.code 31 = some A31) (hp : E.prim 31 = none) : ShOK E 31 w31 := shW_ok (A := { pts := [(10, [0, 1])], lps := [(14, [0, 1, 5])] }) (S := T31) e hp (by kernel_rfl) (by kernel_rfl) (by kernel_rfl)

noncomputable def T32 (call : CallFn) (n : Nat) (K : Kont) : Sp := {
  pt := fun β j => ifF j 10 (pA2 (p32_10 call n) K) <| noP
  fs := fun β j => noP
  rd := fun β j => ifF j 14 (pA3 (b32_14 call n (pF3 (pB 0 β))) K) <| noP
  lp := fun β j m => ifL j 14 (pC3 (l32_14 call n m) K) <| noP }
@[irreducible] noncomputable def A32 : AFun := (compFn Tryz.prog Tryz.f32).getD ⟨0, [], .skip⟩
noncomputable def w32 : Sh := shW 2 fun call n K => pA2 (s32 call n) K
theorem w32_ok {E : Env} (e : E.code 32 = some A32) (hp : E.prim 32 = none) : ShOK E 32 w32 := shW_ok (A := { pts := [(10, [0, 1])], lps := [(14, [0, 1, 5])] }) (S := T32) e hp (by kernel_rfl) (by kernel_rfl) (by kernel_rfl)

noncomputable def T33 (call : CallFn) (n : Nat) (K : Kont) : Sp := {
  pt := fun β j => ifF j 13 (pA3 (p33_13 call n (pF3 (pB 0 β))) K) <| ifF j 25 (pA4 (p33_25 call n (pF3 (pB 0 β))) K) <| ifF j 47 (pA3 (p33_47 call n (pF3 (pB 0 β))) K) <| ifF j 20001 (pA6 (p33_20001 call n (pF3 (pB 0 β))) K) <| ifF j 20002 (pA6 (p33_20002 call n (pF3 (pB 0 β))) K) <| ifF j 41001 (pA7 (p33_41001 call n (pF3 (pB 1 β)) (pF6 (pB 0 β))) K) <| noP
  fs := fun β j => noP
  rd := fun β j => ifF j 6 (pA3 (b33_6 call n (pF3 (pB 0 β))) K) <| ifF j 28 (pA6 (b33_28 call n (pF3 (pB 1 β)) (pF6 (pB 0 β))) K) <| noP
  lp := fun β j m => ifL j 6 (pC3 (l33_6 call n m) K) <| ifL j 28 (pC6 (l33_28 call n (pF3 (pB 0 β)) m) K) <| noP }
@[irreducible] noncomputable def A33 : AFun := (compFn Tryz.prog Tryz.f33).getD ⟨0, [], .skip⟩
noncomputable def w33 : Sh := shW 1 fun call n K => pA1 (s33 call n) K
theorem w33_ok {E : Env} (e : E.code 33 = some A33) (hp : E.prim 33 = none) : ShOK E 33 w33 := shW_ok (A := { pts := [(13, [7, 8, 9]), (25, [4, 7, 8, 9]), (47, [7, 8, 9])], lps := [(6, [7, 8, 9]), (28, [7, 8, 9, 34, 35, 36])], cuts := [(19, [(12, 20001, [4, 7, 8, 9, 21, 24]), (6, 20002, [4, 7, 8, 9, 27, 30])]), (40, [(2, 41001, [7, 8, 9, 34, 35, 36, 41])])] }) (S := T33) e hp (by kernel_rfl) (by kernel_rfl) (by kernel_rfl)

noncomputable def T34 (call : CallFn) (n : Nat) (K : Kont) : Sp := {
  pt := fun β j => noP
  fs := fun β j => noP
  rd := fun β j => ifF j 6 (pA4 (b34_6 call n (pF4 (pB 0 β))) K) <| noP
  lp := fun β j m => ifL j 6 (pC4 (l34_6 call n m) K) <| noP }
@[irreducible] noncomputable def A34 : AFun := (compFn Tryz.prog Tryz.f34).getD ⟨0, [], .skip⟩
noncomputable def w34 : Sh := shW 2 fun call n K => pA2 (s34 call n) K
theorem w34_ok {E : Env} (e : E.code 34 = some A34) (hp : E.prim 34 = none) : ShOK E 34 w34 := shW_ok (A := { pts := [], lps := [(6, [0, 1, 7, 8])] }) (S := T34) e hp (by kernel_rfl) (by kernel_rfl) (by kernel_rfl)

noncomputable def T35 (call : CallFn) (n : Nat) (K : Kont) : Sp := {
  pt := fun β j => noP
  fs := fun β j => noP
  rd := fun β j => ifF j 6 (pA4 (b35_6 call n (pF4 (pB 0 β))) K) <| noP
  lp := fun β j m => ifL j 6 (pC4 (l35_6 call n m) K) <| noP }
@[irreducible] noncomputable def A35 : AFun := (compFn Tryz.prog Tryz.f35).getD ⟨0, [], .skip⟩
noncomputable def w35 : Sh := shW 2 fun call n K => pA2 (s35 call n) K
theorem w35_ok {E : Env} (e : E.code 35 = some A35) (hp : E.prim 35 = none) : ShOK E 35 w35 := shW_ok (A := { pts := [], lps := [(6, [0, 1, 7, 8])] }) (S := T35) e hp (by kernel_rfl) (by kernel_rfl) (by kernel_rfl)

noncomputable def T36 (call : CallFn) (n : Nat) (K : Kont) : Sp := {
  pt := fun β j => ifF j 20001 (pA5 (p36_20001 call n (pF4 (pB 0 β))) K) <| noP
  fs := fun β j => noP
  rd := fun β j => ifF j 8 (pA4 (b36_8 call n (pF4 (pB 0 β))) K) <| noP
  lp := fun β j m => ifL j 8 (pC4 (l36_8 call n m) K) <| noP }
@[irreducible] noncomputable def A36 : AFun := (compFn Tryz.prog Tryz.f36).getD ⟨0, [], .skip⟩
noncomputable def w36 : Sh := shW 1 fun call n K => pA1 (s36 call n) K
theorem w36_ok {E : Env} (e : E.code 36 = some A36) (hp : E.prim 36 = none) : ShOK E 36 w36 := shW_ok (A := { pts := [], lps := [(8, [3, 6, 7, 8])], cuts := [(19, [(3, 20001, [6, 7, 8, 12, 14])])] }) (S := T36) e hp (by kernel_rfl) (by kernel_rfl) (by kernel_rfl)

@[irreducible] noncomputable def A37 : AFun := (compFn Tryz.prog Tryz.f37).getD ⟨0, [], .skip⟩
noncomputable def w37 : Sh := shW 1 fun call n K => pA1 (s37 call n) K
theorem w37_ok {E : Env} (e : E.code 37 = some A37) (hp : E.prim 37 = none) : ShOK E 37 w37 := shW_ok (A := { pts := [], lps := [] }) (S := noS) e hp (by kernel_rfl) (by kernel_rfl) (by kernel_rfl)

@[irreducible] noncomputable def A38 : AFun := (compFn Tryz.prog Tryz.f38).getD ⟨0, [], .skip⟩
noncomputable def w38 : Sh := shW 1 fun call n K => pA1 (s38 call n) K
theorem w38_ok {E : Env} (e : E.code 38 = some A38) (hp : E.prim 38 = none) : ShOK E 38 w38 := shW_ok (A := { pts := [], lps := [] }) (S := noS) e hp (by kernel_rfl) (by kernel_rfl) (by kernel_rfl)

@[irreducible] noncomputable def A39 : AFun := (compFn Tryz.prog Tryz.f39).getD ⟨0, [], .skip⟩
noncomputable def w39 : Sh := shW 1 fun call n K => pA1 (s39 call n) K
theorem w39_ok {E : Env} (e : E.code 39 = some A39) (hp : E.prim 39 = none) : ShOK E 39 w39 := shW_ok (A := { pts := [], lps := [] }) (S := noS) e hp (by kernel_rfl) (by kernel_rfl) (by kernel_rfl)

noncomputable def T40 (call : CallFn) (n : Nat) (K : Kont) : Sp := {
  pt := fun β j => ifF j 23 (pA2 (p40_23 call n) K) <| ifF j 6001 (pA4 (p40_6001 call n) K) <| noP
  fs := fun β j => noP
  rd := fun β j => ifF j 10 (pA5 (b40_10 call n (pF5 (pB 0 β))) K) <| noP
  lp := fun β j m => ifL j 10 (pC5 (l40_10 call n m) K) <| noP }
@[irreducible] noncomputable def A40 : AFun := (compFn Tryz.prog Tryz.f40).getD ⟨0, [], .skip⟩
noncomputable def w40 : Sh := shW 1 fun call n K => pA1 (s40 call n) K
theorem w40_ok {E : Env} (e : E.code 40 = some A40) (hp : E.prim 40 = none) : ShOK E 40 w40 := shW_ok (A := { pts := [(23, [1, 2])], lps := [(10, [1, 2, 13, 14, 15])], cuts := [(5, [(3, 6001, [1, 2, 3, 10])])] }) (S := T40) e hp (by kernel_rfl) (by kernel_rfl) (by kernel_rfl)

noncomputable def T41 (call : CallFn) (n : Nat) (K : Kont) : Sp := {
  pt := fun β j => ifF j 12001 (pA1 (p41_12001 call n) K) <| noP
  fs := fun β j => noP
  rd := fun β j => noP
  lp := fun β j m => noP }
@[irreducible] noncomputable def A41 : AFun := (compFn Tryz.prog Tryz.f41).getD ⟨0, [], .skip⟩
noncomputable def w41 : Sh := shW 1 fun call n K => pA1 (s41 call n) K
theorem w41_ok {E : Env} (e : E.code 41 = some A41) (hp : E.prim 41 = none) : ShOK E 41 w41 := shW_ok (A := { pts := [], lps := [], cuts := [(11, [(2, 12001, [9])])] }) (S := T41) e hp (by kernel_rfl) (by kernel_rfl) (by kernel_rfl)

noncomputable def T43 (call : CallFn) (n : Nat) (K : Kont) : Sp := {
  pt := fun β j => ifF j 5001 (pA2 (p43_5001 call n) K) <| noP
  fs := fun β j => noP
  rd := fun β j => noP
  lp := fun β j m => noP }
@[irreducible] noncomputable def A43 : AFun := (compFn Tryz.prog Tryz.f43).getD ⟨0, [], .skip⟩
noncomputable def w43 : Sh := shW 2 fun call n K => pA2 (s43 call n) K
theorem w43_ok {E : Env} (e : E.code 43 = some A43) (hp : E.prim 43 = none) : ShOK E 43 w43 := shW_ok (A := { pts := [], lps := [], cuts := [(4, [(3, 5001, [0, 7])])] }) (S := T43) e hp (by kernel_rfl) (by kernel_rfl) (by kernel_rfl)

noncomputable def T45 (call : CallFn) (n : Nat) (K : Kont) : Sp := {
  pt := fun β j => ifF j 34 (pA3 (p45_34 call n) K) <| ifF j 49 (pA2 (p45_49 call n) K) <| ifF j 4001 (pA3 (p45_4001 call n) K) <| ifF j 10001 (pA4 (p45_10001 call n (pF3 (pB 0 β))) K) <| ifF j 19001 (pA4 (p45_19001 call n (pF3 (pB 0 β))) K) <| ifF j 23001 (pA4 (p45_23001 call n (pF3 (pB 0 β))) K) <| ifF j 27001 (pA4 (p45_27001 call n (pF3 (pB 0 β))) K) <| ifF j 36001 (pA4 (p45_36001 call n) K) <| ifF j 44001 (pA4 (p45_44001 call n (pF3 (pB 0 β))) K) <| noP
  fs := fun β j => noP
  rd := fun β j => ifF j 6 (pA3 (b45_6 call n (pF3 (pB 0 β))) K) <| ifF j 40 (pA3 (b45_40 call n (pF3 (pB 0 β))) K) <| noP
  lp := fun β j m => ifL j 6 (pC3 (l45_6 call n m) K) <| ifL j 40 (pC3 (l45_40 call n m) K) <| noP }
@[irreducible] noncomputable def A45 : AFun := (compFn Tryz.prog Tryz.f45).getD ⟨0, [], .skip⟩
noncomputable def w45 : Sh := shW 1 fun call n K => pA1 (s45 call n) K
theorem w45_ok {E : Env} (e : E.code 45 = some A45) (hp : E.prim 45 = none) : ShOK E 45 w45 := shW_ok (A := { pts := [(34, [0, 2, 3]), (49, [2, 3])], lps := [(6, [0, 2, 3]), (40, [0, 2, 3])], cuts := [(3, [(2, 4001, [0, 2, 5])]), (9, [(2, 10001, [0, 2, 3, 8])]), (18, [(2, 19001, [0, 2, 3, 18])]), (22, [(2, 23001, [0, 2, 3, 24])]), (26, [(2, 27001, [0, 2, 3, 30])]), (35, [(3, 36001, [0, 2, 3, 38])]), (43, [(2, 44001, [0, 2, 3, 44])])] }) (S := T45) e hp (by kernel_rfl) (by kernel_rfl) (by kernel_rfl)

noncomputable def T46 (call : CallFn) (n : Nat) (K : Kont) : Sp := {
  pt := fun β j => ifF j 15001 (pA6 (p46_15001 call n (pF4 (pB 0 β))) K) <| noP
  fs := fun β j => noP
  rd := fun β j => ifF j 3 (pA4 (b46_3 call n (pF4 (pB 0 β))) K) <| noP
  lp := fun β j m => ifL j 3 (pC4 (l46_3 call n m) K) <| noP }
@[irreducible] noncomputable def A46 : AFun := (compFn Tryz.prog Tryz.f46).getD ⟨0, [], .skip⟩
noncomputable def w46 : Sh := shW 2 fun call n K => pA2 (s46 call n) K
theorem w46_ok {E : Env} (e : E.code 46 = some A46) (hp : E.prim 46 = none) : ShOK E 46 w46 := shW_ok (A := { pts := [], lps := [(3, [0, 6, 7, 8])], cuts := [(14, [(4, 15001, [0, 6, 7, 8, 12, 15])])] }) (S := T46) e hp (by kernel_rfl) (by kernel_rfl) (by kernel_rfl)

noncomputable def T48 (call : CallFn) (n : Nat) (K : Kont) : Sp := {
  pt := fun β j => ifF j 4001 (pA2 (p48_4001 call n) K) <| noP
  fs := fun β j => noP
  rd := fun β j => noP
  lp := fun β j m => noP }
@[irreducible] noncomputable def A48 : AFun := (compFn Tryz.prog Tryz.f48).getD ⟨0, [], .skip⟩
noncomputable def w48 : Sh := shW 2 fun call n K => pA2 (s48 call n) K
theorem w48_ok {E : Env} (e : E.code 48 = some A48) (hp : E.prim 48 = none) : ShOK E 48 w48 := shW_ok (A := { pts := [], lps := [], cuts := [(3, [(32, 4001, [31, 36])])] }) (S := T48) e hp (by kernel_rfl) (by kernel_rfl) (by kernel_rfl)

noncomputable def T49 (call : CallFn) (n : Nat) (K : Kont) : Sp := {
  pt := fun β j => ifF j 23 (pA2 (p49_23 call n) K) <| noP
  fs := fun β j => noP
  rd := fun β j => ifF j 10 (pA5 (b49_10 call n (pF5 (pB 0 β))) K) <| noP
  lp := fun β j m => ifL j 10 (pC5 (l49_10 call n m) K) <| noP }
@[irreducible] noncomputable def A49 : AFun := (compFn Tryz.prog Tryz.f49).getD ⟨0, [], .skip⟩
noncomputable def w49 : Sh := shW 1 fun call n K => pA1 (s49 call n) K
theorem w49_ok {E : Env} (e : E.code 49 = some A49) (hp : E.prim 49 = none) : ShOK E 49 w49 := shW_ok (A := { pts := [(23, [1, 2])], lps := [(10, [1, 2, 9, 10, 11])] }) (S := T49) e hp (by kernel_rfl) (by kernel_rfl) (by kernel_rfl)

@[irreducible] noncomputable def A52 : AFun := (compFn Tryz.prog Tryz.f52).getD ⟨0, [], .skip⟩
noncomputable def w52 : Sh := shW 0 fun call n K => pA0 (s52 call n) K
theorem w52_ok {E : Env} (e : E.code 52 = some A52) (hp : E.prim 52 = none) : ShOK E 52 w52 := shW_ok (A := { pts := [], lps := [] }) (S := noS) e hp (by kernel_rfl) (by kernel_rfl) (by kernel_rfl)

noncomputable def T53 (call : CallFn) (n : Nat) (K : Kont) : Sp := {
  pt := fun β j => ifF j 4001 (pA1 (p53_4001 call n) K) <| noP
  fs := fun β j => noP
  rd := fun β j => noP
  lp := fun β j m => noP }
@[irreducible] noncomputable def A53 : AFun := (compFn Tryz.prog Tryz.f53).getD ⟨0, [], .skip⟩
noncomputable def w53 : Sh := shW 2 fun call n K => pA2 (s53 call n) K
theorem w53_ok {E : Env} (e : E.code 53 = some A53) (hp : E.prim 53 = none) : ShOK E 53 w53 := shW_ok (A := { pts := [], lps := [], cuts := [(3, [(2, 4001, [7])])] }) (S := T53) e hp (by kernel_rfl) (by kernel_rfl) (by kernel_rfl)

noncomputable def T54 (call : CallFn) (n : Nat) (K : Kont) : Sp := {
  pt := fun β j => ifF j 4001 (pA2 (p54_4001 call n) K) <| ifF j 6001 (pA4 (p54_6001 call n) K) <| noP
  fs := fun β j => noP
  rd := fun β j => noP
  lp := fun β j m => noP }
@[irreducible] noncomputable def A54 : AFun := (compFn Tryz.prog Tryz.f54).getD ⟨0, [], .skip⟩
noncomputable def w54 : Sh := shW 3 fun call n K => pA3 (s54 call n) K
theorem w54_ok {E : Env} (e : E.code 54 = some A54) (hp : E.prim 54 = none) : ShOK E 54 w54 := shW_ok (A := { pts := [], lps := [], cuts := [(3, [(3, 4001, [2, 10])]), (5, [(15, 6001, [15, 19, 23, 25])])] }) (S := T54) e hp (by kernel_rfl) (by kernel_rfl) (by kernel_rfl)

noncomputable def T55 (call : CallFn) (n : Nat) (K : Kont) : Sp := {
  pt := fun β j => ifF j 4001 (pA3 (p55_4001 call n) K) <| ifF j 4002 (pA4 (p55_4002 call n) K) <| noP
  fs := fun β j => noP
  rd := fun β j => noP
  lp := fun β j m => noP }
@[irreducible] noncomputable def A55 : AFun := (compFn Tryz.prog Tryz.f55).getD ⟨0, [], .skip⟩
noncomputable def w55 : Sh := shW 1 fun call n K => pA1 (s55 call n) K
theorem w55_ok {E : Env} (e : E.code 55 = some A55) (hp : E.prim 55 = none) : ShOK E 55 w55 := shW_ok (A := { pts := [], lps := [], cuts := [(3, [(3, 4001, [0, 3, 5]), (3, 4002, [0, 3, 6, 8])])] }) (S := T55) e hp (by kernel_rfl) (by kernel_rfl) (by kernel_rfl)

@[irreducible] noncomputable def A56 : AFun := (compFn Tryz.prog Tryz.f56).getD ⟨0, [], .skip⟩
noncomputable def w56 : Sh := shW 2 fun call n K => pA2 (s56 call n) K
theorem w56_ok {E : Env} (e : E.code 56 = some A56) (hp : E.prim 56 = none) : ShOK E 56 w56 := shW_ok (A := { pts := [], lps := [] }) (S := noS) e hp (by kernel_rfl) (by kernel_rfl) (by kernel_rfl)

noncomputable def T57 (call : CallFn) (n : Nat) (K : Kont) : Sp := {
  pt := fun β j => ifF j 4001 (pA1 (p57_4001 call n) K) <| ifF j 6001 (pA2 (p57_6001 call n) K) <| noP
  fs := fun β j => noP
  rd := fun β j => noP
  lp := fun β j m => noP }
@[irreducible] noncomputable def A57 : AFun := (compFn Tryz.prog Tryz.f57).getD ⟨0, [], .skip⟩
noncomputable def w57 : Sh := shW 2 fun call n K => pA2 (s57 call n) K
theorem w57_ok {E : Env} (e : E.code 57 = some A57) (hp : E.prim 57 = none) : ShOK E 57 w57 := shW_ok (A := { pts := [], lps := [], cuts := [(3, [(3, 4001, [8])]), (5, [(7, 6001, [12, 15])])] }) (S := T57) e hp (by kernel_rfl) (by kernel_rfl) (by kernel_rfl)

@[irreducible] noncomputable def A59 : AFun := (compFn Tryz.prog Tryz.f59).getD ⟨0, [], .skip⟩
noncomputable def w59 : Sh := shW 2 fun call n K => pA2 (s59 call n) K
theorem w59_ok {E : Env} (e : E.code 59 = some A59) (hp : E.prim 59 = none) : ShOK E 59 w59 := shW_ok (A := { pts := [], lps := [] }) (S := noS) e hp (by kernel_rfl) (by kernel_rfl) (by kernel_rfl)

noncomputable def T60 (call : CallFn) (n : Nat) (K : Kont) : Sp := {
  pt := fun β j => ifF j 4001 (pA3 (p60_4001 call n) K) <| noP
  fs := fun β j => noP
  rd := fun β j => noP
  lp := fun β j m => noP }
@[irreducible] noncomputable def A60 : AFun := (compFn Tryz.prog Tryz.f60).getD ⟨0, [], .skip⟩
noncomputable def w60 : Sh := shW 1 fun call n K => pA1 (s60 call n) K
theorem w60_ok {E : Env} (e : E.code 60 = some A60) (hp : E.prim 60 = none) : ShOK E 60 w60 := shW_ok (A := { pts := [], lps := [], cuts := [(3, [(3, 4001, [0, 3, 5])])] }) (S := T60) e hp (by kernel_rfl) (by kernel_rfl) (by kernel_rfl)

noncomputable def T62 (call : CallFn) (n : Nat) (K : Kont) : Sp := {
  pt := fun β j => ifF j 30 (pA3 (p62_30 call n (pF3 (pB 0 β))) K) <| ifF j 31001 (pA4 (p62_31001 call n (pF3 (pB 0 β))) K) <| noP
  fs := fun β j => noP
  rd := fun β j => ifF j 5 (pA3 (b62_5 call n (pF3 (pB 0 β))) K) <| ifF j 11 (pA6 (b62_11 call n (pF3 (pB 1 β)) (pF6 (pB 0 β))) K) <| noP
  lp := fun β j m => ifL j 5 (pC3 (l62_5 call n m) K) <| ifL j 11 (pC6 (l62_11 call n (pF3 (pB 0 β)) m) K) <| noP }
@[irreducible] noncomputable def A62 : AFun := (compFn Tryz.prog Tryz.f62).getD ⟨0, [], .skip⟩
noncomputable def w62 : Sh := shW 2 fun call n K => pA2 (s62 call n) K
theorem w62_ok {E : Env} (e : E.code 62 = some A62) (hp : E.prim 62 = none) : ShOK E 62 w62 := shW_ok (A := { pts := [(30, [0, 1, 5])], lps := [(5, [0, 1, 5]), (11, [0, 1, 5, 8, 9, 10])], cuts := [(30, [(3, 31001, [0, 1, 19, 21])])] }) (S := T62) e hp (by kernel_rfl) (by kernel_rfl) (by kernel_rfl)

noncomputable def T64 (call : CallFn) (n : Nat) (K : Kont) : Sp := {
  pt := fun β j => ifF j 15 (pA2 (p64_15 call n) K) <| ifF j 8001 (pA6 (p64_8001 call n (pF4 (pB 0 β))) K) <| ifF j 8002 (pA6 (p64_8002 call n (pF4 (pB 0 β))) K) <| noP
  fs := fun β j => noP
  rd := fun β j => ifF j 4 (pA4 (b64_4 call n (pF4 (pB 0 β))) K) <| noP
  lp := fun β j m => ifL j 4 (pC4 (l64_4 call n m) K) <| noP }
@[irreducible] noncomputable def A64 : AFun := (compFn Tryz.prog Tryz.f64).getD ⟨0, [], .skip⟩
noncomputable def w64 : Sh := shW 3 fun call n K => pA3 (s64 call n) K
theorem w64_ok {E : Env} (e : E.code 64 = some A64) (hp : E.prim 64 = none) : ShOK E 64 w64 := shW_ok (A := { pts := [(15, [0, 1])], lps := [(4, [0, 1, 2, 6])], cuts := [(7, [(5, 8001, [0, 1, 2, 6, 8, 11]), (8, 8002, [0, 1, 2, 14, 17, 19])])] }) (S := T64) e hp (by kernel_rfl) (by kernel_rfl) (by kernel_rfl)

noncomputable def T66 (call : CallFn) (n : Nat) (K : Kont) : Sp := {
  pt := fun β j => ifF j 4001 (pA3 (p66_4001 call n) K) <| ifF j 4002 (pA4 (p66_4002 call n) K) <| noP
  fs := fun β j => noP
  rd := fun β j => noP
  lp := fun β j m => noP }
@[irreducible] noncomputable def A66 : AFun := (compFn Tryz.prog Tryz.f66).getD ⟨0, [], .skip⟩
noncomputable def w66 : Sh := shW 1 fun call n K => pA1 (s66 call n) K
theorem w66_ok {E : Env} (e : E.code 66 = some A66) (hp : E.prim 66 = none) : ShOK E 66 w66 := shW_ok (A := { pts := [], lps := [], cuts := [(3, [(3, 4001, [0, 3, 5]), (3, 4002, [0, 3, 6, 8])])] }) (S := T66) e hp (by kernel_rfl) (by kernel_rfl) (by kernel_rfl)

noncomputable def T67 (call : CallFn) (n : Nat) (K : Kont) : Sp := {
  pt := fun β j => ifF j 10 (pA2 (p67_10 call n) K) <| noP
  fs := fun β j => noP
  rd := fun β j => ifF j 14 (pA3 (b67_14 call n (pF3 (pB 0 β))) K) <| noP
  lp := fun β j m => ifL j 14 (pC3 (l67_14 call n m) K) <| noP }
@[irreducible] noncomputable def A67 : AFun := (compFn Tryz.prog Tryz.f67).getD ⟨0, [], .skip⟩
noncomputable def w67 : Sh := shW 2 fun call n K => pA2 (s67 call n) K
theorem w67_ok {E : Env} (e : E.code 67 = some A67) (hp : E.prim 67 = none) : ShOK E 67 w67 := shW_ok (A := { pts := [(10, [0, 1])], lps := [(14, [0, 1, 5])] }) (S := T67) e hp (by kernel_rfl) (by kernel_rfl) (by kernel_rfl)

@[irreducible] noncomputable def A68 : AFun := (compFn Tryz.prog Tryz.f68).getD ⟨0, [], .skip⟩
noncomputable def w68 : Sh := shW 1 fun call n K => pA1 (s68 call n) K
theorem w68_ok {E : Env} (e : E.code 68 = some A68) (hp : E.prim 68 = none) : ShOK E 68 w68 := shW_ok (A := { pts := [], lps := [] }) (S := noS) e hp (by kernel_rfl) (by kernel_rfl) (by kernel_rfl)

@[irreducible] noncomputable def A70 : AFun := (compFn Tryz.prog Tryz.f70).getD ⟨0, [], .skip⟩
noncomputable def w70 : Sh := shW 1 fun call n K => pA1 (s70 call n) K
theorem w70_ok {E : Env} (e : E.code 70 = some A70) (hp : E.prim 70 = none) : ShOK E 70 w70 := shW_ok (A := { pts := [], lps := [] }) (S := noS) e hp (by kernel_rfl) (by kernel_rfl) (by kernel_rfl)

@[irreducible] noncomputable def A71 : AFun := (compFn Tryz.prog Tryz.f71).getD ⟨0, [], .skip⟩
noncomputable def w71 : Sh := shW 2 fun call n K => pA2 (s71 call n) K
theorem w71_ok {E : Env} (e : E.code 71 = some A71) (hp : E.prim 71 = none) : ShOK E 71 w71 := shW_ok (A := { pts := [], lps := [] }) (S := noS) e hp (by kernel_rfl) (by kernel_rfl) (by kernel_rfl)

noncomputable def T72 (call : CallFn) (n : Nat) (K : Kont) : Sp := {
  pt := fun β j => ifF j 156 (pA1 (p72_156 call n) K) <| noP
  fs := fun β j => noP
  rd := fun β j => noP
  lp := fun β j m => noP }
@[irreducible] noncomputable def A72 : AFun := (compFn Tryz.prog Tryz.f72).getD ⟨0, [], .skip⟩
noncomputable def w72 : Sh := shW 1 fun call n K => pA1 (s72 call n) K
theorem w72_ok {E : Env} (e : E.code 72 = some A72) (hp : E.prim 72 = none) : ShOK E 72 w72 := shW_ok (A := { pts := [(156, [4])], lps := [] }) (S := T72) e hp (by kernel_rfl) (by kernel_rfl) (by kernel_rfl)

@[irreducible] noncomputable def A73 : AFun := (compFn Tryz.prog Tryz.f73).getD ⟨0, [], .skip⟩
noncomputable def w73 : Sh := shW 1 fun call n K => pA1 (s73 call n) K
theorem w73_ok {E : Env} (e : E.code 73 = some A73) (hp : E.prim 73 = none) : ShOK E 73 w73 := shW_ok (A := { pts := [], lps := [] }) (S := noS) e hp (by kernel_rfl) (by kernel_rfl) (by kernel_rfl)

@[irreducible] noncomputable def A74 : AFun := (compFn Tryz.prog Tryz.f74).getD ⟨0, [], .skip⟩
noncomputable def w74 : Sh := shW 2 fun call n K => pA2 (s74 call n) K
theorem w74_ok {E : Env} (e : E.code 74 = some A74) (hp : E.prim 74 = none) : ShOK E 74 w74 := shW_ok (A := { pts := [], lps := [] }) (S := noS) e hp (by kernel_rfl) (by kernel_rfl) (by kernel_rfl)

noncomputable def T75 (call : CallFn) (n : Nat) (K : Kont) : Sp := {
  pt := fun β j => ifF j 4001 (pA2 (p75_4001 call n) K) <| noP
  fs := fun β j => noP
  rd := fun β j => noP
  lp := fun β j m => noP }
@[irreducible] noncomputable def A75 : AFun := (compFn Tryz.prog Tryz.f75).getD ⟨0, [], .skip⟩
noncomputable def w75 : Sh := shW 2 fun call n K => pA2 (s75 call n) K
theorem w75_ok {E : Env} (e : E.code 75 = some A75) (hp : E.prim 75 = none) : ShOK E 75 w75 := shW_ok (A := { pts := [], lps := [], cuts := [(3, [(2, 4001, [1, 6])])] }) (S := T75) e hp (by kernel_rfl) (by kernel_rfl) (by kernel_rfl)

noncomputable def T77 (call : CallFn) (n : Nat) (K : Kont) : Sp := {
  pt := fun β j => ifF j 9001 (pA2 (p77_9001 call n) K) <| ifF j 15001 (pA2 (p77_15001 call n) K) <| ifF j 23001 (pA3 (p77_23001 call n) K) <| ifF j 27001 (pA4 (p77_27001 call n) K) <| ifF j 37001 (pA2 (p77_37001 call n) K) <| ifF j 45001 (pA3 (p77_45001 call n) K) <| ifF j 55001 (pA2 (p77_55001 call n) K) <| ifF j 61001 (pA2 (p77_61001 call n) K) <| ifF j 64001 (pA3 (p77_64001 call n) K) <| ifF j 64002 (pA4 (p77_64002 call n) K) <| ifF j 67001 (pA3 (p77_67001 call n) K) <| ifF j 71001 (pA3 (p77_71001 call n) K) <| ifF j 77001 (pA2 (p77_77001 call n) K) <| noP
  fs := fun β j => noP
  rd := fun β j => noP
  lp := fun β j m => noP }
@[irreducible] noncomputable def A77 : AFun := (compFn Tryz.prog Tryz.f77).getD ⟨0, [], .skip⟩
noncomputable def w77 : Sh := shW 1 fun call n K => pA1 (s77 call n) K
theorem w77_ok {E : Env} (e : E.code 77 = some A77) (hp : E.prim 77 = none) : ShOK E 77 w77 := shW_ok (A := { pts := [], lps := [], cuts := [(8, [(2, 9001, [2, 10])]), (14, [(2, 15001, [2, 16])]), (22, [(3, 23001, [0, 2, 25])]), (26, [(3, 27001, [0, 2, 3, 32])]), (36, [(2, 37001, [2, 41])]), (44, [(2, 45001, [0, 2, 48])]), (54, [(2, 55001, [2, 57])]), (60, [(2, 61001, [2, 62])]), (63, [(2, 64001, [0, 2, 65]), (3, 64002, [0, 2, 66, 68])]), (66, [(2, 67001, [0, 2, 72])]), (70, [(2, 71001, [2, 5, 78])]), (76, [(2, 77001, [2, 82])])] }) (S := T77) e hp (by kernel_rfl) (by kernel_rfl) (by kernel_rfl)

noncomputable def T79 (call : CallFn) (n : Nat) (K : Kont) : Sp := {
  pt := fun β j => ifF j 4001 (pA2 (p79_4001 call n) K) <| noP
  fs := fun β j => noP
  rd := fun β j => noP
  lp := fun β j m => noP }
@[irreducible] noncomputable def A79 : AFun := (compFn Tryz.prog Tryz.f79).getD ⟨0, [], .skip⟩
noncomputable def w79 : Sh := shW 1 fun call n K => pA1 (s79 call n) K
theorem w79_ok {E : Env} (e : E.code 79 = some A79) (hp : E.prim 79 = none) : ShOK E 79 w79 := shW_ok (A := { pts := [], lps := [], cuts := [(3, [(2, 4001, [2, 4])])] }) (S := T79) e hp (by kernel_rfl) (by kernel_rfl) (by kernel_rfl)

noncomputable def T80 (call : CallFn) (n : Nat) (K : Kont) : Sp := {
  pt := fun β j => ifF j 13001 (pA3 (p80_13001 call n (pF2 (pB 0 β))) K) <| ifF j 27001 (pA3 (p80_27001 call n (pF2 (pB 0 β))) K) <| noP
  fs := fun β j => noP
  rd := fun β j => ifF j 1 (pA2 (b80_1 call n (pF2 (pB 0 β))) K) <| noP
  lp := fun β j m => ifL j 1 (pC2 (l80_1 call n m) K) <| noP }
@[irreducible] noncomputable def A80 : AFun := (compFn Tryz.prog Tryz.f80).getD ⟨0, [], .skip⟩
noncomputable def w80 : Sh := shW 2 fun call n K => pA2 (s80 call n) K
theorem w80_ok {E : Env} (e : E.code 80 = some A80) (hp : E.prim 80 = none) : ShOK E 80 w80 := shW_ok (A := { pts := [], lps := [(1, [0, 1])], cuts := [(12, [(2, 13001, [0, 1, 19])]), (26, [(3, 27001, [0, 1, 49])])] }) (S := T80) e hp (by kernel_rfl) (by kernel_rfl) (by kernel_rfl)

noncomputable def T81 (call : CallFn) (n : Nat) (K : Kont) : Sp := {
  pt := fun β j => ifF j 23 (pA2 (p81_23 call n (pF1 (pB 0 β))) K) <| ifF j 49 (pA2 (p81_49 call n (pF1 (pB 0 β))) K) <| ifF j 14001 (pA3 (p81_14001 call n (pF1 (pB 0 β))) K) <| ifF j 40001 (pA3 (p81_40001 call n (pF1 (pB 0 β))) K) <| noP
  fs := fun β j => ifF j 0 (pA1 (f81_0 call n (pF1 (pB 0 β))) K) <| noP
  rd := fun β j => ifF j 0 (pA1 (j81_0 call n (pF1 (pB 0 β))) K) <| noP
  lp := fun β j m => ifL j 0 (pC1 (g81_0 call n m) K) <| noP }
@[irreducible] noncomputable def A81 : AFun := (compFn Tryz.prog Tryz.f81).getD ⟨0, [], .skip⟩
noncomputable def w81 : Sh := shW 1 fun call n K => pA1 (s81 call n) K
theorem w81_ok {E : Env} (e : E.code 81 = some A81) (hp : E.prim 81 = none) : ShOK E 81 w81 := shW_ok (A := { pts := [(23, [0, 3]), (49, [0, 3])], lps := [(0, [0])], scs := [(0, [0])], cuts := [(13, [(5, 14001, [0, 31, 33])]), (39, [(5, 40001, [0, 31, 33])])] }) (S := T81) e hp (by kernel_rfl) (by kernel_rfl) (by kernel_rfl)

noncomputable def T82 (call : CallFn) (n : Nat) (K : Kont) : Sp := {
  pt := fun β j => ifF j 15001 (pA3 (p82_15001 call n) K) <| ifF j 27001 (pA3 (p82_27001 call n) K) <| ifF j 39001 (pA3 (p82_39001 call n) K) <| ifF j 45001 (pA2 (p82_45001 call n) K) <| ifF j 53001 (pA3 (p82_53001 call n) K) <| noP
  fs := fun β j => noP
  rd := fun β j => noP
  lp := fun β j m => noP }
@[irreducible] noncomputable def A82 : AFun := (compFn Tryz.prog Tryz.f82).getD ⟨0, [], .skip⟩
noncomputable def w82 : Sh := shW 1 fun call n K => pA1 (s82 call n) K
theorem w82_ok {E : Env} (e : E.code 82 = some A82) (hp : E.prim 82 = none) : ShOK E 82 w82 := shW_ok (A := { pts := [], lps := [], cuts := [(14, [(3, 15001, [2, 3, 18])]), (26, [(3, 27001, [2, 3, 30])]), (38, [(3, 39001, [2, 3, 42])]), (44, [(2, 45001, [2, 50])]), (52, [(3, 53001, [2, 3, 60])])] }) (S := T82) e hp (by kernel_rfl) (by kernel_rfl) (by kernel_rfl)

@[irreducible] noncomputable def A85 : AFun := (compFn Tryz.prog Tryz.f85).getD ⟨0, [], .skip⟩
noncomputable def w85 : Sh := shW 1 fun call n K => pA1 (s85 call n) K
theorem w85_ok {E : Env} (e : E.code 85 = some A85) (hp : E.prim 85 = none) : ShOK E 85 w85 := shW_ok (A := { pts := [], lps := [] }) (S := noS) e hp (by kernel_rfl) (by kernel_rfl) (by kernel_rfl)

noncomputable def T86 (call : CallFn) (n : Nat) (K : Kont) : Sp := {
  pt := fun β j => ifF j 4001 (pA3 (p86_4001 call n) K) <| noP
  fs := fun β j => noP
  rd := fun β j => noP
  lp := fun β j m => noP }
@[irreducible] noncomputable def A86 : AFun := (compFn Tryz.prog Tryz.f86).getD ⟨0, [], .skip⟩
noncomputable def w86 : Sh := shW 2 fun call n K => pA2 (s86 call n) K
theorem w86_ok {E : Env} (e : E.code 86 = some A86) (hp : E.prim 86 = none) : ShOK E 86 w86 := shW_ok (A := { pts := [], lps := [], cuts := [(3, [(2, 4001, [0, 1, 7])])] }) (S := T86) e hp (by kernel_rfl) (by kernel_rfl) (by kernel_rfl)

noncomputable def T87 (call : CallFn) (n : Nat) (K : Kont) : Sp := {
  pt := fun β j => ifF j 25 (pA3 (p87_25 call n) K) <| noP
  fs := fun β j => noP
  rd := fun β j => ifF j 14 (pA4 (b87_14 call n (pF4 (pB 0 β))) K) <| noP
  lp := fun β j m => ifL j 14 (pC4 (l87_14 call n m) K) <| noP }
@[irreducible] noncomputable def A87 : AFun := (compFn Tryz.prog Tryz.f87).getD ⟨0, [], .skip⟩
noncomputable def w87 : Sh := shW 1 fun call n K => pA1 (s87 call n) K
theorem w87_ok {E : Env} (e : E.code 87 = some A87) (hp : E.prim 87 = none) : ShOK E 87 w87 := shW_ok (A := { pts := [(25, [0, 2, 3])], lps := [(14, [0, 2, 3, 4])] }) (S := T87) e hp (by kernel_rfl) (by kernel_rfl) (by kernel_rfl)

noncomputable def T88 (call : CallFn) (n : Nat) (K : Kont) : Sp := {
  pt := fun β j => ifF j 14 (pA3 (p88_14 call n) K) <| ifF j 6001 (pA3 (p88_6001 call n) K) <| ifF j 14001 (pA4 (p88_14001 call n) K) <| ifF j 18001 (pA4 (p88_18001 call n) K) <| ifF j 24001 (pA4 (p88_24001 call n) K) <| noP
  fs := fun β j => noP
  rd := fun β j => noP
  lp := fun β j m => noP }
@[irreducible] noncomputable def A88 : AFun := (compFn Tryz.prog Tryz.f88).getD ⟨0, [], .skip⟩
noncomputable def w88 : Sh := shW 1 fun call n K => pA1 (s88 call n) K
theorem w88_ok {E : Env} (e : E.code 88 = some A88) (hp : E.prim 88 = none) : ShOK E 88 w88 := shW_ok (A := { pts := [(14, [0, 2, 3])], lps := [], cuts := [(5, [(2, 6001, [0, 2, 7])]), (13, [(2, 14001, [0, 2, 3, 16])]), (17, [(2, 18001, [0, 2, 3, 21])]), (23, [(3, 24001, [0, 2, 3, 30])])] }) (S := T88) e hp (by kernel_rfl) (by kernel_rfl) (by kernel_rfl)

noncomputable def T90 (call : CallFn) (n : Nat) (K : Kont) : Sp := {
  pt := fun β j => ifF j 12 (pA3 (p90_12 call n) K) <| ifF j 10001 (pA4 (p90_10001 call n) K) <| ifF j 14001 (pA4 (p90_14001 call n) K) <| noP
  fs := fun β j => noP
  rd := fun β j => noP
  lp := fun β j m => noP }
@[irreducible] noncomputable def A90 : AFun := (compFn Tryz.prog Tryz.f90).getD ⟨0, [], .skip⟩
noncomputable def w90 : Sh := shW 1 fun call n K => pA1 (s90 call n) K
theorem w90_ok {E : Env} (e : E.code 90 = some A90) (hp : E.prim 90 = none) : ShOK E 90 w90 := shW_ok (A := { pts := [(12, [1, 2, 3])], lps := [], cuts := [(9, [(2, 10001, [1, 2, 3, 8])]), (13, [(2, 14001, [1, 2, 3, 14])])] }) (S := T90) e hp (by kernel_rfl) (by kernel_rfl) (by kernel_rfl)

noncomputable def T92 (call : CallFn) (n : Nat) (K : Kont) : Sp := {
  pt := fun β j => ifF j 10 (pA3 (p92_10 call n) K) <| ifF j 8001 (pA2 (p92_8001 call n) K) <| ifF j 12001 (pA4 (p92_12001 call n) K) <| ifF j 17001 (pA5 (p92_17001 call n (pF4 (pB 0 β))) K) <| ifF j 17002 (pA6 (p92_17002 call n (pF4 (pB 0 β))) K) <| noP
  fs := fun β j => noP
  rd := fun β j => ifF j 13 (pA4 (b92_13 call n (pF4 (pB 0 β))) K) <| noP
  lp := fun β j m => ifL j 13 (pC4 (l92_13 call n m) K) <| noP }
@[irreducible] noncomputable def A92 : AFun := (compFn Tryz.prog Tryz.f92).getD ⟨0, [], .skip⟩
noncomputable def w92 : Sh := shW 2 fun call n K => pA2 (s92 call n) K
theorem w92_ok {E : Env} (e : E.code 92 = some A92) (hp : E.prim 92 = none) : ShOK E 92 w92 := shW_ok (A := { pts := [(10, [0, 1, 4])], lps := [(13, [0, 1, 4, 5])], cuts := [(7, [(2, 8001, [4, 13])]), (11, [(4, 12001, [0, 1, 4, 17])]), (16, [(2, 17001, [0, 1, 4, 5, 19]), (2, 17002, [0, 1, 4, 5, 19, 21])])] }) (S := T92) e hp (by kernel_rfl) (by kernel_rfl) (by kernel_rfl)

@[irreducible] noncomputable def A93 : AFun := (compFn Tryz.prog Tryz.f93).getD ⟨0, [], .skip⟩
noncomputable def w93 : Sh := shW 2 fun call n K => pA2 (s93 call n) K
theorem w93_ok {E : Env} (e : E.code 93 = some A93) (hp : E.prim 93 = none) : ShOK E 93 w93 := shW_ok (A := { pts := [], lps := [] }) (S := noS) e hp (by kernel_rfl) (by kernel_rfl) (by kernel_rfl)

@[irreducible] noncomputable def A94 : AFun := (compFn Tryz.prog Tryz.f94).getD ⟨0, [], .skip⟩
noncomputable def w94 : Sh := shW 2 fun call n K => pA2 (s94 call n) K
theorem w94_ok {E : Env} (e : E.code 94 = some A94) (hp : E.prim 94 = none) : ShOK E 94 w94 := shW_ok (A := { pts := [], lps := [] }) (S := noS) e hp (by kernel_rfl) (by kernel_rfl) (by kernel_rfl)

@[irreducible] noncomputable def A95 : AFun := (compFn Tryz.prog Tryz.f95).getD ⟨0, [], .skip⟩
noncomputable def w95 : Sh := shW 3 fun call n K => pA3 (s95 call n) K
theorem w95_ok {E : Env} (e : E.code 95 = some A95) (hp : E.prim 95 = none) : ShOK E 95 w95 := shW_ok (A := { pts := [], lps := [] }) (S := noS) e hp (by kernel_rfl) (by kernel_rfl) (by kernel_rfl)

@[irreducible] noncomputable def A96 : AFun := (compFn Tryz.prog Tryz.f96).getD ⟨0, [], .skip⟩
noncomputable def w96 : Sh := shW 1 fun call n K => pA1 (s96 call n) K
theorem w96_ok {E : Env} (e : E.code 96 = some A96) (hp : E.prim 96 = none) : ShOK E 96 w96 := shW_ok (A := { pts := [], lps := [] }) (S := noS) e hp (by kernel_rfl) (by kernel_rfl) (by kernel_rfl)

noncomputable def T97 (call : CallFn) (n : Nat) (K : Kont) : Sp := {
  pt := fun β j => ifF j 5001 (pA3 (p97_5001 call n) K) <| ifF j 5002 (pA3 (p97_5002 call n) K) <| noP
  fs := fun β j => noP
  rd := fun β j => noP
  lp := fun β j m => noP }
@[irreducible] noncomputable def A97 : AFun := (compFn Tryz.prog Tryz.f97).getD ⟨0, [], .skip⟩
noncomputable def w97 : Sh := shW 2 fun call n K => pA2 (s97 call n) K
theorem w97_ok {E : Env} (e : E.code 97 = some A97) (hp : E.prim 97 = none) : ShOK E 97 w97 := shW_ok (A := { pts := [], lps := [], cuts := [(4, [(3, 5001, [0, 1, 7]), (1, 5002, [0, 1, 8])])] }) (S := T97) e hp (by kernel_rfl) (by kernel_rfl) (by kernel_rfl)

@[irreducible] noncomputable def A98 : AFun := (compFn Tryz.prog Tryz.f98).getD ⟨0, [], .skip⟩
noncomputable def w98 : Sh := shW 1 fun call n K => pA1 (s98 call n) K
theorem w98_ok {E : Env} (e : E.code 98 = some A98) (hp : E.prim 98 = none) : ShOK E 98 w98 := shW_ok (A := { pts := [], lps := [] }) (S := noS) e hp (by kernel_rfl) (by kernel_rfl) (by kernel_rfl)

noncomputable def T99 (call : CallFn) (n : Nat) (K : Kont) : Sp := {
  pt := fun β j => noP
  fs := fun β j => noP
  rd := fun β j => ifF j 6 (pA4 (b99_6 call n (pF4 (pB 0 β))) K) <| noP
  lp := fun β j m => ifL j 6 (pC4 (l99_6 call n m) K) <| noP }
@[irreducible] noncomputable def A99 : AFun := (compFn Tryz.prog Tryz.f99).getD ⟨0, [], .skip⟩
noncomputable def w99 : Sh := shW 3 fun call n K => pA3 (s99 call n) K
theorem w99_ok {E : Env} (e : E.code 99 = some A99) (hp : E.prim 99 = none) : ShOK E 99 w99 := shW_ok (A := { pts := [], lps := [(6, [0, 1, 2, 7])] }) (S := T99) e hp (by kernel_rfl) (by kernel_rfl) (by kernel_rfl)

noncomputable def T100 (call : CallFn) (n : Nat) (K : Kont) : Sp := {
  pt := fun β j => ifF j 49 (pA3 (p100_49 call n (pF3 (pB 0 β))) K) <| ifF j 25001 (pA2 (p100_25001 call n (pF3 (pB 0 β))) K) <| ifF j 33001 (pA4 (p100_33001 call n (pF3 (pB 0 β))) K) <| noP
  fs := fun β j => noP
  rd := fun β j => ifF j 8 (pA3 (b100_8 call n (pF3 (pB 0 β))) K) <| noP
  lp := fun β j m => ifL j 8 (pC3 (l100_8 call n m) K) <| noP }
@[irreducible] noncomputable def A100 : AFun := (compFn Tryz.prog Tryz.f100).getD ⟨0, [], .skip⟩
noncomputable def w100 : Sh := shW 1 fun call n K => pA1 (s100 call n) K
theorem w100_ok {E : Env} (e : E.code 100 = some A100) (hp : E.prim 100 = none) : ShOK E 100 w100 := shW_ok (A := { pts := [(49, [0, 4, 5])], lps := [(8, [0, 4, 5])], cuts := [(24, [(1, 25001, [5, 30])]), (32, [(3, 33001, [0, 4, 5, 40])])] }) (S := T100) e hp (by kernel_rfl) (by kernel_rfl) (by kernel_rfl)

noncomputable def T101 (call : CallFn) (n : Nat) (K : Kont) : Sp := {
  pt := fun β j => ifF j 25 (pA1 (p101_25 call n) K) <| noP
  fs := fun β j => noP
  rd := fun β j => ifF j 6 (pA4 (b101_6 call n (pF4 (pB 0 β))) K) <| noP
  lp := fun β j m => ifL j 6 (pC4 (l101_6 call n m) K) <| noP }
@[irreducible] noncomputable def A101 : AFun := (compFn Tryz.prog Tryz.f101).getD ⟨0, [], .skip⟩
noncomputable def w101 : Sh := shW 1 fun call n K => pA1 (s101 call n) K
theorem w101_ok {E : Env} (e : E.code 101 = some A101) (hp : E.prim 101 = none) : ShOK E 101 w101 := shW_ok (A := { pts := [(25, [0])], lps := [(6, [0, 5, 6, 7])] }) (S := T101) e hp (by kernel_rfl) (by kernel_rfl) (by kernel_rfl)

noncomputable def T108 (call : CallFn) (n : Nat) (K : Kont) : Sp := {
  pt := fun β j => ifF j 2001 (pA3 (p108_2001 call n) K) <| ifF j 2002 (pA4 (p108_2002 call n) K) <| noP
  fs := fun β j => noP
  rd := fun β j => noP
  lp := fun β j m => noP }
@[irreducible] noncomputable def A108 : AFun := (compFn Tryz.prog Tryz.f108).getD ⟨0, [], .skip⟩
noncomputable def w108 : Sh := shW 2 fun call n K => pA2 (s108 call n) K
theorem w108_ok {E : Env} (e : E.code 108 = some A108) (hp : E.prim 108 = none) : ShOK E 108 w108 := shW_ok (A := { pts := [], lps := [], cuts := [(1, [(2, 2001, [0, 1, 4]), (3, 2002, [0, 1, 5, 7])])] }) (S := T108) e hp (by kernel_rfl) (by kernel_rfl) (by kernel_rfl)

noncomputable def T109 (call : CallFn) (n : Nat) (K : Kont) : Sp := {
  pt := fun β j => ifF j 12 (pA4 (p109_12 call n) K) <| ifF j 15001 (pA5 (p109_15001 call n) K) <| ifF j 15002 (pA6 (p109_15002 call n) K) <| ifF j 18001 (pA2 (p109_18001 call n) K) <| ifF j 24001 (pA5 (p109_24001 call n) K) <| ifF j 28001 (pA2 (p109_28001 call n) K) <| noP
  fs := fun β j => noP
  rd := fun β j => noP
  lp := fun β j m => noP }
@[irreducible] noncomputable def A109 : AFun := (compFn Tryz.prog Tryz.f109).getD ⟨0, [], .skip⟩
noncomputable def w109 : Sh := shW 1 fun call n K => pA1 (s109 call n) K
theorem w109_ok {E : Env} (e : E.code 109 = some A109) (hp : E.prim 109 = none) : ShOK E 109 w109 := shW_ok (A := { pts := [(12, [0, 2, 3, 4])], lps := [], cuts := [(14, [(2, 15001, [0, 2, 3, 4, 11]), (4, 15002, [0, 2, 3, 4, 13, 15])]), (17, [(2, 18001, [2, 19])]), (23, [(2, 24001, [0, 2, 3, 4, 24])]), (27, [(6, 28001, [2, 37])])] }) (S := T109) e hp (by kernel_rfl) (by kernel_rfl) (by kernel_rfl)

noncomputable def T110 (call : CallFn) (n : Nat) (K : Kont) : Sp := {
  pt := fun β j => ifF j 23 (pA3 (p110_23 call n) K) <| ifF j 29 (pA2 (p110_29 call n) K) <| noP
  fs := fun β j => noP
  rd := fun β j => ifF j 8 (pA6 (b110_8 call n (pF6 (pB 0 β))) K) <| noP
  lp := fun β j m => ifL j 8 (pC6 (l110_8 call n m) K) <| noP }
@[irreducible] noncomputable def A110 : AFun := (compFn Tryz.prog Tryz.f110).getD ⟨0, [], .skip⟩
noncomputable def w110 : Sh := shW 3 fun call n K => pA3 (s110 call n) K
theorem w110_ok {E : Env} (e : E.code 110 = some A110) (hp : E.prim 110 = none) : ShOK E 110 w110 := shW_ok (A := { pts := [(23, [0, 6, 7]), (29, [6, 7])], lps := [(8, [0, 6, 7, 12, 13, 14])] }) (S := T110) e hp (by kernel_rfl) (by kernel_rfl) (by kernel_rfl)

@[irreducible] noncomputable def A111 : AFun := (compFn Tryz.prog Tryz.f111).getD ⟨0, [], .skip⟩
noncomputable def w111 : Sh := shW 2 fun call n K => pA2 (s111 call n) K
theorem w111_ok {E : Env} (e : E.code 111 = some A111) (hp : E.prim 111 = none) : ShOK E 111 w111 := shW_ok (A := { pts := [], lps := [] }) (S := noS) e hp (by kernel_rfl) (by kernel_rfl) (by kernel_rfl)

noncomputable def T112 (call : CallFn) (n : Nat) (K : Kont) : Sp := {
  pt := fun β j => ifF j 4001 (pA2 (p112_4001 call n) K) <| ifF j 4002 (pA3 (p112_4002 call n) K) <| noP
  fs := fun β j => noP
  rd := fun β j => noP
  lp := fun β j m => noP }
@[irreducible] noncomputable def A112 : AFun := (compFn Tryz.prog Tryz.f112).getD ⟨0, [], .skip⟩
noncomputable def w112 : Sh := shW 1 fun call n K => pA1 (s112 call n) K
theorem w112_ok {E : Env} (e : E.code 112 = some A112) (hp : E.prim 112 = none) : ShOK E 112 w112 := shW_ok (A := { pts := [], lps := [], cuts := [(3, [(2, 4001, [0, 4]), (3, 4002, [0, 5, 7])])] }) (S := T112) e hp (by kernel_rfl) (by kernel_rfl) (by kernel_rfl)

@[irreducible] noncomputable def A113 : AFun := (compFn Tryz.prog Tryz.f113).getD ⟨0, [], .skip⟩
noncomputable def w113 : Sh := shW 1 fun call n K => pA1 (s113 call n) K
theorem w113_ok {E : Env} (e : E.code 113 = some A113) (hp : E.prim 113 = none) : ShOK E 113 w113 := shW_ok (A := { pts := [], lps := [] }) (S := noS) e hp (by kernel_rfl) (by kernel_rfl) (by kernel_rfl)

@[irreducible] noncomputable def A114 : AFun := (compFn Tryz.prog Tryz.f114).getD ⟨0, [], .skip⟩
noncomputable def w114 : Sh := shW 2 fun call n K => pA2 (s114 call n) K
theorem w114_ok {E : Env} (e : E.code 114 = some A114) (hp : E.prim 114 = none) : ShOK E 114 w114 := shW_ok (A := { pts := [], lps := [] }) (S := noS) e hp (by kernel_rfl) (by kernel_rfl) (by kernel_rfl)

@[irreducible] noncomputable def A115 : AFun := (compFn Tryz.prog Tryz.f115).getD ⟨0, [], .skip⟩
noncomputable def w115 : Sh := shW 2 fun call n K => pA2 (s115 call n) K
theorem w115_ok {E : Env} (e : E.code 115 = some A115) (hp : E.prim 115 = none) : ShOK E 115 w115 := shW_ok (A := { pts := [], lps := [] }) (S := noS) e hp (by kernel_rfl) (by kernel_rfl) (by kernel_rfl)

noncomputable def T121 (call : CallFn) (n : Nat) (K : Kont) : Sp := {
  pt := fun β j => ifF j 4001 (pA3 (p121_4001 call n) K) <| ifF j 12001 (pA5 (p121_12001 call n (pF3 (pB 0 β))) K) <| noP
  fs := fun β j => noP
  rd := fun β j => ifF j 5 (pA3 (b121_5 call n (pF3 (pB 0 β))) K) <| noP
  lp := fun β j m => ifL j 5 (pC3 (l121_5 call n m) K) <| noP }
@[irreducible] noncomputable def A121 : AFun := (compFn Tryz.prog Tryz.f121).getD ⟨0, [], .skip⟩
noncomputable def w121 : Sh := shW 1 fun call n K => pA1 (s121 call n) K
theorem w121_ok {E : Env} (e : E.code 121 = some A121) (hp : E.prim 121 = none) : ShOK E 121 w121 := shW_ok (A := { pts := [], lps := [(5, [0, 2, 3])], cuts := [(3, [(2, 4001, [0, 2, 6])]), (11, [(2, 12001, [0, 2, 3, 4, 10])])] }) (S := T121) e hp (by kernel_rfl) (by kernel_rfl) (by kernel_rfl)

noncomputable def T123 (call : CallFn) (n : Nat) (K : Kont) : Sp := {
  pt := fun β j => ifF j 4001 (pA2 (p123_4001 call n) K) <| noP
  fs := fun β j => noP
  rd := fun β j => noP
  lp := fun β j m => noP }
@[irreducible] noncomputable def A123 : AFun := (compFn Tryz.prog Tryz.f123).getD ⟨0, [], .skip⟩
noncomputable def w123 : Sh := shW 1 fun call n K => pA1 (s123 call n) K
theorem w123_ok {E : Env} (e : E.code 123 = some A123) (hp : E.prim 123 = none) : ShOK E 123 w123 := shW_ok (A := { pts := [], lps := [], cuts := [(3, [(4, 4001, [7, 10])])] }) (S := T123) e hp (by kernel_rfl) (by kernel_rfl) (by kernel_rfl)

@[irreducible] noncomputable def A124 : AFun := (compFn Tryz.prog Tryz.f124).getD ⟨0, [], .skip⟩
noncomputable def w124 : Sh := shW 2 fun call n K => pA2 (s124 call n) K
theorem w124_ok {E : Env} (e : E.code 124 = some A124) (hp : E.prim 124 = none) : ShOK E 124 w124 := shW_ok (A := { pts := [], lps := [] }) (S := noS) e hp (by kernel_rfl) (by kernel_rfl) (by kernel_rfl)

noncomputable def T126 (call : CallFn) (n : Nat) (K : Kont) : Sp := {
  pt := fun β j => ifF j 30 (pA5 (p126_30 call n) K) <| ifF j 11001 (pA3 (p126_11001 call n) K) <| ifF j 17001 (pA2 (p126_17001 call n) K) <| ifF j 23001 (pA2 (p126_23001 call n) K) <| ifF j 23002 (pA2 (p126_23002 call n) K) <| ifF j 33001 (pA2 (p126_33001 call n) K) <| ifF j 39001 (pA2 (p126_39001 call n) K) <| ifF j 45001 (pA2 (p126_45001 call n) K) <| ifF j 53001 (pA3 (p126_53001 call n) K) <| ifF j 69001 (pA2 (p126_69001 call n) K) <| ifF j 77001 (pA4 (p126_77001 call n) K) <| ifF j 81001 (pA2 (p126_81001 call n) K) <| ifF j 89001 (pA4 (p126_89001 call n) K) <| ifF j 93001 (pA5 (p126_93001 call n) K) <| ifF j 97001 (pA2 (p126_97001 call n) K) <| ifF j 101001 (pA2 (p126_101001 call n) K) <| noP
  fs := fun β j => noP
  rd := fun β j => noP
  lp := fun β j m => noP }
@[irreducible] noncomputable def A126 : AFun := (compFn Tryz.prog Tryz.f126).getD ⟨0, [], .skip⟩
noncomputable def w126 : Sh := shW 1 fun call n K => pA1 (s126 call n) K
theorem w126_ok {E : Env} (e : E.code 126 = some A126) (hp : E.prim 126 = none) : ShOK E 126 w126 := shW_ok (A := { pts := [(30, [1, 2, 3, 4, 48])], lps := [], cuts := [(10, [(3, 11001, [1, 2, 23])]), (16, [(3, 17001, [2, 39])]), (22, [(2, 23001, [2, 45]), (2, 23002, [2, 47])]), (32, [(5, 33001, [2, 57])]), (38, [(2, 39001, [2, 62])]), (44, [(2, 45001, [2, 68])]), (52, [(2, 53001, [1, 2, 77])]), (68, [(4, 69001, [2, 92])]), (76, [(2, 77001, [1, 2, 3, 99])]), (80, [(5, 81001, [2, 106])]), (88, [(2, 89001, [1, 2, 3, 113])]), (92, [(2, 93001, [1, 2, 3, 10, 118])]), (96, [(6, 97001, [2, 126])]), (100, [(2, 101001, [2, 128])])] }) (S := T126) e hp (by kernel_rfl) (by kernel_rfl) (by kernel_rfl)

@[irreducible] noncomputable def A129 : AFun := (compFn Tryz.prog Tryz.f129).getD ⟨0, [], .skip⟩
noncomputable def w129 : Sh := shW 1 fun call n K => pA1 (s129 call n) K
theorem w129_ok {E : Env} (e : E.code 129 = some A129) (hp : E.prim 129 = none) : ShOK E 129 w129 := shW_ok (A := { pts := [], lps := [] }) (S := noS) e hp (by kernel_rfl) (by kernel_rfl) (by kernel_rfl)

end Go.Proofs.YtplimodjgbhmdaaGreatDoor
