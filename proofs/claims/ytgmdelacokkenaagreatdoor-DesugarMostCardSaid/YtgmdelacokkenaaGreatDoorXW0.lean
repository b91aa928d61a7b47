/-
  The functions say no more than the code: so the kernel finds (printed by wip/tools/gen2.py).
-/
import Derived.Test.YtgmdelacokkenaaGreatDoorXS0
import Derived.Test.YtgmdelacokkenaaGreatDoorAbDn
import Derived.Test.YtgmdelacokkenaaGreatDoorProg
import Derived.KernelRfl
namespace Go.Proofs.YtgmdelacokkenaaGreatDoor
open Go.Ab
set_option linter.unusedVariables false

noncomputable def T5 (call : CallFn) (n : Nat) (K : Kont) : Sp := {
  pt := fun β j => ifF j 4001 (pA1 (p5_4001 call n) K) <| noP
  fs := fun β j => noP
  rd := fun β j => noP
  lp := fun β j m => noP }
@[irreducible] noncomputable def A5 : AFun := (compFn Tryz.prog Tryz.f5).getD ⟨0, [], .skip⟩
noncomputable def w5 : Sh := shW 1 fun call n K => pA1 (s5 call n) K
theorem w5_ok {E : Env} (e : E.code 5 = some A5) (hp : E.prim 5 = none) : ShOK E 5 w5 := shW_ok (A := { pts := [], lps := [], cuts := [(3, [(4, 4001, [10])])] }) (S := T5) e hp (by kernel_rfl) (by kernel_rfl) (by kernel_rfl)

noncomputable def T6 (call : CallFn) (n : Nat) (K : Kont) : Sp := {
  pt := fun β j => ifF j 4001 (pA1 (p6_4001 call n) K) <| ifF j 4002 (pA1 (p6_4002 call n) K) <| ifF j 6001 (pA2 (p6_6001 call n) K) <| ifF j 6002 (pA2 (p6_6002 call n) K) <| ifF j 6003 (pA2 (p6_6003 call n) K) <| noP
  fs := fun β j => noP
  rd := fun β j => noP
  lp := fun β j m => noP }
@[irreducible] noncomputable def A6 : AFun := (compFn Tryz.prog Tryz.f6).getD ⟨0, [], .skip⟩
noncomputable def w6 : Sh := shW 0 fun call n K => pA0 (s6 call n) K
theorem w6_ok {E : Env} (e : E.code 6 = some A6) (hp : E.prim 6 = none) : ShOK E 6 w6 := shW_ok (A := { pts := [], lps := [], cuts := [(3, [(1, 4001, [4]), (1, 4002, [5])]), (5, [(28, 6001, [31, 35]), (3, 6002, [37, 38]), (1, 6003, [37, 39])])] }) (S := T6) e hp (by kernel_rfl) (by kernel_rfl) (by kernel_rfl)

@[irreducible] noncomputable def A8 : AFun := (compFn Tryz.prog Tryz.f8).getD ⟨0, [], .skip⟩
noncomputable def w8 : Sh := shW 1 fun call n K => pA1 (s8 call n) K
theorem w8_ok {E : Env} (e : E.code 8 = some A8) (hp : E.prim 8 = none) : ShOK E 8 w8 := shW_ok (A := { pts := [], lps := [] }) (S := noS) e hp (by kernel_rfl) (by kernel_rfl) (by kernel_rfl)

noncomputable def T9 (call : CallFn) (n : Nat) (K : Kont) : Sp := {
  pt := fun β j => ifF j 12001 (pA1 (p9_12001 call n) K) <| noP
  fs := fun β j => noP
  rd := fun β j => noP
  lp := fun β j m => noP }
@[irreducible] noncomputable def A9 : AFun := (compFn Tryz.prog Tryz.f9).getD ⟨0, [], .skip⟩
noncomputable def w9 : Sh := shW 2 fun call n K => pA2 (s9 call n) K
theorem w9_ok {E : Env} (e : E.code 9 = some A9) (hp : E.prim 9 = none) : ShOK E 9 w9 := shW_ok (A := { pts := [], lps := [], cuts := [(11, [(3, 12001, [14])])] }) (S := T9) e hp (by kernel_rfl) (by kernel_rfl) (by kernel_rfl)

noncomputable def T10 (call : CallFn) (n : Nat) (K : Kont) : Sp := {
  pt := fun β j => ifF j 27 (pA1 (p10_27 call n) K) <| noP
  fs := fun β j => noP
  rd := fun β j => ifF j 10 (pA5 (b10_10 call n (pF5 (pB 0 β))) K) <| noP
  lp := fun β j m => ifL j 10 (pC5 (l10_10 call n m) K) <| noP }
@[irreducible] noncomputable def A10 : AFun := (compFn Tryz.prog Tryz.f10).getD ⟨0, [], .skip⟩
noncomputable def w10 : Sh := shW 1 fun call n K => pA1 (s10 call n) K
theorem w10_ok {E : Env} (e : E.code 10 = some A10) (hp : E.prim 10 = none) : ShOK E 10 w10 := shW_ok (A := { pts := [(27, [3])], lps := [(10, [3, 4, 9, 10, 11])] }) (S := T10) e hp (by kernel_rfl) (by kernel_rfl) (by kernel_rfl)

noncomputable def T11 (call : CallFn) (n : Nat) (K : Kont) : Sp := {
  pt := fun β j => ifF j 20001 (pA5 (p11_20001 call n (pF4 (pB 0 β))) K) <| noP
  fs := fun β j => noP
  rd := fun β j => ifF j 8 (pA4 (b11_8 call n (pF4 (pB 0 β))) K) <| noP
  lp := fun β j m => ifL j 8 (pC4 (l11_8 call n m) K) <| noP }
@[irreducible] noncomputable def A11 : AFun := (compFn Tryz.prog Tryz.f11).getD ⟨0, [], .skip⟩
noncomputable def w11 : Sh := shW 1 fun call n K => pA1 (s11 call n) K
theorem w11_ok {E : Env} (e : E.code 11 = some A11) (hp : E.prim 11 = none) : ShOK E 11 w11 := shW_ok (A := { pts := [], lps := [(8, [3, 6, 7, 8])], cuts := [(19, [(3, 20001, [6, 7, 8, 12, 14])])] }) (S := T11) e hp (by kernel_rfl) (by kernel_rfl) (by kernel_rfl)

noncomputable def T12 (call : CallFn) (n : Nat) (K : Kont) : Sp := {
  pt := fun β j => ifF j 6001 (pA3 (p12_6001 call n) K) <| noP
  fs := fun β j => noP
  rd := fun β j => noP
  lp := fun β j m => noP }
@[irreducible] noncomputable def A12 : AFun := (compFn Tryz.prog Tryz.f12).getD ⟨0, [], .skip⟩
noncomputable def w12 : Sh := shW 1 fun call n K => pA1 (s12 call n) K
theorem w12_ok {E : Env} (e : E.code 12 = some A12) (hp : E.prim 12 = none) : ShOK E 12 w12 := shW_ok (A := { pts := [], lps := [], cuts := [(5, [(3, 6001, [2, 5, 11])])] }) (S := T12) e hp (by kernel_rfl) (by kernel_rfl) (by kernel_rfl)

@[irreducible] noncomputable def A13 : AFun := (compFn Tryz.prog Tryz.f13).getD ⟨0, [], .skip⟩
noncomputable def w13 : Sh := shW 1 fun call n K => pA1 (s13 call n) K
theorem w13_ok {E : Env} (e : E.code 13 = some A13) (hp : E.prim 13 = none) : ShOK E 13 w13 := shW_ok (A := { pts := [], lps := [] }) (S := noS) e hp (by kernel_rfl) (by kernel_rfl) (by kernel_rfl)

noncomputable def T14 (call : CallFn) (n : Nat) (K : Kont) : Sp := {
  pt := fun β j => ifF j 4001 (pA1 (p14_4001 call n) K) <| noP
  fs := fun β j => noP
  rd := fun β j => noP
  lp := fun β j m => noP }
@[irreducible] noncomputable def A14 : AFun := (compFn Tryz.prog Tryz.f14).getD ⟨0, [], .skip⟩
noncomputable def w14 : Sh := shW 2 fun call n K => pA2 (s14 call n) K
theorem w14_ok {E : Env} (e : E.code 14 = some A14) (hp : E.prim 14 = none) : ShOK E 14 w14 := shW_ok (A := { pts := [], lps := [], cuts := [(3, [(3, 4001, [7])])] }) (S := T14) e hp (by kernel_rfl) (by kernel_rfl) (by kernel_rfl)

noncomputable def T15 (call : CallFn) (n : Nat) (K : Kont) : Sp := {
  pt := fun β j => ifF j 4001 (pA3 (p15_4001 call n) K) <| ifF j 4002 (pA4 (p15_4002 call n) K) <| ifF j 4003 (pA2 (p15_4003 call n) K) <| noP
  fs := fun β j => noP
  rd := fun β j => noP
  lp := fun β j m => noP }
@[irreducible] noncomputable def A15 : AFun := (compFn Tryz.prog Tryz.f15).getD ⟨0, [], .skip⟩
noncomputable def w15 : Sh := shW 2 fun call n K => pA2 (s15 call n) K
theorem w15_ok {E : Env} (e : E.code 15 = some A15) (hp : E.prim 15 = none) : ShOK E 15 w15 := shW_ok (A := { pts := [], lps := [], cuts := [(3, [(5, 4001, [1, 2, 8]), (7, 4002, [1, 2, 10, 15]), (7, 4003, [18, 22])])] }) (S := T15) e hp (by kernel_rfl) (by kernel_rfl) (by kernel_rfl)

noncomputable def T16 (call : CallFn) (n : Nat) (K : Kont) : Sp := {
  pt := fun β j => ifF j 4001 (pA1 (p16_4001 call n) K) <| noP
  fs := fun β j => noP
  rd := fun β j => noP
  lp := fun β j m => noP }
@[irreducible] noncomputable def A16 : AFun := (compFn Tryz.prog Tryz.f16).getD ⟨0, [], .skip⟩
noncomputable def w16 : Sh := shW 2 fun call n K => pA2 (s16 call n) K
theorem w16_ok {E : Env} (e : E.code 16 = some A16) (hp : E.prim 16 = none) : ShOK E 16 w16 := shW_ok (A := { pts := [], lps := [], cuts := [(3, [(3, 4001, [7])])] }) (S := T16) e hp (by kernel_rfl) (by kernel_rfl) (by kernel_rfl)

noncomputable def T17 (call : CallFn) (n : Nat) (K : Kont) : Sp := {
  pt := fun β j => ifF j 4001 (pA1 (p17_4001 call n) K) <| noP
  fs := fun β j => noP
  rd := fun β j => noP
  lp := fun β j m => noP }
@[irreducible] noncomputable def A17 : AFun := (compFn Tryz.prog Tryz.f17).getD ⟨0, [], .skip⟩
noncomputable def w17 : Sh := shW 2 fun call n K => pA2 (s17 call n) K
theorem w17_ok {E : Env} (e : E.code 17 = some A17) (hp : E.prim 17 = none) : ShOK E 17 w17 := shW_ok (A := { pts := [], lps := [], cuts := [(3, [(4, 4001, [7])])] }) (S := T17) e hp (by kernel_rfl) (by kernel_rfl) (by kernel_rfl)

noncomputable def T18 (call : CallFn) (n : Nat) (K : Kont) : Sp := {
  pt := fun β j => ifF j 52 (pA1 (p18_52 call n) K) <| ifF j 91 (pA1 (p18_91 call n) K) <| ifF j 11001 (pA1 (p18_11001 call n) K) <| ifF j 11002 (pA1 (p18_11002 call n) K) <| ifF j 27001 (pA1 (p18_27001 call n) K) <| ifF j 27002 (pA1 (p18_27002 call n) K) <| ifF j 33001 (pA2 (p18_33001 call n) K) <| ifF j 38001 (pA3 (p18_38001 call n) K) <| ifF j 51001 (pA6 (p18_51001 call n (pF5 (pB 0 β))) K) <| ifF j 51002 (pA6 (p18_51002 call n (pF5 (pB 0 β))) K) <| ifF j 85001 (pA5 (p18_85001 call n (pF4 (pB 0 β))) K) <| noP
  fs := fun β j => noP
  rd := fun β j => ifF j 39 (pA5 (b18_39 call n (pF5 (pB 0 β))) K) <| ifF j 72 (pA4 (b18_72 call n (pF4 (pB 0 β))) K) <| noP
  lp := fun β j m => ifL j 39 (pC5 (l18_39 call n m) K) <| ifL j 72 (pC4 (l18_72 call n m) K) <| noP }
@[irreducible] noncomputable def A18 : AFun := (compFn Tryz.prog Tryz.f18).getD ⟨0, [], .skip⟩
noncomputable def w18 : Sh := shW 1 fun call n K => pA1 (s18 call n) K
theorem w18_ok {E : Env} (e : E.code 18 = some A18) (hp : E.prim 18 = none) : ShOK E 18 w18 := shW_ok (A := { pts := [(52, [5]), (91, [1])], lps := [(39, [4, 5, 48, 49, 50]), (72, [9, 80, 81, 82])], cuts := [(10, [(3, 11001, [18]), (1, 11002, [19])]), (26, [(2, 27001, [36]), (1, 27002, [37])]), (32, [(3, 33001, [1, 44])]), (37, [(3, 38001, [4, 5, 48])]), (50, [(4, 51001, [4, 48, 49, 50, 54, 57]), (1, 51002, [4, 48, 49, 50, 54, 58])]), (84, [(3, 85001, [80, 81, 82, 86, 88])])] }) (S := T18) e hp (by kernel_rfl) (by kernel_rfl) (by kernel_rfl)

noncomputable def T19 (call : CallFn) (n : Nat) (K : Kont) : Sp := {
  pt := fun β j => ifF j 8 (pA5 (p19_8 call n) K) <| noP
  fs := fun β j => noP
  rd := fun β j => ifF j 11 (pA7 (b19_11 call n (pF7 (pB 0 β))) K) <| noP
  lp := fun β j m => ifL j 11 (pC7 (l19_11 call n m) K) <| noP }
@[irreducible] noncomputable def A19 : AFun := (compFn Tryz.prog Tryz.f19).getD ⟨0, [], .skip⟩
noncomputable def w19 : Sh := shW 5 fun call n K => pA5 (s19 call n) K
theorem w19_ok {E : Env} (e : E.code 19 = some A19) (hp : E.prim 19 = none) : ShOK E 19 w19 := shW_ok (A := { pts := [(8, [0, 1, 2, 3, 4])], lps := [(11, [0, 1, 2, 4, 20, 21, 22])] }) (S := T19) e hp (by kernel_rfl) (by kernel_rfl) (by kernel_rfl)

noncomputable def T20 (call : CallFn) (n : Nat) (K : Kont) : Sp := {
  pt := fun β j => ifF j 4001 (pA2 (p20_4001 call n) K) <| noP
  fs := fun β j => noP
  rd := fun β j => noP
  lp := fun β j m => noP }
@[irreducible] noncomputable def A20 : AFun := (compFn Tryz.prog Tryz.f20).getD ⟨0, [], .skip⟩
noncomputable def w20 : Sh := shW 2 fun call n K => pA2 (s20 call n) K
theorem w20_ok {E : Env} (e : E.code 20 = some A20) (hp : E.prim 20 = none) : ShOK E 20 w20 := shW_ok (A := { pts := [], lps := [], cuts := [(3, [(2, 4001, [1, 6])])] }) (S := T20) e hp (by kernel_rfl) (by kernel_rfl) (by kernel_rfl)

noncomputable def T21 (call : CallFn) (n : Nat) (K : Kont) : Sp := {
  pt := fun β j => ifF j 2001 (pA3 (p21_2001 call n) K) <| noP
  fs := fun β j => noP
  rd := fun β j => noP
  lp := fun β j m => noP }
@[irreducible] noncomputable def A21 : AFun := (compFn Tryz.prog Tryz.f21).getD ⟨0, [], .skip⟩
noncomputable def w21 : Sh := shW 2 fun call n K => pA2 (s21 call n) K
theorem w21_ok {E : Env} (e : E.code 21 = some A21) (hp : E.prim 21 = none) : ShOK E 21 w21 := shW_ok (A := { pts := [], lps := [], cuts := [(1, [(2, 2001, [0, 1, 4])])] }) (S := T21) e hp (by kernel_rfl) (by kernel_rfl) (by kernel_rfl)

noncomputable def T22 (call : CallFn) (n : Nat) (K : Kont) : Sp := {
  pt := fun β j => ifF j 15 (pA4 (p22_15 call n (pF4 (pB 0 β))) K) <| ifF j 37 (pA4 (p22_37 call n (pF4 (pB 0 β))) K) <| ifF j 36001 (pA8 (p22_36001 call n (pF4 (pB 1 β)) (pF7 (pB 0 β))) K) <| noP
  fs := fun β j => noP
  rd := fun β j => ifF j 8 (pA4 (b22_8 call n (pF4 (pB 0 β))) K) <| ifF j 24 (pA7 (b22_24 call n (pF4 (pB 1 β)) (pF7 (pB 0 β))) K) <| noP
  lp := fun β j m => ifL j 8 (pC4 (l22_8 call n m) K) <| ifL j 24 (pC7 (l22_24 call n (pF4 (pB 0 β)) m) K) <| noP }
@[irreducible] noncomputable def A22 : AFun := (compFn Tryz.prog Tryz.f22).getD ⟨0, [], .skip⟩
noncomputable def w22 : Sh := shW 1 fun call n K => pA1 (s22 call n) K
theorem w22_ok {E : Env} (e : E.code 22 = some A22) (hp : E.prim 22 = none) : ShOK E 22 w22 := shW_ok (A := { pts := [(15, [3, 8, 9, 10]), (37, [3, 8, 9, 10])], lps := [(8, [3, 8, 9, 10]), (24, [3, 8, 9, 10, 25, 26, 27])], cuts := [(35, [(3, 36001, [8, 9, 10, 25, 26, 27, 31, 33])])] }) (S := T22) e hp (by kernel_rfl) (by kernel_rfl) (by kernel_rfl)

noncomputable def T23 (call : CallFn) (n : Nat) (K : Kont) : Sp := {
  pt := fun β j => ifF j 27 (pA3 (p23_27 call n) K) <| ifF j 44 (pA3 (p23_44 call n) K) <| ifF j 61 (pA2 (p23_61 call n) K) <| noP
  fs := fun β j => noP
  rd := fun β j => ifF j 14 (pA6 (b23_14 call n (pF6 (pB 0 β))) K) <| ifF j 31 (pA6 (b23_31 call n (pF6 (pB 0 β))) K) <| ifF j 48 (pA5 (b23_48 call n (pF5 (pB 0 β))) K) <| noP
  lp := fun β j m => ifL j 14 (pC6 (l23_14 call n m) K) <| ifL j 31 (pC6 (l23_31 call n m) K) <| ifL j 48 (pC5 (l23_48 call n m) K) <| noP }
@[irreducible] noncomputable def A23 : AFun := (compFn Tryz.prog Tryz.f23).getD ⟨0, [], .skip⟩
noncomputable def w23 : Sh := shW 1 fun call n K => pA1 (s23 call n) K
theorem w23_ok {E : Env} (e : E.code 23 = some A23) (hp : E.prim 23 = none) : ShOK E 23 w23 := shW_ok (A := { pts := [(27, [1, 2, 3]), (44, [1, 2, 3]), (61, [2, 3])], lps := [(14, [1, 2, 3, 31, 32, 33]), (31, [1, 2, 3, 46, 47, 48]), (48, [2, 3, 65, 66, 67])] }) (S := T23) e hp (by kernel_rfl) (by kernel_rfl) (by kernel_rfl)

noncomputable def T24 (call : CallFn) (n : Nat) (K : Kont) : Sp := {
  pt := fun β j => ifF j 4001 (pA3 (p24_4001 call n) K) <| ifF j 14001 (pA1 (p24_14001 call n) K) <| noP
  fs := fun β j => noP
  rd := fun β j => noP
  lp := fun β j m => noP }
@[irreducible] noncomputable def A24 : AFun := (compFn Tryz.prog Tryz.f24).getD ⟨0, [], .skip⟩
noncomputable def w24 : Sh := shW 2 fun call n K => pA2 (s24 call n) K
theorem w24_ok {E : Env} (e : E.code 24 = some A24) (hp : E.prim 24 = none) : ShOK E 24 w24 := shW_ok (A := { pts := [], lps := [], cuts := [(3, [(2, 4001, [0, 1, 9])]), (13, [(5, 14001, [21])])] }) (S := T24) e hp (by kernel_rfl) (by kernel_rfl) (by kernel_rfl)

noncomputable def T25 (call : CallFn) (n : Nat) (K : Kont) : Sp := {
  pt := fun β j => ifF j 1001 (pA2 (p25_1001 call n) K) <| noP
  fs := fun β j => noP
  rd := fun β j => noP
  lp := fun β j m => noP }
@[irreducible] noncomputable def A25 : AFun := (compFn Tryz.prog Tryz.f25).getD ⟨0, [], .skip⟩
noncomputable def w25 : Sh := shW 2 fun call n K => pA2 (s25 call n) K
theorem w25_ok {E : Env} (e : E.code 25 = some A25) (hp : E.prim 25 = none) : ShOK E 25 w25 := shW_ok (A := { pts := [], lps := [], cuts := [(0, [(2, 1001, [1, 4])])] }) (S := T25) e hp (by kernel_rfl) (by kernel_rfl) (by kernel_rfl)

noncomputable def T26 (call : CallFn) (n : Nat) (K : Kont) : Sp := {
  pt := fun β j => ifF j 26 (pA2 (p26_26 call n) K) <| noP
  fs := fun β j => noP
  rd := fun β j => ifF j 6 (pA3 (b26_6 call n (pF3 (pB 0 β))) K) <| noP
  lp := fun β j m => ifL j 6 (pC3 (l26_6 call n m) K) <| noP }
@[irreducible] noncomputable def A26 : AFun := (compFn Tryz.prog Tryz.f26).getD ⟨0, [], .skip⟩
noncomputable def w26 : Sh := shW 1 fun call n K => pA1 (s26 call n) K
theorem w26_ok {E : Env} (e : E.code 26 = some A26) (hp : E.prim 26 = none) : ShOK E 26 w26 := shW_ok (A := { pts := [(26, [2, 3])], lps := [(6, [0, 2, 3])] }) (S := T26) e hp (by kernel_rfl) (by kernel_rfl) (by kernel_rfl)

noncomputable def T27 (call : CallFn) (n : Nat) (K : Kont) : Sp := {
  pt := fun β j => ifF j 13 (pA3 (p27_13 call n (pF3 (pB 0 β))) K) <| ifF j 25 (pA4 (p27_25 call n (pF3 (pB 0 β))) K) <| ifF j 47 (pA3 (p27_47 call n (pF3 (pB 0 β))) K) <| ifF j 20001 (pA6 (p27_20001 call n (pF3 (pB 0 β))) K) <| ifF j 20002 (pA6 (p27_20002 call n (pF3 (pB 0 β))) K) <| ifF j 41001 (pA7 (p27_41001 call n (pF3 (pB 1 β)) (pF6 (pB 0 β))) K) <| noP
  fs := fun β j => noP
  rd := fun β j => ifF j 6 (pA3 (b27_6 call n (pF3 (pB 0 β))) K) <| ifF j 28 (pA6 (b27_28 call n (pF3 (pB 1 β)) (pF6 (pB 0 β))) K) <| noP
  lp := fun β j m => ifL j 6 (pC3 (l27_6 call n m) K) <| ifL j 28 (pC6 (l27_28 call n (pF3 (pB 0 β)) m) K) <| noP }
@[irreducible] noncomputable def A27 : AFun := (compFn Tryz.prog Tryz.f27).getD ⟨0, [], .skip⟩
noncomputable def w27 : Sh := shW 1 fun call n K => pA1 (s27 call n) K
theorem w27_ok {E : Env} (e : E.code 27 = some A27) (hp : E.prim 27 = none) : ShOK E 27 w27 := shW_ok (A := { pts := [(13, [7, 8, 9]), (25, [4, 7, 8, 9]), (47, [7, 8, 9])], lps := [(6, [7, 8, 9]), (28, [7, 8, 9, 34, 35, 36])], cuts := [(19, [(12, 20001, [4, 7, 8, 9, 21, 24]), (6, 20002, [4, 7, 8, 9, 27, 30])]), (40, [(2, 41001, [7, 8, 9, 34, 35, 36, 41])])] }) (S := T27) e hp (by kernel_rfl) (by kernel_rfl) (by kernel_rfl)

noncomputable def T28 (call : CallFn) (n : Nat) (K : Kont) : Sp := {
  pt := fun β j => noP
  fs := fun β j => noP
  rd := fun β j => ifF j 6 (pA4 (b28_6 call n (pF4 (pB 0 β))) K) <| noP
  lp := fun β j m => ifL j 6 (pC4 (l28_6 call n m) K) <| noP }
@[irreducible] noncomputable def A28 : AFun := (compFn Tryz.prog Tryz.f28).getD ⟨0, [], .skip⟩
noncomputable def w28 : Sh := shW 2 fun call n K => pA2 (s28 call n) K
theorem w28_ok {E : Env} (e : E.code 28 = some A28) (hp : E.prim 28 = none) : ShOK E 28 w28 := shW_ok (A := { pts := [], lps := [(6, [0, 1, 7, 8])] }) (S := T28) e hp (by kernel_rfl) (by kernel_rfl) (by kernel_rfl)

noncomputable def T29 (call : CallFn) (n : Nat) (K : Kont) : Sp := {
  pt := fun β j => noP
  fs := fun β j => noP
  rd := fun β j => ifF j 6 (pA4 (b29_6 call n (pF4 (pB 0 β))) K) <| noP
  lp := fun β j m => ifL j 6 (pC4 (l29_6 call n m) K) <| noP }
@[irreducible] noncomputable def A29 : AFun := (compFn Tryz.prog Tryz.f29).getD ⟨0, [], .skip⟩
noncomputable def w29 : Sh := shW 2 fun call n K => pA2 (s29 call n) K
theorem w29_ok {E : Env} (e : E.code 29 = some A29) (hp : E.prim 29 = none) : ShOK E 29 w29 := shW_ok (A := { pts := [], lps := [(6, [0, 1, 7, 8])] }) (S := T29) e hp (by kernel_rfl) (by kernel_rfl) (by kernel_rfl)

@[irreducible] noncomputable def A32 : AFun := (compFn Tryz.prog Tryz.f32).getD ⟨0, [], .skip⟩
noncomputable def w32 : Sh := shW 1 fun call n K => pA1 (s32 call n) K
theorem w32_ok {E : Env} (e : E.code 32 = some A32) (hp : E.prim 32 = none) : ShOK E 32 w32 := shW_ok (A := { pts := [], lps := [] }) (S := noS) e hp (by kernel_rfl) (by kernel_rfl) (by kernel_rfl)

@[irreducible] noncomputable def A33 : AFun := (compFn Tryz.prog Tryz.f33).getD ⟨0, [], .skip⟩
noncomputable def w33 : Sh := shW 1 fun call n K => pA1 (s33 call n) K
theorem w33_ok {E : Env} (e : E.code 33 = some A33) (hp : E.prim 33 = none) : ShOK E 33 w33 := shW_ok (A := { pts := [], lps := [] }) (S := noS) e hp (by kernel_rfl) (by kernel_rfl) (by kernel_rfl)

noncomputable def T34 (call : CallFn) (n : Nat) (K : Kont) : Sp := {
  pt := fun β j => ifF j 23 (pA2 (p34_23 call n) K) <| ifF j 6001 (pA4 (p34_6001 call n) K) <| noP
  fs := fun β j => noP
  rd := fun β j => ifF j 10 (pA5 (b34_10 call n (pF5 (pB 0 β))) K) <| noP
  lp := fun β j m => ifL j 10 (pC5 (l34_10 call n m) K) <| noP }
@[irreducible] noncomputable def A34 : AFun := (compFn Tryz.prog Tryz.f34).getD ⟨0, [], .skip⟩
noncomputable def w34 : Sh := shW 1 fun call n K => pA1 (s34 call n) K
theorem w34_ok {E : Env} (e : E.code 34 = some A34) (hp : E.prim 34 = none) : ShOK E 34 w34 := shW_ok (A := { pts := [(23, [1, 2])], lps := [(10, [1, 2, 13, 14, 15])], cuts := [(5, [(3, 6001, [1, 2, 3, 10])])] }) (S := T34) e hp (by kernel_rfl) (by kernel_rfl) (by kernel_rfl)

noncomputable def T35 (call : CallFn) (n : Nat) (K : Kont) : Sp := {
  pt := fun β j => ifF j 12001 (pA1 (p35_12001 call n) K) <| noP
  fs := fun β j => noP
  rd := fun β j => noP
  lp := fun β j m => noP }
@[irreducible] noncomputable def A35 : AFun := (compFn Tryz.prog Tryz.f35).getD ⟨0, [], .skip⟩
noncomputable def w35 : Sh := shW 1 fun call n K => pA1 (s35 call n) K
theorem w35_ok {E : Env} (e : E.code 35 = some A35) (hp : E.prim 35 = none) : ShOK E 35 w35 := shW_ok (A := { pts := [], lps := [], cuts := [(11, [(2, 12001, [9])])] }) (S := T35) e hp (by kernel_rfl) (by kernel_rfl) (by kernel_rfl)

noncomputable def T37 (call : CallFn) (n : Nat) (K : Kont) : Sp := {
  pt := fun β j => ifF j 5001 (pA2 (p37_5001 call n) K) <| noP
  fs := fun β j => noP
  rd := fun β j => noP
  lp := fun β j m => noP }
@[irreducible] noncomputable def A37 : AFun := (compFn Tryz.prog Tryz.f37).getD ⟨0, [], .skip⟩
noncomputable def w37 : Sh := shW 2 fun call n K => pA2 (s37 call n) K
theorem w37_ok {E : Env} (e : E.code 37 = some A37) (hp : E.prim 37 = none) : ShOK E 37 w37 := shW_ok (A := { pts := [], lps := [], cuts := [(4, [(3, 5001, [0, 7])])] }) (S := T37) e hp (by kernel_rfl) (by kernel_rfl) (by kernel_rfl)

noncomputable def T39 (call : CallFn) (n : Nat) (K : Kont) : Sp := {
  pt := fun β j => ifF j 34 (pA3 (p39_34 call n) K) <| ifF j 49 (pA2 (p39_49 call n) K) <| ifF j 4001 (pA3 (p39_4001 call n) K) <| ifF j 10001 (pA4 (p39_10001 call n (pF3 (pB 0 β))) K) <| ifF j 19001 (pA4 (p39_19001 call n (pF3 (pB 0 β))) K) <| ifF j 23001 (pA4 (p39_23001 call n (pF3 (pB 0 β))) K) <| ifF j 27001 (pA4 (p39_27001 call n (pF3 (pB 0 β))) K) <| ifF j 36001 (pA4 (p39_36001 call n) K) <| ifF j 44001 (pA4 (p39_44001 call n (pF3 (pB 0 β))) K) <| noP
  fs := fun β j => noP
  rd := fun β j => ifF j 6 (pA3 (b39_6 call n (pF3 (pB 0 β))) K) <| ifF j 40 (pA3 (b39_40 call n (pF3 (pB 0 β))) K) <| noP
  lp := fun β j m => ifL j 6 (pC3 (l39_6 call n m) K) <| ifL j 40 (pC3 (l39_40 call n m) K) <| noP }
@[irreducible] noncomputable def A39 : AFun := (compFn Tryz.prog Tryz.f39).getD ⟨0, [], .skip⟩
noncomputable def w39 : Sh := shW 1 fun call n K => pA1 (s39 call n) K
theorem w39_ok {E : Env} (e : E.code 39 = some A39) (hp : E.prim 39 = none) : ShOK E 39 w39 := shW_ok (A := { pts := [(34, [0, 2, 3]), (49, [2, 3])], lps := [(6, [0, 2, 3]), (40, [0, 2, 3])], cuts := [(3, [(2, 4001, [0, 2, 5])]), (9, [(2, 10001, [0, 2, 3, 8])]), (18, [(2, 19001, [0, 2, 3, 18])]), (22, [(2, 23001, [0, 2, 3, 24])]), (26, [(2, 27001, [0, 2, 3, 30])]), (35, [(3, 36001, [0, 2, 3, 38])]), (43, [(2, 44001, [0, 2, 3, 44])])] }) (S := T39) e hp (by kernel_rfl) (by kernel_rfl) (by kernel_rfl)

noncomputable def T40 (call : CallFn) (n : Nat) (K : Kont) : Sp := {
  pt := fun β j => ifF j 15001 (pA6 (p40_15001 call n (pF4 (pB 0 β))) K) <| noP
  fs := fun β j => noP
  rd := fun β j => ifF j 3 (pA4 (b40_3 call n (pF4 (pB 0 β))) K) <| noP
  lp := fun β j m => ifL j 3 (pC4 (l40_3 call n m) K) <| noP }
@[irreducible] noncomputable def A40 : AFun := (compFn Tryz.prog Tryz.f40).getD ⟨0, [], .skip⟩
noncomputable def w40 : Sh := shW 2 fun call n K => pA2 (s40 call n) K
theorem w40_ok {E : Env} (e : E.code 40 = some A40) (hp : E.prim 40 = none) : ShOK E 40 w40 := shW_ok (A := { pts := [], lps := [(3, [0, 6, 7, 8])], cuts := [(14, [(4, 15001, [0, 6, 7, 8, 12, 15])])] }) (S := T40) e hp (by kernel_rfl) (by kernel_rfl) (by kernel_rfl)

noncomputable def T42 (call : CallFn) (n : Nat) (K : Kont) : Sp := {
  pt := fun β j => ifF j 23 (pA2 (p42_23 call n) K) <| noP
  fs := fun β j => noP
  rd := fun β j => ifF j 10 (pA5 (b42_10 call n (pF5 (pB 0 β))) K) <| noP
  lp := fun β j m => ifL j 10 (pC5 (l42_10 call n m) K) <| noP }
@[irreducible] noncomputable def A42 : AFun := (compFn Tryz.prog Tryz.f42).getD ⟨0, [], .skip⟩
noncomputable def w42 : Sh := shW 1 fun call n K => pA1 (s42 call n) K
theorem w42_ok {E : Env} (e : E.code 42 = some A42) (hp : E.prim 42 = none) : ShOK E 42 w42 := shW_ok (A := { pts := [(23, [1, 2])], lps := [(10, [1, 2, 9, 10, 11])] }) (S := T42) e hp (by kernel_rfl) (by kernel_rfl) (by kernel_rfl)

@[irreducible] noncomputable def A45 : AFun := (compFn Tryz.prog Tryz.f45).getD ⟨0, [], .skip⟩
noncomputable def w45 : Sh := shW 0 fun call n K => pA0 (s45 call n) K
theorem w45_ok {E : Env} (e : E.code 45 = some A45) (hp : E.prim 45 = none) : ShOK E 45 w45 := shW_ok (A := { pts := [], lps := [] }) (S := noS) e hp (by kernel_rfl) (by kernel_rfl) (by kernel_rfl)

noncomputable def T46 (call : CallFn) (n : Nat) (K : Kont) : Sp := {
  pt := fun β j => ifF j 4001 (pA1 (p46_4001 call n) K) <| noP
  fs := fun β j => noP
  rd := fun β j => noP
  lp := fun β j m => noP }
@[irreducible] noncomputable def A46 : AFun := (compFn Tryz.prog Tryz.f46).getD ⟨0, [], .skip⟩
noncomputable def w46 : Sh := shW 2 fun call n K => pA2 (s46 call n) K
theorem w46_ok {E : Env} (e : E.code 46 = some A46) (hp : E.prim 46 = none) : ShOK E 46 w46 := shW_ok (A := { pts := [], lps := [], cuts := [(3, [(2, 4001, [7])])] }) (S := T46) e hp (by kernel_rfl) (by kernel_rfl) (by kernel_rfl)

noncomputable def T47 (call : CallFn) (n : Nat) (K : Kont) : Sp := {
  pt := fun β j => ifF j 4001 (pA2 (p47_4001 call n) K) <| ifF j 6001 (pA4 (p47_6001 call n) K) <| noP
  fs := fun β j => noP
  rd := fun β j => noP
  lp := fun β j m => noP }
@[irreducible] noncomputable def A47 : AFun := (compFn Tryz.prog Tryz.f47).getD ⟨0, [], .skip⟩
noncomputable def w47 : Sh := shW 3 fun call n K => pA3 (s47 call n) K
theorem w47_ok {E : Env} (e : E.code 47 = some A47) (hp : E.prim 47 = none) : ShOK E 47 w47 := shW_ok (A := { pts := [], lps := [], cuts := [(3, [(3, 4001, [2, 10])]), (5, [(15, 6001, [15, 19, 23, 25])])] }) (S := T47) e hp (by kernel_rfl) (by kernel_rfl) (by kernel_rfl)

noncomputable def T48 (call : CallFn) (n : Nat) (K : Kont) : Sp := {
  pt := fun β j => ifF j 4001 (pA3 (p48_4001 call n) K) <| ifF j 4002 (pA4 (p48_4002 call n) K) <| noP
  fs := fun β j => noP
  rd := fun β j => noP
  lp := fun β j m => noP }
@[irreducible] noncomputable def A48 : AFun := (compFn Tryz.prog Tryz.f48).getD ⟨0, [], .skip⟩
noncomputable def w48 : Sh := shW 1 fun call n K => pA1 (s48 call n) K
theorem w48_ok {E : Env} (e : E.code 48 = some A48) (hp : E.prim 48 = none) : ShOK E 48 w48 := shW_ok (A := { pts := [], lps := [], cuts := [(3, [(3, 4001, [0, 3, 5]), (3, 4002, [0, 3, 6, 8])])] }) (S := T48) e hp (by kernel_rfl) (by kernel_rfl) (by kernel_rfl)

@[irreducible] noncomputable def A49 : AFun := (compFn Tryz.prog Tryz.f49).getD ⟨0, [], .skip⟩
noncomputable def w49 : Sh := shW 2 fun call n K => pA2 (s49 call n) K
theorem w49_ok {E : Env} (e : E.code 49 = some A49) (hp : E.prim 49 = none) : ShOK E 49 w49 := shW_ok (A := { pts := [], lps := [] }) (S := noS) e hp (by kernel_rfl) (by kernel_rfl) (by kernel_rfl)

noncomputable def T50 (call : CallFn) (n : Nat) (K : Kont) : Sp := {
  pt := fun β j => ifF j 4001 (pA1 (p50_4001 call n) K) <| ifF j 6001 (pA2 (p50_6001 call n) K) <| noP
  fs := fun β j => noP
  rd := fun β j => noP
  lp := fun β j m => noP }
@[irreducible] noncomputable def A50 : AFun := (compFn Tryz.prog Tryz.f50).getD ⟨0, [], .skip⟩
noncomputable def w50 : Sh := shW 2 fun call n K => pA2 (s50 call n) K
theorem w50_ok {E : Env} (e : E.code 50 = some A50) (hp : E.prim 50 = none) : ShOK E 50 w50 := shW_ok (A := { pts := [], lps := [], cuts := [(3, [(3, 4001, [8])]), (5, [(7, 6001, [12, 15])])] }) (S := T50) e hp (by kernel_rfl) (by kernel_rfl) (by kernel_rfl)

@[irreducible] noncomputable def A52 : AFun := (compFn Tryz.prog Tryz.f52).getD ⟨0, [], .skip⟩
noncomputable def w52 : Sh := shW 2 fun call n K => pA2 (s52 call n) K
theorem w52_ok {E : Env} (e : E.code 52 = some A52) (hp : E.prim 52 = none) : ShOK E 52 w52 := shW_ok (A := { pts := [], lps := [] }) (S := noS) e hp (by kernel_rfl) (by kernel_rfl) (by kernel_rfl)

noncomputable def T53 (call : CallFn) (n : Nat) (K : Kont) : Sp := {
  pt := fun β j => ifF j 4001 (pA3 (p53_4001 call n) K) <| noP
  fs := fun β j => noP
  rd := fun β j => noP
  lp := fun β j m => noP }
@[irreducible] noncomputable def A53 : AFun := (compFn Tryz.prog Tryz.f53).getD ⟨0, [], .skip⟩
noncomputable def w53 : Sh := shW 1 fun call n K => pA1 (s53 call n) K
theorem w53_ok {E : Env} (e : E.code 53 = some A53) (hp : E.prim 53 = none) : ShOK E 53 w53 := shW_ok (A := { pts := [], lps := [], cuts := [(3, [(3, 4001, [0, 3, 5])])] }) (S := T53) e hp (by kernel_rfl) (by kernel_rfl) (by kernel_rfl)

noncomputable def T55 (call : CallFn) (n : Nat) (K : Kont) : Sp := {
  pt := fun β j => ifF j 30 (pA3 (p55_30 call n (pF3 (pB 0 β))) K) <| ifF j 31001 (pA4 (p55_31001 call n (pF3 (pB 0 β))) K) <| noP
  fs := fun β j => noP
  rd := fun β j => ifF j 5 (pA3 (b55_5 call n (pF3 (pB 0 β))) K) <| ifF j 11 (pA6 (b55_11 call n (pF3 (pB 1 β)) (pF6 (pB 0 β))) K) <| noP
  lp := fun β j m => ifL j 5 (pC3 (l55_5 call n m) K) <| ifL j 11 (pC6 (l55_11 call n (pF3 (pB 0 β)) m) K) <| noP }
@[irreducible] noncomputable def A55 : AFun := (compFn Tryz.prog Tryz.f55).getD ⟨0, [], .skip⟩
noncomputable def w55 : Sh := shW 2 fun call n K => pA2 (s55 call n) K
theorem w55_ok {E : Env} (e : E.code 55 = some A55) (hp : E.prim 55 = none) : ShOK E 55 w55 := shW_ok (A := { pts := [(30, [0, 1, 5])], lps := [(5, [0, 1, 5]), (11, [0, 1, 5, 8, 9, 10])], cuts := [(30, [(3, 31001, [0, 1, 19, 21])])] }) (S := T55) e hp (by kernel_rfl) (by kernel_rfl) (by kernel_rfl)

noncomputable def T57 (call : CallFn) (n : Nat) (K : Kont) : Sp := {
  pt := fun β j => ifF j 15 (pA2 (p57_15 call n) K) <| ifF j 8001 (pA6 (p57_8001 call n (pF4 (pB 0 β))) K) <| ifF j 8002 (pA6 (p57_8002 call n (pF4 (pB 0 β))) K) <| noP
  fs := fun β j => noP
  rd := fun β j => ifF j 4 (pA4 (b57_4 call n (pF4 (pB 0 β))) K) <| noP
  lp := fun β j m => ifL j 4 (pC4 (l57_4 call n m) K) <| noP }
@[irreducible] noncomputable def A57 : AFun := (compFn Tryz.prog Tryz.f57).getD ⟨0, [], .skip⟩
noncomputable def w57 : Sh := shW 3 fun call n K => pA3 (s57 call n) K
theorem w57_ok {E : Env} (e : E.code 57 = some A57) (hp : E.prim 57 = none) : ShOK E 57 w57 := shW_ok (A := { pts := [(15, [0, 1])], lps := [(4, [0, 1, 2, 6])], cuts := [(7, [(5, 8001, [0, 1, 2, 6, 8, 11]), (8, 8002, [0, 1, 2, 14, 17, 19])])] }) (S := T57) e hp (by kernel_rfl) (by kernel_rfl) (by kernel_rfl)

@[irreducible] noncomputable def A60 : AFun := (compFn Tryz.prog Tryz.f60).getD ⟨0, [], .skip⟩
noncomputable def w60 : Sh := shW 1 fun call n K => pA1 (s60 call n) K
theorem w60_ok {E : Env} (e : E.code 60 = some A60) (hp : E.prim 60 = none) : ShOK E 60 w60 := shW_ok (A := { pts := [], lps := [] }) (S := noS) e hp (by kernel_rfl) (by kernel_rfl) (by kernel_rfl)

@[irreducible] noncomputable def A62 : AFun := (compFn Tryz.prog Tryz.f62).getD ⟨0, [], .skip⟩
noncomputable def w62 : Sh := shW 1 fun call n K => pA1 (s62 call n) K
theorem w62_ok {E : Env} (e : E.code 62 = some A62) (hp : E.prim 62 = none) : ShOK E 62 w62 := shW_ok (A := { pts := [], lps := [] }) (S := noS) e hp (by kernel_rfl) (by kernel_rfl) (by kernel_rfl)

@[irreducible] noncomputable def A63 : AFun := (compFn Tryz.prog Tryz.f63).getD ⟨0, [], .skip⟩
noncomputable def w63 : Sh := shW 2 fun call n K => pA2 (s63 call n) K
theorem w63_ok {E : Env} (e : E.code 63 = some A63) (hp : E.prim 63 = none) : ShOK E 63 w63 := shW_ok (A := { pts := [], lps := [] }) (S := noS) e hp (by kernel_rfl) (by kernel_rfl) (by kernel_rfl)

noncomputable def T64 (call : CallFn) (n : Nat) (K : Kont) : Sp := {
  pt := fun β j => ifF j 156 (pA1 (p64_156 call n) K) <| noP
  fs := fun β j => noP
  rd := fun β j => noP
  lp := fun β j m => noP }
@[irreducible] noncomputable def A64 : AFun := (compFn Tryz.prog Tryz.f64).getD ⟨0, [], .skip⟩
noncomputable def w64 : Sh := shW 1 fun call n K => pA1 (s64 call n) K
theorem w64_ok {E : Env} (e : E.code 64 = some A64) (hp : E.prim 64 = none) : ShOK E 64 w64 := shW_ok (A := { pts := [(156, [4])], lps := [] }) (S := T64) e hp (by kernel_rfl) (by kernel_rfl) (by kernel_rfl)

@[irreducible] noncomputable def A65 : AFun := (compFn Tryz.prog Tryz.f65).getD ⟨0, [], .skip⟩
noncomputable def w65 : Sh := shW 1 fun call n K => pA1 (s65 call n) K
theorem w65_ok {E : Env} (e : E.code 65 = some A65) (hp : E.prim 65 = none) : ShOK E 65 w65 := shW_ok (A := { pts := [], lps := [] }) (S := noS) e hp (by kernel_rfl) (by kernel_rfl) (by kernel_rfl)

@[irreducible] noncomputable def A66 : AFun := (compFn Tryz.prog Tryz.f66).getD ⟨0, [], .skip⟩
noncomputable def w66 : Sh := shW 2 fun call n K => pA2 (s66 call n) K
theorem w66_ok {E : Env} (e : E.code 66 = some A66) (hp : E.prim 66 = none) : ShOK E 66 w66 := shW_ok (A := { pts := [], lps := [] }) (S := noS) e hp (by kernel_rfl) (by kernel_rfl) (by kernel_rfl)

noncomputable def T67 (call : CallFn) (n : Nat) (K : Kont) : Sp := {
  pt := fun β j => ifF j 4001 (pA2 (p67_4001 call n) K) <| noP
  fs := fun β j => noP
  rd := fun β j => noP
  lp := fun β j m => noP }
@[irreducible] noncomputable def A67 : AFun := (compFn Tryz.prog Tryz.f67).getD ⟨0, [], .skip⟩
noncomputable def w67 : Sh := shW 2 fun call n K => pA2 (s67 call n) K
theorem w67_ok {E : Env} (e : E.code 67 = some A67) (hp : E.prim 67 = none) : ShOK E 67 w67 := shW_ok (A := { pts := [], lps := [], cuts := [(3, [(2, 4001, [1, 6])])] }) (S := T67) e hp (by kernel_rfl) (by kernel_rfl) (by kernel_rfl)

noncomputable def T69 (call : CallFn) (n : Nat) (K : Kont) : Sp := {
  pt := fun β j => ifF j 9001 (pA2 (p69_9001 call n) K) <| ifF j 15001 (pA2 (p69_15001 call n) K) <| ifF j 23001 (pA3 (p69_23001 call n) K) <| ifF j 27001 (pA4 (p69_27001 call n) K) <| ifF j 37001 (pA2 (p69_37001 call n) K) <| ifF j 45001 (pA3 (p69_45001 call n) K) <| ifF j 55001 (pA2 (p69_55001 call n) K) <| ifF j 61001 (pA2 (p69_61001 call n) K) <| ifF j 64001 (pA3 (p69_64001 call n) K) <| ifF j 64002 (pA4 (p69_64002 call n) K) <| ifF j 67001 (pA3 (p69_67001 call n) K) <| ifF j 71001 (pA3 (p69_71001 call n) K) <| ifF j 77001 (pA2 (p69_77001 call n) K) <| noP
  fs := fun β j => noP
  rd := fun β j => noP
  lp := fun β j m => noP }
@[irreducible] noncomputable def A69 : AFun := (compFn Tryz.prog Tryz.f69).getD ⟨0, [], .skip⟩
noncomputable def w69 : Sh := shW 1 fun call n K => pA1 (s69 call n) K
theorem w69_ok {E : Env} (e : E.code 69 = some A69) (hp : E.prim 69 = none) : ShOK E 69 w69 := shW_ok (A := { pts := [], lps := [], cuts := [(8, [(2, 9001, [2, 10])]), (14, [(2, 15001, [2, 16])]), (22, [(3, 23001, [0, 2, 25])]), (26, [(3, 27001, [0, 2, 3, 32])]), (36, [(2, 37001, [2, 41])]), (44, [(2, 45001, [0, 2, 48])]), (54, [(2, 55001, [2, 57])]), (60, [(2, 61001, [2, 62])]), (63, [(2, 64001, [0, 2, 65]), (3, 64002, [0, 2, 66, 68])]), (66, [(2, 67001, [0, 2, 72])]), (70, [(2, 71001, [2, 5, 78])]), (76, [(2, 77001, [2, 82])])] }) (S := T69) e hp (by kernel_rfl) (by kernel_rfl) (by kernel_rfl)

noncomputable def T72 (call : CallFn) (n : Nat) (K : Kont) : Sp := {
  pt := fun β j => ifF j 13001 (pA3 (p72_13001 call n (pF2 (pB 0 β))) K) <| ifF j 27001 (pA3 (p72_27001 call n (pF2 (pB 0 β))) K) <| noP
  fs := fun β j => noP
  rd := fun β j => ifF j 1 (pA2 (b72_1 call n (pF2 (pB 0 β))) K) <| noP
  lp := fun β j m => ifL j 1 (pC2 (l72_1 call n m) K) <| noP }
@[irreducible] noncomputable def A72 : AFun := (compFn Tryz.prog Tryz.f72).getD ⟨0, [], .skip⟩
noncomputable def w72 : Sh := shW 2 fun call n K => pA2 (s72 call n) K
theorem w72_ok {E : Env} (e : E.code 72 = some A72) (hp : E.prim 72 = none) : ShOK E 72 w72 := shW_ok (A := { pts := [], lps := [(1, [0, 1])], cuts := [(12, [(2, 13001, [0, 1, 19])]), (26, [(3, 27001, [0, 1, 49])])] }) (S := T72) e hp (by kernel_rfl) (by kernel_rfl) (by kernel_rfl)

noncomputable def T73 (call : CallFn) (n : Nat) (K : Kont) : Sp := {
  pt := fun β j => ifF j 23 (pA2 (p73_23 call n (pF1 (pB 0 β))) K) <| ifF j 49 (pA2 (p73_49 call n (pF1 (pB 0 β))) K) <| ifF j 14001 (pA3 (p73_14001 call n (pF1 (pB 0 β))) K) <| ifF j 40001 (pA3 (p73_40001 call n (pF1 (pB 0 β))) K) <| noP
  fs := fun β j => ifF j 0 (pA1 (f73_0 call n (pF1 (pB 0 β))) K) <| noP
  rd := fun β j => ifF j 0 (pA1 (j73_0 call n (pF1 (pB 0 β))) K) <| noP
  lp := fun β j m => ifL j 0 (pC1 (g73_0 call n m) K) <| noP }
@[irreducible] noncomputable def A73 : AFun := (compFn Tryz.prog Tryz.f73).getD ⟨0, [], .skip⟩
noncomputable def w73 : Sh := shW 1 fun call n K => pA1 (s73 call n) K
theorem w73_ok {E : Env} (e : E.code 73 = some A73) (hp : E.prim 73 = none) : ShOK E 73 w73 := shW_ok (A := { pts := [(23, [0, 3]), (49, [0, 3])], lps := [(0, [0])], scs := [(0, [0])], cuts := [(13, [(5, 14001, [0, 31, 33])]), (39, [(5, 40001, [0, 31, 33])])] }) (S := T73) e hp (by kernel_rfl) (by kernel_rfl) (by kernel_rfl)

noncomputable def T74 (call : CallFn) (n : Nat) (K : Kont) : Sp := {
  pt := fun β j => ifF j 15001 (pA3 (p74_15001 call n) K) <| ifF j 27001 (pA3 (p74_27001 call n) K) <| ifF j 39001 (pA3 (p74_39001 call n) K) <| ifF j 45001 (pA2 (p74_45001 call n) K) <| ifF j 53001 (pA3 (p74_53001 call n) K) <| noP
  fs := fun β j => noP
  rd := fun β j => noP
  lp := fun β j m => noP }
@[irreducible] noncomputable def A74 : AFun := (compFn Tryz.prog Tryz.f74).getD ⟨0, [], .skip⟩
noncomputable def w74 : Sh := shW 1 fun call n K => pA1 (s74 call n) K
theorem w74_ok {E : Env} (e : E.code 74 = some A74) (hp : E.prim 74 = none) : ShOK E 74 w74 := shW_ok (A := { pts := [], lps := [], cuts := [(14, [(3, 15001, [2, 3, 18])]), (26, [(3, 27001, [2, 3, 30])]), (38, [(3, 39001, [2, 3, 42])]), (44, [(2, 45001, [2, 50])]), (52, [(3, 53001, [2, 3, 60])])] }) (S := T74) e hp (by kernel_rfl) (by kernel_rfl) (by kernel_rfl)

noncomputable def T78 (call : CallFn) (n : Nat) (K : Kont) : Sp := {
  pt := fun β j => ifF j 4001 (pA3 (p78_4001 call n) K) <| noP
  fs := fun β j => noP
  rd := fun β j => noP
  lp := fun β j m => noP }
@[irreducible] noncomputable def A78 : AFun := (compFn Tryz.prog Tryz.f78).getD ⟨0, [], .skip⟩
noncomputable def w78 : Sh := shW 2 fun call n K => pA2 (s78 call n) K
theorem w78_ok {E : Env} (e : E.code 78 = some A78) (hp : E.prim 78 = none) : ShOK E 78 w78 := shW_ok (A := { pts := [], lps := [], cuts := [(3, [(2, 4001, [0, 1, 7])])] }) (S := T78) e hp (by kernel_rfl) (by kernel_rfl) (by kernel_rfl)

noncomputable def T79 (call : CallFn) (n : Nat) (K : Kont) : Sp := {
  pt := fun β j => ifF j 25 (pA3 (p79_25 call n) K) <| noP
  fs := fun β j => noP
  rd := fun β j => ifF j 14 (pA4 (b79_14 call n (pF4 (pB 0 β))) K) <| noP
  lp := fun β j m => ifL j 14 (pC4 (l79_14 call n m) K) <| noP }
@[irreducible] noncomputable def A79 : AFun := (compFn Tryz.prog Tryz.f79).getD ⟨0, [], .skip⟩
noncomputable def w79 : Sh := shW 1 fun call n K => pA1 (s79 call n) K
theorem w79_ok {E : Env} (e : E.code 79 = some A79) (hp : E.prim 79 = none) : ShOK E 79 w79 := shW_ok (A := { pts := [(25, [0, 2, 3])], lps := [(14, [0, 2, 3, 4])] }) (S := T79) e hp (by kernel_rfl) (by kernel_rfl) (by kernel_rfl)

noncomputable def T82 (call : CallFn) (n : Nat) (K : Kont) : Sp := {
  pt := fun β j => ifF j 12 (pA3 (p82_12 call n) K) <| ifF j 10001 (pA4 (p82_10001 call n) K) <| ifF j 14001 (pA4 (p82_14001 call n) K) <| noP
  fs := fun β j => noP
  rd := fun β j => noP
  lp := fun β j m => noP }
@[irreducible] noncomputable def A82 : AFun := (compFn Tryz.prog Tryz.f82).getD ⟨0, [], .skip⟩
noncomputable def w82 : Sh := shW 1 fun call n K => pA1 (s82 call n) K
theorem w82_ok {E : Env} (e : E.code 82 = some A82) (hp : E.prim 82 = none) : ShOK E 82 w82 := shW_ok (A := { pts := [(12, [1, 2, 3])], lps := [], cuts := [(9, [(2, 10001, [1, 2, 3, 8])]), (13, [(2, 14001, [1, 2, 3, 14])])] }) (S := T82) e hp (by kernel_rfl) (by kernel_rfl) (by kernel_rfl)

@[irreducible] noncomputable def A85 : AFun := (compFn Tryz.prog Tryz.f85).getD ⟨0, [], .skip⟩
noncomputable def w85 : Sh := shW 2 fun call n K => pA2 (s85 call n) K
theorem w85_ok {E : Env} (e : E.code 85 = some A85) (hp : E.prim 85 = none) : ShOK E 85 w85 := shW_ok (A := { pts := [], lps := [] }) (S := noS) e hp (by kernel_rfl) (by kernel_rfl) (by kernel_rfl)

@[irreducible] noncomputable def A86 : AFun := (compFn Tryz.prog Tryz.f86).getD ⟨0, [], .skip⟩
noncomputable def w86 : Sh := shW 2 fun call n K => pA2 (s86 call n) K
theorem w86_ok {E : Env} (e : E.code 86 = some A86) (hp : E.prim 86 = none) : ShOK E 86 w86 := shW_ok (A := { pts := [], lps := [] }) (S := noS) e hp (by kernel_rfl) (by kernel_rfl) (by kernel_rfl)

@[irreducible] noncomputable def A87 : AFun := (compFn Tryz.prog Tryz.f87).getD ⟨0, [], .skip⟩
noncomputable def w87 : Sh := shW 3 fun call n K => pA3 (s87 call n) K
theorem w87_ok {E : Env} (e : E.code 87 = some A87) (hp : E.prim 87 = none) : ShOK E 87 w87 := shW_ok (A := { pts := [], lps := [] }) (S := noS) e hp (by kernel_rfl) (by kernel_rfl) (by kernel_rfl)

@[irreducible] noncomputable def A88 : AFun := (compFn Tryz.prog Tryz.f88).getD ⟨0, [], .skip⟩
noncomputable def w88 : Sh := shW 1 fun call n K => pA1 (s88 call n) K
theorem w88_ok {E : Env} (e : E.code 88 = some A88) (hp : E.prim 88 = none) : ShOK E 88 w88 := shW_ok (A := { pts := [], lps := [] }) (S := noS) e hp (by kernel_rfl) (by kernel_rfl) (by kernel_rfl)

noncomputable def T89 (call : CallFn) (n : Nat) (K : Kont) : Sp := {
  pt := fun β j => ifF j 5001 (pA3 (p89_5001 call n) K) <| ifF j 5002 (pA3 (p89_5002 call n) K) <| noP
  fs := fun β j => noP
  rd := fun β j => noP
  lp := fun β j m => noP }
@[irreducible] noncomputable def A89 : AFun := (compFn Tryz.prog Tryz.f89).getD ⟨0, [], .skip⟩
noncomputable def w89 : Sh := shW 2 fun call n K => pA2 (s89 call n) K
theorem w89_ok {E : Env} (e : E.code 89 = some A89) (hp : E.prim 89 = none) : ShOK E 89 w89 := shW_ok (A := { pts := [], lps := [], cuts := [(4, [(3, 5001, [0, 1, 7]), (1, 5002, [0, 1, 8])])] }) (S := T89) e hp (by kernel_rfl) (by kernel_rfl) (by kernel_rfl)

@[irreducible] noncomputable def A90 : AFun := (compFn Tryz.prog Tryz.f90).getD ⟨0, [], .skip⟩
noncomputable def w90 : Sh := shW 1 fun call n K => pA1 (s90 call n) K
theorem w90_ok {E : Env} (e : E.code 90 = some A90) (hp : E.prim 90 = none) : ShOK E 90 w90 := shW_ok (A := { pts := [], lps := [] }) (S := noS) e hp (by kernel_rfl) (by kernel_rfl) (by kernel_rfl)

noncomputable def T91 (call : CallFn) (n : Nat) (K : Kont) : Sp := {
  pt := fun β j => noP
  fs := fun β j => noP
  rd := fun β j => ifF j 6 (pA4 (b91_6 call n (pF4 (pB 0 β))) K) <| noP
  lp := fun β j m => ifL j 6 (pC4 (l91_6 call n m) K) <| noP }
@[irreducible] noncomputable def A91 : AFun := (compFn Tryz.prog Tryz.f91).getD ⟨0, [], .skip⟩
noncomputable def w91 : Sh := shW 3 fun call n K => pA3 (s91 call n) K
theorem w91_ok {E : Env} (e : E.code 91 = some A91) (hp : E.prim 91 = none) : ShOK E 91 w91 := shW_ok (A := { pts := [], lps := [(6, [0, 1, 2, 7])] }) (S := T91) e hp (by kernel_rfl) (by kernel_rfl) (by kernel_rfl)

noncomputable def T92 (call : CallFn) (n : Nat) (K : Kont) : Sp := {
  pt := fun β j => ifF j 49 (pA3 (p92_49 call n (pF3 (pB 0 β))) K) <| ifF j 25001 (pA2 (p92_25001 call n (pF3 (pB 0 β))) K) <| ifF j 33001 (pA4 (p92_33001 call n (pF3 (pB 0 β))) K) <| noP
  fs := fun β j => noP
  rd := fun β j => ifF j 8 (pA3 (b92_8 call n (pF3 (pB 0 β))) K) <| noP
  lp := fun β j m => ifL j 8 (pC3 (l92_8 call n m) K) <| noP }
@[irreducible] noncomputable def A92 : AFun := (compFn Tryz.prog Tryz.f92).getD ⟨0, [], .skip⟩
noncomputable def w92 : Sh := shW 1 fun call n K => pA1 (s92 call n) K
theorem w92_ok {E : Env} (e : E.code 92 = some A92) (hp : E.prim 92 = none) : ShOK E 92 w92 := shW_ok (A := { pts := [(49, [0, 4, 5])], lps := [(8, [0, 4, 5])], cuts := [(24, [(1, 25001, [5, 30])]), (32, [(3, 33001, [0, 4, 5, 40])])] }) (S := T92) e hp (by kernel_rfl) (by kernel_rfl) (by kernel_rfl)

noncomputable def T93 (call : CallFn) (n : Nat) (K : Kont) : Sp := {
  pt := fun β j => ifF j 25 (pA1 (p93_25 call n) K) <| noP
  fs := fun β j => noP
  rd := fun β j => ifF j 6 (pA4 (b93_6 call n (pF4 (pB 0 β))) K) <| noP
  lp := fun β j m => ifL j 6 (pC4 (l93_6 call n m) K) <| noP }
@[irreducible] noncomputable def A93 : AFun := (compFn Tryz.prog Tryz.f93).getD ⟨0, [], .skip⟩
noncomputable def w93 : Sh := shW 1 fun call n K => pA1 (s93 call n) K
theorem w93_ok {E : Env} (e : E.code 93 = some A93) (hp : E.prim 93 = none) : ShOK E 93 w93 := shW_ok (A := { pts := [(25, [0])], lps := [(6, [0, 5, 6, 7])] }) (S := T93) e hp (by kernel_rfl) (by kernel_rfl) (by kernel_rfl)

@[irreducible] noncomputable def A103 : AFun := (compFn Tryz.prog Tryz.f103).getD ⟨0, [], .skip⟩
noncomputable def w103 : Sh := shW 2 fun call n K => pA2 (s103 call n) K
theorem w103_ok {E : Env} (e : E.code 103 = some A103) (hp : E.prim 103 = none) : ShOK E 103 w103 := shW_ok (A := { pts := [], lps := [] }) (S := noS) e hp (by kernel_rfl) (by kernel_rfl) (by kernel_rfl)

noncomputable def T104 (call : CallFn) (n : Nat) (K : Kont) : Sp := {
  pt := fun β j => ifF j 4001 (pA2 (p104_4001 call n) K) <| ifF j 4002 (pA3 (p104_4002 call n) K) <| noP
  fs := fun β j => noP
  rd := fun β j => noP
  lp := fun β j m => noP }
@[irreducible] noncomputable def A104 : AFun := (compFn Tryz.prog Tryz.f104).getD ⟨0, [], .skip⟩
noncomputable def w104 : Sh := shW 1 fun call n K => pA1 (s104 call n) K
theorem w104_ok {E : Env} (e : E.code 104 = some A104) (hp : E.prim 104 = none) : ShOK E 104 w104 := shW_ok (A := { pts := [], lps := [], cuts := [(3, [(2, 4001, [0, 4]), (3, 4002, [0, 5, 7])])] }) (S := T104) e hp (by kernel_rfl) (by kernel_rfl) (by kernel_rfl)

@[irreducible] noncomputable def A105 : AFun := (compFn Tryz.prog Tryz.f105).getD ⟨0, [], .skip⟩
noncomputable def w105 : Sh := shW 1 fun call n K => pA1 (s105 call n) K
theorem w105_ok {E : Env} (e : E.code 105 = some A105) (hp : E.prim 105 = none) : ShOK E 105 w105 := shW_ok (A := { pts := [], lps := [] }) (S := noS) e hp (by kernel_rfl) (by kernel_rfl) (by kernel_rfl)

@[irreducible] noncomputable def A106 : AFun := (compFn Tryz.prog Tryz.f106).getD ⟨0, [], .skip⟩
noncomputable def w106 : Sh := shW 2 fun call n K => pA2 (s106 call n) K
theorem w106_ok {E : Env} (e : E.code 106 = some A106) (hp : E.prim 106 = none) : ShOK E 106 w106 := shW_ok (A := { pts := [], lps := [] }) (S := noS) e hp (by kernel_rfl) (by kernel_rfl) (by kernel_rfl)

@[irreducible] noncomputable def A107 : AFun := (compFn Tryz.prog Tryz.f107).getD ⟨0, [], .skip⟩
noncomputable def w107 : Sh := shW 2 fun call n K => pA2 (s107 call n) K
theorem w107_ok {E : Env} (e : E.code 107 = some A107) (hp : E.prim 107 = none) : ShOK E 107 w107 := shW_ok (A := { pts := [], lps := [] }) (S := noS) e hp (by kernel_rfl) (by kernel_rfl) (by kernel_rfl)

noncomputable def T115 (call : CallFn) (n : Nat) (K : Kont) : Sp := {
  pt := fun β j => ifF j 4001 (pA2 (p115_4001 call n) K) <| noP
  fs := fun β j => noP
  rd := fun β j => noP
  lp := fun β j m => noP }
@[irreducible] noncomputable def A115 : AFun := (compFn Tryz.prog Tryz.f115).getD ⟨0, [], .skip⟩
noncomputable def w115 : Sh := shW 1 fun call n K => pA1 (s115 call n) K
theorem w115_ok {E : Env} (e : E.code 115 = some A115) (hp : E.prim 115 = none) : ShOK E 115 w115 := shW_ok (A := { pts := [], lps := [], cuts := [(3, [(4, 4001, [7, 10])])] }) (S := T115) e hp (by kernel_rfl) (by kernel_rfl) (by kernel_rfl)

@[irreducible] noncomputable def A116 : AFun := (compFn Tryz.prog Tryz.f116).getD ⟨0, [], .skip⟩
noncomputable def w116 : Sh := shW 2 fun call n K => pA2 (s116 call n) K
theorem w116_ok {E : Env} (e : E.code 116 = some A116) (hp : E.prim 116 = none) : ShOK E 116 w116 := shW_ok (A := { pts := [], lps := [] }) (S := noS) e hp (by kernel_rfl) (by kernel_rfl) (by kernel_rfl)

end Go.Proofs.YtgmdelacokkenaaGreatDoor
