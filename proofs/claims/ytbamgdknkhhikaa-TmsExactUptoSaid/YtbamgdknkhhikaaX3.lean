/-
  Texts that the claim hangs on, part 4.
-/
import Derived.Test.YtbamgdknkhhikaaX2
import Derived.Test.YtbamgdknkhhikaaProg
import Derived.KernelRfl
import Derived.Sort.Grow
import Derived.Deep.Draws
import Derived.Laws.Externs
import Derived.Lib.Builder
import Derived.Shelf.SlSortCmp.NoneTotal
import Derived.Lib.SortBridge
namespace Go.Proofs.Ytbamgdknkhhikaa
open Go.Ab
set_option linter.unusedVariables false
noncomputable def T3 (call : CallFn) (n : Nat) (K : Kont) : Sp := {
  pt := fun β j => ifF j 10 (pA1 (p3_10 call n) K) <| ifF j 20 (pA2 (p3_20 call n) K) <| ifF j 33 (pA4 (p3_33 call n (pF4 (pB 0 β))) K) <| ifF j 72 (pA8 (p3_72 call n (pF4 (pB 0 β))) K) <| ifF j 100 (pA10 (p3_100 call n (pF4 (pB 1 β)) (pF10 (pB 0 β))) K) <| ifF j 101 (pA7 (p3_101 call n (pF4 (pB 0 β))) K) <| ifF j 115 (pA5 (p3_115 call n (pF4 (pB 0 β))) K) <| ifF j 125 (pA5 (p3_125 call n (pF4 (pB 0 β))) K) <| ifF j 149 (pA4 (p3_149 call n (pF4 (pB 0 β))) K) <| ifF j 150 (pA2 (p3_150 call n) K) <| noP
  fs := fun β j => noP
  rd := fun β j => ifF j 26 (pA4 (b3_26 call n (pF4 (pB 0 β))) K) <| ifF j 78 (pA10 (b3_78 call n (pF4 (pB 1 β)) (pF10 (pB 0 β))) K) <| ifF j 128 (pA6 (b3_128 call n (pF4 (pB 1 β)) (pF6 (pB 0 β))) K) <| noP
  lp := fun β j m => ifL j 26 (pC4 (l3_26 call n m) K) <| ifL j 78 (pC10 (l3_78 call n (pF4 (pB 0 β)) m) K) <| ifL j 128 (pC6 (l3_128 call n (pF4 (pB 0 β)) m) K) <| noP }
@[irreducible] noncomputable def A3 : AFun := (compFn Try.prog Try.f3).getD ⟨0, [], .skip⟩
def w3 : Sh := shW 1 fun call n K => pA1 (s3 call n) K
theorem w3_ok {E : Env} (e : E.code 3 = some A3) : ShOK E 3 w3 := shW_ok (A := { pts := [(10, [1]), (20, [1, 3]), (33, [1, 3, 4, 5]), (72, [1, 3, 4, 5, 6, 8, 9, 10]), (100, [1, 3, 4, 5, 6, 8, 9, 10, 11, 12]), (101, [1, 3, 4, 5, 6, 9, 11]), (115, [1, 3, 4, 5, 6]), (125, [1, 3, 4, 5, 13]), (149, [1, 3, 4, 5]), (150, [3, 4])], lps := [(26, [1, 3, 4, 5]), (78, [1, 3, 4, 5, 6, 8, 9, 10, 11, 12]), (128, [1, 3, 4, 5, 13, 14])] }) (S := T3) e (by kernel_rfl) (by kernel_rfl)
noncomputable def T6 (call : CallFn) (n : Nat) (K : Kont) : Sp := {
  pt := fun β j => ifF j 15 (pA3 (p6_15 call n (pF3 (pB 0 β))) K) <| ifF j 33 (pA3 (p6_33 call n (pF3 (pB 0 β))) K) <| ifF j 34 (pA1 (p6_34 call n) K) <| noP
  fs := fun β j => noP
  rd := fun β j => ifF j 8 (pA3 (b6_8 call n (pF3 (pB 0 β))) K) <| ifF j 22 (pA4 (b6_22 call n (pF3 (pB 1 β)) (pF4 (pB 0 β))) K) <| noP
  lp := fun β j m => ifL j 8 (pC3 (l6_8 call n m) K) <| ifL j 22 (pC4 (l6_22 call n (pF3 (pB 0 β)) m) K) <| noP }
@[irreducible] noncomputable def A6 : AFun := (compFn Try.prog Try.f6).getD ⟨0, [], .skip⟩
def w6 : Sh := shW 1 fun call n K => pA1 (s6 call n) K
theorem w6_ok {E : Env} (e : E.code 6 = some A6) : ShOK E 6 w6 := shW_ok (A := { pts := [(15, [1, 3, 4]), (33, [1, 3, 4]), (34, [3])], lps := [(8, [1, 3, 4]), (22, [1, 3, 4, 5])] }) (S := T6) e (by kernel_rfl) (by kernel_rfl)
@[irreducible] noncomputable def A8 : AFun := (compFn Try.prog Try.f8).getD ⟨0, [], .skip⟩
def w8 : Sh := shW 0 fun call n K => pA0 (s8 call n) K
theorem w8_ok {E : Env} (e : E.code 8 = some A8) : ShOK E 8 w8 := shW_ok (A := { pts := [], lps := [] }) (S := noS) e (by kernel_rfl) (by kernel_rfl)
noncomputable def T9 (call : CallFn) (n : Nat) (K : Kont) : Sp := {
  pt := fun β j => noP
  fs := fun β j => noP
  rd := fun β j => ifF j 8 (pA3 (b9_8 call n (pF3 (pB 0 β))) K) <| noP
  lp := fun β j m => ifL j 8 (pC3 (l9_8 call n m) K) <| noP }
@[irreducible] noncomputable def A9 : AFun := (compFn Try.prog Try.f9).getD ⟨0, [], .skip⟩
def w9 : Sh := shW 1 fun call n K => pA1 (s9 call n) K
theorem w9_ok {E : Env} (e : E.code 9 = some A9) : ShOK E 9 w9 := shW_ok (A := { pts := [], lps := [(8, [0, 3, 4])] }) (S := T9) e (by kernel_rfl) (by kernel_rfl)
noncomputable def T10 (call : CallFn) (n : Nat) (K : Kont) : Sp := {
  pt := fun β j => ifF j 20 (pA4 (p10_20 call n) K) <| ifF j 28 (pA3 (p10_28 call n) K) <| ifF j 36 (pA3 (p10_36 call n) K) <| noP
  fs := fun β j => noP
  rd := fun β j => noP
  lp := fun β j m => noP }
@[irreducible] noncomputable def A10 : AFun := (compFn Try.prog Try.f10).getD ⟨0, [], .skip⟩
def w10 : Sh := shW 3 fun call n K => pA3 (s10 call n) K
theorem w10_ok {E : Env} (e : E.code 10 = some A10) : ShOK E 10 w10 := shW_ok (A := { pts := [(20, [0, 5, 7, 8]), (28, [0, 7, 8]), (36, [0, 7, 8])], lps := [] }) (S := T10) e (by kernel_rfl) (by kernel_rfl)
noncomputable def T11 (call : CallFn) (n : Nat) (K : Kont) : Sp := {
  pt := fun β j => ifF j 10 (pA4 (p11_10 call n) K) <| ifF j 31 (pA4 (p11_31 call n) K) <| ifF j 42 (pA5 (p11_42 call n (pF5 (pB 0 β))) K) <| ifF j 64 (pA5 (p11_64 call n (pF5 (pB 0 β))) K) <| ifF j 65 (pA4 (p11_65 call n) K) <| ifF j 86 (pA4 (p11_86 call n) K) <| ifF j 94 (pA2 (p11_94 call n) K) <| noP
  fs := fun β j => noP
  rd := fun β j => ifF j 14 (pA5 (b11_14 call n (pF5 (pB 0 β))) K) <| ifF j 35 (pA5 (b11_35 call n (pF5 (pB 0 β))) K) <| ifF j 47 (pA6 (b11_47 call n (pF5 (pB 1 β)) (pF6 (pB 0 β))) K) <| ifF j 69 (pA5 (b11_69 call n (pF5 (pB 0 β))) K) <| noP
  lp := fun β j m => ifL j 14 (pC5 (l11_14 call n m) K) <| ifL j 35 (pC5 (l11_35 call n m) K) <| ifL j 47 (pC6 (l11_47 call n (pF5 (pB 0 β)) m) K) <| ifL j 69 (pC5 (l11_69 call n m) K) <| noP }
@[irreducible] noncomputable def A11 : AFun := (compFn Try.prog Try.f11).getD ⟨0, [], .skip⟩
def w11 : Sh := shW 4 fun call n K => pA4 (s11 call n) K
theorem w11_ok {E : Env} (e : E.code 11 = some A11) : ShOK E 11 w11 := shW_ok (A := { pts := [(10, [0, 1, 2, 7]), (31, [0, 1, 2, 7]), (42, [0, 1, 2, 7, 10]), (64, [0, 1, 2, 7, 10]), (65, [0, 1, 2, 7]), (86, [0, 1, 2, 7]), (94, [0, 7])], lps := [(14, [0, 1, 2, 7, 9]), (35, [0, 1, 2, 7, 10]), (47, [0, 1, 2, 7, 10, 11]), (69, [0, 1, 2, 7, 12])] }) (S := T11) e (by kernel_rfl) (by kernel_rfl)
noncomputable def T12 (call : CallFn) (n : Nat) (K : Kont) : Sp := {
  pt := fun β j => ifF j 17 (pA1 (p12_17 call n) K) <| noP
  fs := fun β j => noP
  rd := fun β j => ifF j 4 (pA2 (b12_4 call n (pF2 (pB 0 β))) K) <| noP
  lp := fun β j m => ifL j 4 (pC2 (l12_4 call n m) K) <| noP }
@[irreducible] noncomputable def A12 : AFun := (compFn Try.prog Try.f12).getD ⟨0, [], .skip⟩
def w12 : Sh := shW 1 fun call n K => pA1 (s12 call n) K
theorem w12_ok {E : Env} (e : E.code 12 = some A12) : ShOK E 12 w12 := shW_ok (A := { pts := [(17, [0])], lps := [(4, [0, 2])] }) (S := T12) e (by kernel_rfl) (by kernel_rfl)
noncomputable def T13 (call : CallFn) (n : Nat) (K : Kont) : Sp := {
  pt := fun β j => ifF j 10 (pA2 (p13_10 call n) K) <| ifF j 27 (pA3 (p13_27 call n) K) <| ifF j 42 (pA6 (p13_42 call n (pF6 (pB 0 β))) K) <| ifF j 66 (pA6 (p13_66 call n (pF6 (pB 0 β))) K) <| ifF j 67 (pA2 (p13_67 call n) K) <| noP
  fs := fun β j => noP
  rd := fun β j => ifF j 16 (pA4 (b13_16 call n (pF4 (pB 0 β))) K) <| ifF j 35 (pA6 (b13_35 call n (pF6 (pB 0 β))) K) <| ifF j 54 (pA8 (b13_54 call n (pF6 (pB 1 β)) (pF8 (pB 0 β))) K) <| noP
  lp := fun β j m => ifL j 16 (pC4 (l13_16 call n m) K) <| ifL j 35 (pC6 (l13_35 call n m) K) <| ifL j 54 (pC8 (l13_54 call n (pF6 (pB 0 β)) m) K) <| noP }
@[irreducible] noncomputable def A13 : AFun := (compFn Try.prog Try.f13).getD ⟨0, [], .skip⟩
def w13 : Sh := shW 2 fun call n K => pA2 (s13 call n) K
theorem w13_ok {E : Env} (e : E.code 13 = some A13) : ShOK E 13 w13 := shW_ok (A := { pts := [(10, [1, 2]), (27, [1, 2, 5]), (42, [1, 2, 7, 34, 35, 36]), (66, [1, 2, 7, 34, 35, 36]), (67, [2, 7])], lps := [(16, [1, 2, 5, 18]), (35, [1, 2, 7, 34, 35, 36]), (54, [1, 2, 7, 9, 34, 35, 36, 58])] }) (S := T13) e (by kernel_rfl) (by kernel_rfl)
@[irreducible] noncomputable def A14 : AFun := (compFn Try.prog Try.f14).getD ⟨0, [], .skip⟩
def w14 : Sh := shW 3 fun call n K => pA3 (s14 call n) K
theorem w14_ok {E : Env} (e : E.code 14 = some A14) : ShOK E 14 w14 := shW_ok (A := { pts := [], lps := [] }) (S := noS) e (by kernel_rfl) (by kernel_rfl)
noncomputable def T15 (call : CallFn) (n : Nat) (K : Kont) : Sp := {
  pt := fun β j => noP
  fs := fun β j => noP
  rd := fun β j => ifF j 6 (pA3 (b15_6 call n (pF3 (pB 0 β))) K) <| noP
  lp := fun β j m => ifL j 6 (pC3 (l15_6 call n m) K) <| noP }
@[irreducible] noncomputable def A15 : AFun := (compFn Try.prog Try.f15).getD ⟨0, [], .skip⟩
def w15 : Sh := shW 2 fun call n K => pA2 (s15 call n) K
theorem w15_ok {E : Env} (e : E.code 15 = some A15) : ShOK E 15 w15 := shW_ok (A := { pts := [], lps := [(6, [0, 1, 5])] }) (S := T15) e (by kernel_rfl) (by kernel_rfl)
@[irreducible] noncomputable def A16 : AFun := (compFn Try.prog Try.f16).getD ⟨0, [], .skip⟩
def w16 : Sh := shW 1 fun call n K => pA1 (s16 call n) K
theorem w16_ok {E : Env} (e : E.code 16 = some A16) : ShOK E 16 w16 := shW_ok (A := { pts := [], lps := [] }) (S := noS) e (by kernel_rfl) (by kernel_rfl)
@[irreducible] noncomputable def A17 : AFun := (compFn Try.prog Try.f17).getD ⟨0, [], .skip⟩
def w17 : Sh := shW 2 fun call n K => pA2 (s17 call n) K
theorem w17_ok {E : Env} (e : E.code 17 = some A17) : ShOK E 17 w17 := shW_ok (A := { pts := [], lps := [] }) (S := noS) e (by kernel_rfl) (by kernel_rfl)
noncomputable def T18 (call : CallFn) (n : Nat) (K : Kont) : Sp := {
  pt := fun β j => ifF j 22 (pA4 (p18_22 call n (pF4 (pB 0 β))) K) <| ifF j 23 (pA2 (p18_23 call n) K) <| noP
  fs := fun β j => noP
  rd := fun β j => ifF j 8 (pA4 (b18_8 call n (pF4 (pB 0 β))) K) <| noP
  lp := fun β j m => ifL j 8 (pC4 (l18_8 call n m) K) <| noP }
@[irreducible] noncomputable def A18 : AFun := (compFn Try.prog Try.f18).getD ⟨0, [], .skip⟩
def w18 : Sh := shW 2 fun call n K => pA2 (s18 call n) K
theorem w18_ok {E : Env} (e : E.code 18 = some A18) : ShOK E 18 w18 := shW_ok (A := { pts := [(22, [0, 3, 5, 6]), (23, [0, 5])], lps := [(8, [0, 3, 5, 6])] }) (S := T18) e (by kernel_rfl) (by kernel_rfl)
noncomputable def T19 (call : CallFn) (n : Nat) (K : Kont) : Sp := {
  pt := fun β j => ifF j 12 (pA3 (p19_12 call n) K) <| noP
  fs := fun β j => noP
  rd := fun β j => ifF j 18 (pA4 (b19_18 call n (pF4 (pB 0 β))) K) <| noP
  lp := fun β j m => ifL j 18 (pC4 (l19_18 call n m) K) <| noP }
@[irreducible] noncomputable def A19 : AFun := (compFn Try.prog Try.f19).getD ⟨0, [], .skip⟩
def w19 : Sh := shW 2 fun call n K => pA2 (s19 call n) K
theorem w19_ok {E : Env} (e : E.code 19 = some A19) : ShOK E 19 w19 := shW_ok (A := { pts := [(12, [0, 3, 5])], lps := [(18, [0, 3, 6, 31])] }) (S := T19) e (by kernel_rfl) (by kernel_rfl)
noncomputable def T20 (call : CallFn) (n : Nat) (K : Kont) : Sp := {
  pt := fun β j => ifF j 22 (pA5 (p20_22 call n (pF5 (pB 0 β))) K) <| ifF j 23 (pA2 (p20_23 call n) K) <| noP
  fs := fun β j => noP
  rd := fun β j => ifF j 8 (pA5 (b20_8 call n (pF5 (pB 0 β))) K) <| noP
  lp := fun β j m => ifL j 8 (pC5 (l20_8 call n m) K) <| noP }
@[irreducible] noncomputable def A20 : AFun := (compFn Try.prog Try.f20).getD ⟨0, [], .skip⟩
def w20 : Sh := shW 3 fun call n K => pA3 (s20 call n) K
theorem w20_ok {E : Env} (e : E.code 20 = some A20) : ShOK E 20 w20 := shW_ok (A := { pts := [(22, [0, 1, 2, 7, 8]), (23, [0, 7])], lps := [(8, [0, 1, 2, 7, 8])] }) (S := T20) e (by kernel_rfl) (by kernel_rfl)
noncomputable def T21 (call : CallFn) (n : Nat) (K : Kont) : Sp := {
  pt := fun β j => ifF j 19 (pA1 (p21_19 call n) K) <| noP
  fs := fun β j => noP
  rd := fun β j => ifF j 8 (pA2 (b21_8 call n (pF2 (pB 0 β))) K) <| ifF j 27 (pA4 (b21_27 call n (pF4 (pB 0 β))) K) <| noP
  lp := fun β j m => ifL j 8 (pC2 (l21_8 call n m) K) <| ifL j 27 (pC4 (l21_27 call n m) K) <| noP }
@[irreducible] noncomputable def A21 : AFun := (compFn Try.prog Try.f21).getD ⟨0, [], .skip⟩
def w21 : Sh := shW 1 fun call n K => pA1 (s21 call n) K
theorem w21_ok {E : Env} (e : E.code 21 = some A21) : ShOK E 21 w21 := shW_ok (A := { pts := [(19, [3])], lps := [(8, [3, 13]), (27, [6, 24, 25, 26])] }) (S := T21) e (by kernel_rfl) (by kernel_rfl)
@[irreducible] noncomputable def A22 : AFun := (compFn Try.prog Try.f22).getD ⟨0, [], .skip⟩
def w22 : Sh := shW 1 fun call n K => pA1 (s22 call n) K
theorem w22_ok {E : Env} (e : E.code 22 = some A22) : ShOK E 22 w22 := shW_ok (A := { pts := [], lps := [] }) (S := noS) e (by kernel_rfl) (by kernel_rfl)
@[irreducible] noncomputable def A23 : AFun := (compFn Try.prog Try.f23).getD ⟨0, [], .skip⟩
def w23 : Sh := shW 1 fun call n K => pA1 (s23 call n) K
theorem w23_ok {E : Env} (e : E.code 23 = some A23) : ShOK E 23 w23 := shW_ok (A := { pts := [], lps := [] }) (S := noS) e (by kernel_rfl) (by kernel_rfl)
@[irreducible] noncomputable def A24 : AFun := (compFn Try.prog Try.f24).getD ⟨0, [], .skip⟩
def w24 : Sh := shW 2 fun call n K => pA2 (s24 call n) K
theorem w24_ok {E : Env} (e : E.code 24 = some A24) : ShOK E 24 w24 := shW_ok (A := { pts := [], lps := [] }) (S := noS) e (by kernel_rfl) (by kernel_rfl)
noncomputable def T25 (call : CallFn) (n : Nat) (K : Kont) : Sp := {
  pt := fun β j => ifF j 22 (pA5 (p25_22 call n (pF5 (pB 0 β))) K) <| noP
  fs := fun β j => noP
  rd := fun β j => ifF j 8 (pA5 (b25_8 call n (pF5 (pB 0 β))) K) <| noP
  lp := fun β j m => ifL j 8 (pC5 (l25_8 call n m) K) <| noP }
@[irreducible] noncomputable def A25 : AFun := (compFn Try.prog Try.f25).getD ⟨0, [], .skip⟩
def w25 : Sh := shW 3 fun call n K => pA3 (s25 call n) K
theorem w25_ok {E : Env} (e : E.code 25 = some A25) : ShOK E 25 w25 := shW_ok (A := { pts := [(22, [0, 1, 2, 7, 8])], lps := [(8, [0, 1, 2, 7, 8])] }) (S := T25) e (by kernel_rfl) (by kernel_rfl)
@[irreducible] noncomputable def A26 : AFun := (compFn Try.prog Try.f26).getD ⟨0, [], .skip⟩
def w26 : Sh := shW 2 fun call n K => pA2 (s26 call n) K
theorem w26_ok {E : Env} (e : E.code 26 = some A26) : ShOK E 26 w26 := shW_ok (A := { pts := [], lps := [] }) (S := noS) e (by kernel_rfl) (by kernel_rfl)
noncomputable def T27 (call : CallFn) (n : Nat) (K : Kont) : Sp := {
  pt := fun β j => ifF j 10 (pA2 (p27_10 call n) K) <| noP
  fs := fun β j => noP
  rd := fun β j => ifF j 14 (pA3 (b27_14 call n (pF3 (pB 0 β))) K) <| noP
  lp := fun β j m => ifL j 14 (pC3 (l27_14 call n m) K) <| noP }
@[irreducible] noncomputable def A27 : AFun := (compFn Try.prog Try.f27).getD ⟨0, [], .skip⟩
def w27 : Sh := shW 2 fun call n K => pA2 (s27 call n) K
theorem w27_ok {E : Env} (e : E.code 27 = some A27) : ShOK E 27 w27 := shW_ok (A := { pts := [(10, [0, 1])], lps := [(14, [0, 1, 5])] }) (S := T27) e (by kernel_rfl) (by kernel_rfl)
@[irreducible] noncomputable def A32 : AFun := (compFn Try.prog Try.f32).getD ⟨0, [], .skip⟩
def w32 : Sh := shW 1 fun call n K => pA1 (s32 call n) K
theorem w32_ok {E : Env} (e : E.code 32 = some A32) : ShOK E 32 w32 := shW_ok (A := { pts := [], lps := [] }) (S := noS) e (by kernel_rfl) (by kernel_rfl)
@[irreducible] noncomputable def A34 : AFun := (compFn Try.prog Try.f34).getD ⟨0, [], .skip⟩
def w34 : Sh := shW 1 fun call n K => pA1 (s34 call n) K
theorem w34_ok {E : Env} (e : E.code 34 = some A34) : ShOK E 34 w34 := shW_ok (A := { pts := [], lps := [] }) (S := noS) e (by kernel_rfl) (by kernel_rfl)
@[irreducible] noncomputable def A35 : AFun := (compFn Try.prog Try.f35).getD ⟨0, [], .skip⟩
def w35 : Sh := shW 1 fun call n K => pA1 (s35 call n) K
theorem w35_ok {E : Env} (e : E.code 35 = some A35) : ShOK E 35 w35 := shW_ok (A := { pts := [], lps := [] }) (S := noS) e (by kernel_rfl) (by kernel_rfl)
@[irreducible] noncomputable def A36 : AFun := (compFn Try.prog Try.f36).getD ⟨0, [], .skip⟩
def w36 : Sh := shW 2 fun call n K => pA2 (s36 call n) K
theorem w36_ok {E : Env} (e : E.code 36 = some A36) : ShOK E 36 w36 := shW_ok (A := { pts := [], lps := [] }) (S := noS) e (by kernel_rfl) (by kernel_rfl)
@[irreducible] noncomputable def A37 : AFun := (compFn Try.prog Try.f37).getD ⟨0, [], .skip⟩
def w37 : Sh := shW 1 fun call n K => pA1 (s37 call n) K
theorem w37_ok {E : Env} (e : E.code 37 = some A37) : ShOK E 37 w37 := shW_ok (A := { pts := [], lps := [] }) (S := noS) e (by kernel_rfl) (by kernel_rfl)
noncomputable def T38 (call : CallFn) (n : Nat) (K : Kont) : Sp := {
  pt := fun β j => ifF j 23 (pA3 (p38_23 call n) K) <| noP
  fs := fun β j => noP
  rd := fun β j => ifF j 8 (pA6 (b38_8 call n (pF6 (pB 0 β))) K) <| noP
  lp := fun β j m => ifL j 8 (pC6 (l38_8 call n m) K) <| noP }
@[irreducible] noncomputable def A38 : AFun := (compFn Try.prog Try.f38).getD ⟨0, [], .skip⟩
def w38 : Sh := shW 1 fun call n K => pA1 (s38 call n) K
theorem w38_ok {E : Env} (e : E.code 38 = some A38) : ShOK E 38 w38 := shW_ok (A := { pts := [(23, [1, 2, 3])], lps := [(8, [1, 2, 3, 9, 10, 11])] }) (S := T38) e (by kernel_rfl) (by kernel_rfl)
@[irreducible] noncomputable def A39 : AFun := (compFn Try.prog Try.f39).getD ⟨0, [], .skip⟩
def w39 : Sh := shW 1 fun call n K => pA1 (s39 call n) K
theorem w39_ok {E : Env} (e : E.code 39 = some A39) : ShOK E 39 w39 := shW_ok (A := { pts := [], lps := [] }) (S := noS) e (by kernel_rfl) (by kernel_rfl)
noncomputable def T40 (call : CallFn) (n : Nat) (K : Kont) : Sp := {
  pt := fun β j => noP
  fs := fun β j => noP
  rd := fun β j => ifF j 8 (pA4 (b40_8 call n (pF4 (pB 0 β))) K) <| noP
  lp := fun β j m => ifL j 8 (pC4 (l40_8 call n m) K) <| noP }
@[irreducible] noncomputable def A40 : AFun := (compFn Try.prog Try.f40).getD ⟨0, [], .skip⟩
def w40 : Sh := shW 1 fun call n K => pA1 (s40 call n) K
theorem w40_ok {E : Env} (e : E.code 40 = some A40) : ShOK E 40 w40 := shW_ok (A := { pts := [], lps := [(8, [3, 6, 7, 8])] }) (S := T40) e (by kernel_rfl) (by kernel_rfl)
noncomputable def T41 (call : CallFn) (n : Nat) (K : Kont) : Sp := {
  pt := fun β j => ifF j 23 (pA3 (p41_23 call n) K) <| ifF j 40 (pA2 (p41_40 call n) K) <| noP
  fs := fun β j => noP
  rd := fun β j => ifF j 8 (pA6 (b41_8 call n (pF6 (pB 0 β))) K) <| ifF j 27 (pA5 (b41_27 call n (pF5 (pB 0 β))) K) <| noP
  lp := fun β j m => ifL j 8 (pC6 (l41_8 call n m) K) <| ifL j 27 (pC5 (l41_27 call n m) K) <| noP }
@[irreducible] noncomputable def A41 : AFun := (compFn Try.prog Try.f41).getD ⟨0, [], .skip⟩
def w41 : Sh := shW 1 fun call n K => pA1 (s41 call n) K
theorem w41_ok {E : Env} (e : E.code 41 = some A41) : ShOK E 41 w41 := shW_ok (A := { pts := [(23, [1, 2, 3]), (40, [2, 3])], lps := [(8, [1, 2, 3, 12, 13, 14]), (27, [2, 3, 30, 31, 32])] }) (S := T41) e (by kernel_rfl) (by kernel_rfl)
@[irreducible] noncomputable def A42 : AFun := (compFn Try.prog Try.f42).getD ⟨0, [], .skip⟩
def w42 : Sh := shW 1 fun call n K => pA1 (s42 call n) K
theorem w42_ok {E : Env} (e : E.code 42 = some A42) : ShOK E 42 w42 := shW_ok (A := { pts := [], lps := [] }) (S := noS) e (by kernel_rfl) (by kernel_rfl)
noncomputable def T43 (call : CallFn) (n : Nat) (K : Kont) : Sp := {
  pt := fun β j => noP
  fs := fun β j => noP
  rd := fun β j => ifF j 6 (pA4 (b43_6 call n (pF4 (pB 0 β))) K) <| noP
  lp := fun β j m => ifL j 6 (pC4 (l43_6 call n m) K) <| noP }
@[irreducible] noncomputable def A43 : AFun := (compFn Try.prog Try.f43).getD ⟨0, [], .skip⟩
def w43 : Sh := shW 3 fun call n K => pA3 (s43 call n) K
theorem w43_ok {E : Env} (e : E.code 43 = some A43) : ShOK E 43 w43 := shW_ok (A := { pts := [], lps := [(6, [0, 1, 2, 7])] }) (S := T43) e (by kernel_rfl) (by kernel_rfl)
noncomputable def T44 (call : CallFn) (n : Nat) (K : Kont) : Sp := {
  pt := fun β j => noP
  fs := fun β j => noP
  rd := fun β j => ifF j 6 (pA3 (b44_6 call n (pF3 (pB 0 β))) K) <| noP
  lp := fun β j m => ifL j 6 (pC3 (l44_6 call n m) K) <| noP }
@[irreducible] noncomputable def A44 : AFun := (compFn Try.prog Try.f44).getD ⟨0, [], .skip⟩
def w44 : Sh := shW 2 fun call n K => pA2 (s44 call n) K
theorem w44_ok {E : Env} (e : E.code 44 = some A44) : ShOK E 44 w44 := shW_ok (A := { pts := [], lps := [(6, [0, 3, 5])] }) (S := T44) e (by kernel_rfl) (by kernel_rfl)
noncomputable def T45 (call : CallFn) (n : Nat) (K : Kont) : Sp := {
  pt := fun β j => ifF j 19 (pA1 (p45_19 call n) K) <| noP
  fs := fun β j => noP
  rd := fun β j => ifF j 6 (pA2 (b45_6 call n (pF2 (pB 0 β))) K) <| noP
  lp := fun β j m => ifL j 6 (pC2 (l45_6 call n m) K) <| noP }
@[irreducible] noncomputable def A45 : AFun := (compFn Try.prog Try.f45).getD ⟨0, [], .skip⟩
def w45 : Sh := shW 1 fun call n K => pA1 (s45 call n) K
theorem w45_ok {E : Env} (e : E.code 45 = some A45) : ShOK E 45 w45 := shW_ok (A := { pts := [(19, [1])], lps := [(6, [1, 2])] }) (S := T45) e (by kernel_rfl) (by kernel_rfl)
@[irreducible] noncomputable def A47 : AFun := (compFn Try.prog Try.f47).getD ⟨0, [], .skip⟩
def w47 : Sh := shW 3 fun call n K => pA3 (s47 call n) K
theorem w47_ok {E : Env} (e : E.code 47 = some A47) : ShOK E 47 w47 := shW_ok (A := { pts := [], lps := [] }) (S := noS) e (by kernel_rfl) (by kernel_rfl)
noncomputable def T48 (call : CallFn) (n : Nat) (K : Kont) : Sp := {
  pt := fun β j => ifF j 16 (pA3 (p48_16 call n) K) <| noP
  fs := fun β j => noP
  rd := fun β j => noP
  lp := fun β j m => noP }
@[irreducible] noncomputable def A48 : AFun := (compFn Try.prog Try.f48).getD ⟨0, [], .skip⟩
def w48 : Sh := shW 3 fun call n K => pA3 (s48 call n) K
theorem w48_ok {E : Env} (e : E.code 48 = some A48) : ShOK E 48 w48 := shW_ok (A := { pts := [(16, [0, 5, 7])], lps := [] }) (S := T48) e (by kernel_rfl) (by kernel_rfl)
noncomputable def T49 (call : CallFn) (n : Nat) (K : Kont) : Sp := {
  pt := fun β j => ifF j 10 (pA2 (p49_10 call n) K) <| noP
  fs := fun β j => noP
  rd := fun β j => ifF j 14 (pA3 (b49_14 call n (pF3 (pB 0 β))) K) <| noP
  lp := fun β j m => ifL j 14 (pC3 (l49_14 call n m) K) <| noP }
@[irreducible] noncomputable def A49 : AFun := (compFn Try.prog Try.f49).getD ⟨0, [], .skip⟩
def w49 : Sh := shW 2 fun call n K => pA2 (s49 call n) K
theorem w49_ok {E : Env} (e : E.code 49 = some A49) : ShOK E 49 w49 := shW_ok (A := { pts := [(10, [0, 1])], lps := [(14, [0, 1, 5])] }) (S := T49) e (by kernel_rfl) (by kernel_rfl)
noncomputable def T50 (call : CallFn) (n : Nat) (K : Kont) : Sp := {
  pt := fun β j => ifF j 20 (pA3 (p50_20 call n (pF3 (pB 0 β))) K) <| ifF j 21 (pA2 (p50_21 call n) K) <| ifF j 36 (pA3 (p50_36 call n (pF3 (pB 0 β))) K) <| ifF j 55 (pA4 (p50_55 call n (pF3 (pB 0 β))) K) <| ifF j 60 (pA3 (p50_60 call n (pF3 (pB 0 β))) K) <| ifF j 61 (pA2 (p50_61 call n) K) <| noP
  fs := fun β j => noP
  rd := fun β j => ifF j 6 (pA3 (b50_6 call n (pF3 (pB 0 β))) K) <| ifF j 29 (pA3 (b50_29 call n (pF3 (pB 0 β))) K) <| ifF j 44 (pA5 (b50_44 call n (pF3 (pB 1 β)) (pF5 (pB 0 β))) K) <| noP
  lp := fun β j m => ifL j 6 (pC3 (l50_6 call n m) K) <| ifL j 29 (pC3 (l50_29 call n m) K) <| ifL j 44 (pC5 (l50_44 call n (pF3 (pB 0 β)) m) K) <| noP }
@[irreducible] noncomputable def A50 : AFun := (compFn Try.prog Try.f50).getD ⟨0, [], .skip⟩
def w50 : Sh := shW 1 fun call n K => pA1 (s50 call n) K
theorem w50_ok {E : Env} (e : E.code 50 = some A50) : ShOK E 50 w50 := shW_ok (A := { pts := [(20, [0, 2, 3]), (21, [0, 2]), (36, [0, 4, 5]), (55, [0, 4, 5, 6]), (60, [0, 4, 5]), (61, [0, 4])], lps := [(6, [0, 2, 3]), (29, [0, 4, 5]), (44, [0, 4, 5, 6, 7])] }) (S := T50) e (by kernel_rfl) (by kernel_rfl)
@[irreducible] noncomputable def A52 : AFun := (compFn Try.prog Try.f52).getD ⟨0, [], .skip⟩
def w52 : Sh := shW 2 fun call n K => pA2 (s52 call n) K
theorem w52_ok {E : Env} (e : E.code 52 = some A52) : ShOK E 52 w52 := shW_ok (A := { pts := [], lps := [] }) (S := noS) e (by kernel_rfl) (by kernel_rfl)
@[irreducible] noncomputable def A53 : AFun := (compFn Try.prog Try.f53).getD ⟨0, [], .skip⟩
def w53 : Sh := shW 2 fun call n K => pA2 (s53 call n) K
theorem w53_ok {E : Env} (e : E.code 53 = some A53) : ShOK E 53 w53 := shW_ok (A := { pts := [], lps := [] }) (S := noS) e (by kernel_rfl) (by kernel_rfl)
noncomputable def T54 (call : CallFn) (n : Nat) (K : Kont) : Sp := {
  pt := fun β j => ifF j 10 (pA2 (p54_10 call n) K) <| noP
  fs := fun β j => noP
  rd := fun β j => ifF j 16 (pA4 (b54_16 call n (pF4 (pB 0 β))) K) <| noP
  lp := fun β j m => ifL j 16 (pC4 (l54_16 call n m) K) <| noP }
@[irreducible] noncomputable def A54 : AFun := (compFn Try.prog Try.f54).getD ⟨0, [], .skip⟩
def w54 : Sh := shW 2 fun call n K => pA2 (s54 call n) K
theorem w54_ok {E : Env} (e : E.code 54 = some A54) : ShOK E 54 w54 := shW_ok (A := { pts := [(10, [0, 1])], lps := [(16, [0, 1, 5, 6])] }) (S := T54) e (by kernel_rfl) (by kernel_rfl)
@[irreducible] noncomputable def A55 : AFun := (compFn Try.prog Try.f55).getD ⟨0, [], .skip⟩
def w55 : Sh := shW 2 fun call n K => pA2 (s55 call n) K
theorem w55_ok {E : Env} (e : E.code 55 = some A55) : ShOK E 55 w55 := shW_ok (A := { pts := [], lps := [] }) (S := noS) e (by kernel_rfl) (by kernel_rfl)
@[irreducible] noncomputable def A56 : AFun := (compFn Try.prog Try.f56).getD ⟨0, [], .skip⟩
def w56 : Sh := shW 1 fun call n K => pA1 (s56 call n) K
theorem w56_ok {E : Env} (e : E.code 56 = some A56) : ShOK E 56 w56 := shW_ok (A := { pts := [], lps := [] }) (S := noS) e (by kernel_rfl) (by kernel_rfl)
@[irreducible] noncomputable def A57 : AFun := (compFn Try.prog Try.f57).getD ⟨0, [], .skip⟩
def w57 : Sh := shW 1 fun call n K => pA1 (s57 call n) K
theorem w57_ok {E : Env} (e : E.code 57 = some A57) : ShOK E 57 w57 := shW_ok (A := { pts := [], lps := [] }) (S := noS) e (by kernel_rfl) (by kernel_rfl)
noncomputable def T58 (call : CallFn) (n : Nat) (K : Kont) : Sp := {
  pt := fun β j => noP
  fs := fun β j => noP
  rd := fun β j => ifF j 6 (pA4 (b58_6 call n (pF4 (pB 0 β))) K) <| noP
  lp := fun β j m => ifL j 6 (pC4 (l58_6 call n m) K) <| noP }
@[irreducible] noncomputable def A58 : AFun := (compFn Try.prog Try.f58).getD ⟨0, [], .skip⟩
def w58 : Sh := shW 2 fun call n K => pA2 (s58 call n) K
theorem w58_ok {E : Env} (e : E.code 58 = some A58) : ShOK E 58 w58 := shW_ok (A := { pts := [], lps := [(6, [0, 1, 7, 8])] }) (S := T58) e (by kernel_rfl) (by kernel_rfl)
@[irreducible] noncomputable def A59 : AFun := (compFn Try.prog Try.f59).getD ⟨0, [], .skip⟩
def w59 : Sh := shW 1 fun call n K => pA1 (s59 call n) K
theorem w59_ok {E : Env} (e : E.code 59 = some A59) : ShOK E 59 w59 := shW_ok (A := { pts := [], lps := [] }) (S := noS) e (by kernel_rfl) (by kernel_rfl)
noncomputable def T60 (call : CallFn) (n : Nat) (K : Kont) : Sp := {
  pt := fun β j => ifF j 17 (pA5 (p60_17 call n (pF5 (pB 0 β))) K) <| ifF j 45 (pA5 (p60_45 call n (pF5 (pB 0 β))) K) <| ifF j 46 (pA1 (p60_46 call n) K) <| noP
  fs := fun β j => noP
  rd := fun β j => ifF j 10 (pA5 (b60_10 call n (pF5 (pB 0 β))) K) <| ifF j 30 (pA8 (b60_30 call n (pF5 (pB 1 β)) (pF8 (pB 0 β))) K) <| noP
  lp := fun β j m => ifL j 10 (pC5 (l60_10 call n m) K) <| ifL j 30 (pC8 (l60_30 call n (pF5 (pB 0 β)) m) K) <| noP }
@[irreducible] noncomputable def A60 : AFun := (compFn Try.prog Try.f60).getD ⟨0, [], .skip⟩
def w60 : Sh := shW 1 fun call n K => pA1 (s60 call n) K
theorem w60_ok {E : Env} (e : E.code 60 = some A60) : ShOK E 60 w60 := shW_ok (A := { pts := [(17, [3, 4, 12, 13, 14]), (45, [3, 4, 12, 13, 14]), (46, [3])], lps := [(10, [3, 4, 12, 13, 14]), (30, [3, 4, 12, 13, 14, 32, 33, 34])] }) (S := T60) e (by kernel_rfl) (by kernel_rfl)
@[irreducible] noncomputable def A61 : AFun := (compFn Try.prog Try.f61).getD ⟨0, [], .skip⟩
def w61 : Sh := shW 1 fun call n K => pA1 (s61 call n) K
theorem w61_ok {E : Env} (e : E.code 61 = some A61) : ShOK E 61 w61 := shW_ok (A := { pts := [], lps := [] }) (S := noS) e (by kernel_rfl) (by kernel_rfl)
noncomputable def T62 (call : CallFn) (n : Nat) (K : Kont) : Sp := {
  pt := fun β j => ifF j 55 (pA2 (p62_55 call n) K) <| noP
  fs := fun β j => noP
  rd := fun β j => ifF j 59 (pA3 (b62_59 call n (pF3 (pB 0 β))) K) <| noP
  lp := fun β j m => ifL j 59 (pC3 (l62_59 call n m) K) <| noP }
@[irreducible] noncomputable def A62 : AFun := (compFn Try.prog Try.f62).getD ⟨0, [], .skip⟩
def w62 : Sh := shW 2 fun call n K => pA2 (s62 call n) K
theorem w62_ok {E : Env} (e : E.code 62 = some A62) : ShOK E 62 w62 := shW_ok (A := { pts := [(55, [1, 2])], lps := [(59, [1, 2, 9])] }) (S := T62) e (by kernel_rfl) (by kernel_rfl)
noncomputable def T66 (call : CallFn) (n : Nat) (K : Kont) : Sp := {
  pt := fun β j => noP
  fs := fun β j => noP
  rd := fun β j => ifF j 6 (pA4 (b66_6 call n (pF4 (pB 0 β))) K) <| noP
  lp := fun β j m => ifL j 6 (pC4 (l66_6 call n m) K) <| noP }
@[irreducible] noncomputable def A66 : AFun := (compFn Try.prog Try.f66).getD ⟨0, [], .skip⟩
def w66 : Sh := shW 2 fun call n K => pA2 (s66 call n) K
theorem w66_ok {E : Env} (e : E.code 66 = some A66) : ShOK E 66 w66 := shW_ok (A := { pts := [], lps := [(6, [0, 1, 7, 8])] }) (S := T66) e (by kernel_rfl) (by kernel_rfl)
noncomputable def T67 (call : CallFn) (n : Nat) (K : Kont) : Sp := {
  pt := fun β j => ifF j 39 (pA3 (p67_39 call n) K) <| ifF j 64 (pA2 (p67_64 call n) K) <| noP
  fs := fun β j => noP
  rd := fun β j => ifF j 42 (pA6 (b67_42 call n (pF6 (pB 0 β))) K) <| noP
  lp := fun β j m => ifL j 42 (pC6 (l67_42 call n m) K) <| noP }
@[irreducible] noncomputable def A67 : AFun := (compFn Try.prog Try.f67).getD ⟨0, [], .skip⟩
def w67 : Sh := shW 2 fun call n K => pA2 (s67 call n) K
theorem w67_ok {E : Env} (e : E.code 67 = some A67) : ShOK E 67 w67 := shW_ok (A := { pts := [(39, [1, 2, 5]), (64, [2, 5])], lps := [(42, [1, 2, 5, 47, 48, 49])] }) (S := T67) e (by kernel_rfl) (by kernel_rfl)
noncomputable def T68 (call : CallFn) (n : Nat) (K : Kont) : Sp := {
  pt := fun β j => ifF j 18 (pA4 (p68_18 call n) K) <| noP
  fs := fun β j => noP
  rd := fun β j => ifF j 32 (pA4 (b68_32 call n (pF4 (pB 0 β))) K) <| noP
  lp := fun β j m => ifL j 32 (pC4 (l68_32 call n m) K) <| noP }
@[irreducible] noncomputable def A68 : AFun := (compFn Try.prog Try.f68).getD ⟨0, [], .skip⟩
def w68 : Sh := shW 2 fun call n K => pA2 (s68 call n) K
theorem w68_ok {E : Env} (e : E.code 68 = some A68) : ShOK E 68 w68 := shW_ok (A := { pts := [(18, [0, 3, 14, 24])], lps := [(32, [0, 52, 53, 54])] }) (S := T68) e (by kernel_rfl) (by kernel_rfl)
noncomputable def T69 (call : CallFn) (n : Nat) (K : Kont) : Sp := {
  pt := fun β j => noP
  fs := fun β j => noP
  rd := fun β j => ifF j 3 (pA3 (b69_3 call n (pF3 (pB 0 β))) K) <| noP
  lp := fun β j m => ifL j 3 (pC3 (l69_3 call n m) K) <| noP }
@[irreducible] noncomputable def A69 : AFun := (compFn Try.prog Try.f69).getD ⟨0, [], .skip⟩
def w69 : Sh := shW 2 fun call n K => pA2 (s69 call n) K
theorem w69_ok {E : Env} (e : E.code 69 = some A69) : ShOK E 69 w69 := shW_ok (A := { pts := [], lps := [(3, [0, 1, 3])] }) (S := T69) e (by kernel_rfl) (by kernel_rfl)
@[irreducible] noncomputable def A88 : AFun := (compFn Try.prog Try.f88).getD ⟨0, [], .skip⟩
def w88 : Sh := shW 1 fun call n K => pA1 (s88 call n) K
theorem w88_ok {E : Env} (e : E.code 88 = some A88) : ShOK E 88 w88 := shW_ok (A := { pts := [], lps := [] }) (S := noS) e (by kernel_rfl) (by kernel_rfl)
noncomputable def T89 (call : CallFn) (n : Nat) (K : Kont) : Sp := {
  pt := fun β j => noP
  fs := fun β j => noP
  rd := fun β j => ifF j 6 (pA3 (b89_6 call n (pF3 (pB 0 β))) K) <| noP
  lp := fun β j m => ifL j 6 (pC3 (l89_6 call n m) K) <| noP }
@[irreducible] noncomputable def A89 : AFun := (compFn Try.prog Try.f89).getD ⟨0, [], .skip⟩
def w89 : Sh := shW 3 fun call n K => pA3 (s89 call n) K
theorem w89_ok {E : Env} (e : E.code 89 = some A89) : ShOK E 89 w89 := shW_ok (A := { pts := [], lps := [(6, [0, 1, 7])] }) (S := T89) e (by kernel_rfl) (by kernel_rfl)
end Go.Proofs.Ytbamgdknkhhikaa
namespace Go.Ab
set_option linter.unusedSimpArgs false
set_option linter.unusedVariables false
def PT.mapT {α : Type} (f : α → α) : PT α → PT α
  | .lf => .lf
  | .nd l v r => .nd (PT.mapT f l) (v.map f) (PT.mapT f r)
theorem PT.get_mapT {α : Type} (f : α → α) : ∀ (t : PT α) (n : Nat), (PT.mapT f t).get n = (t.get n).map f
  | .lf, n => rfl
  | .nd l v r, 0 => rfl
  | .nd l v r, k + 1 => by
    simp only [PT.mapT, PT.get]
    cases Nat.beq (Nat.mod k 2) 0 with
    | true => simp only [cond_true]; exact PT.get_mapT f l _
    | false => simp only [cond_false]; exact PT.get_mapT f r _
def frzO : AObj → AObj
  | .row r => .row { r with rw := false }
  | .map es c => .rmap es c
  | .rmap es c => .rmap es c
  | _ => .dead
def AHeap.frz (h : AHeap) : AHeap := { h with t := PT.mapT frzO h.t }
theorem AHeap.get_frz (h : AHeap) (id : Nat) : h.frz.get id = (h.get id).map frzO := PT.get_mapT _ _ _
theorem AHeap.row_frz {h : AHeap} {id : Nat} {r : Row} (e : h.row id = some r) : h.frz.row id = some { r with rw := false } := by
  rw [AHeap.row_some] at *
  rw [AHeap.get_frz, e]; rfl
theorem AHeap.Ok.frz {h : AHeap} (k : h.Ok) : h.frz.Ok := fun id hid => by rw [AHeap.get_frz, k id hid]; rfl
theorem RelO.frz {P : Program} {φ : Phi} {id : Nat} {o : AObj} {w : World} (h : RelO P φ id o w) : RelO P φ id (frzO o) w := by
  cases o with
  | row r => exact ⟨h.mg, h.sz, h.es, h.leaf, h.cur, h.gen, h.cells, (fun e => by cases e), (fun _ _ e => by cases e)⟩
  | map es c => exact h
  | rmap es c => exact h
  | iter m s l p => trivial
  | loop l => trivial
  | gone => trivial
  | dead => trivial
theorem own_frz (o : AObj) : (frzO o).own = false := by cases o <;> rfl
theorem RelH.frz {P : Program} {B : Base} {φ : Phi} {h : AHeap} {w : World} (H : RelH P B φ h w) : RelH P ⟨w.heap.size, fun id => (B.gh id).map frzO⟩ φ h.frz w := by
  refine ⟨Nat.le_refl _, H.dom, fun id hid => ?_, fun id hid => ?_, fun id o ho hd => ?_, H.lt, fun id o g L ho hL => ?_, fun id o id' g g' L L' ho hown _ _ _ => ?_, H.nodef, fun id o e => ?_⟩
  · obtain ⟨o, ho⟩ := H.there id hid
    exact ⟨frzO o, by rw [AHeap.get_frz, ho]; rfl⟩
  · rw [AHeap.get_frz, H.gone id hid]; rfl
  · rw [AHeap.get_frz] at ho
    cases hg : h.get id with
    | none => rw [hg] at ho; cases ho
    | some o' =>
      rw [hg] at ho
      cases ho
      refine (H.objn id o' hg ?_).frz
      cases hb : B.gh id with
      | none => rfl
      | some u => simp [hb] at hd
  · rw [AHeap.get_frz] at ho
    cases hg : h.get id with
    | none => rw [hg] at ho; cases ho
    | some o' =>
      rw [hg] at ho
      cases ho
      exact ⟨(fun e => by rw [own_frz] at e; cases e), fun _ => H.lt id g L hL⟩
  · rw [AHeap.get_frz] at ho
    cases hg : h.get id with
    | none => rw [hg] at ho; cases ho
    | some o' =>
      rw [hg] at ho
      cases ho
      rw [own_frz] at hown; cases hown
  · cases hb : B.gh id with
    | none => simp [hb] at e
    | some u =>
      simp only [hb, Option.map_some, Option.some.injEq] at e
      subst e
      obtain ⟨h1, h2⟩ := H.ghost id u hb
      exact ⟨by rw [AHeap.get_frz, h1]; rfl, h2⟩
theorem Gw.grown {w w' : World} (g : Gw w.heap.size w w') : ∃ q os, w' = Go.Sort.grow (w.drewN q) os := by
  refine ⟨w'.drawn - w.drawn, w'.heap.extract w.heap.size w'.heap.size, ?_⟩
  have h1 := g.os
  have h2 := g.tape
  have h3 := g.output
  have h4 := g.drawn
  have h5 : w'.heap = w.heap ++ w'.heap.extract w.heap.size w'.heap.size := by
    apply Array.ext_getElem?
    intro k
    have hs := g.size
    by_cases hk : k < w.heap.size
    · rw [g.below k hk, Array.getElem?_append_left hk]
    · rw [Array.getElem?_append_right (by omega), Array.getElem?_extract]
      by_cases hk2 : k < w'.heap.size
      · rw [if_pos (by omega), show w.heap.size + (k - w.heap.size) = k by omega]
      · rw [if_neg (by omega), Array.getElem?_eq_none (by omega)]
  obtain ⟨hp, tp, dr, os, out⟩ := w
  obtain ⟨hp', tp', dr', os', out'⟩ := w'
  simp only at h1 h2 h3 h4 h5
  subst h1; subst h2; subst h3
  unfold Go.Sort.grow World.drewN
  simp only
  rw [← h5, show dr + (dr' - dr) = dr' by omega]
theorem Gw.ahead (B : Nat) (w : World) (n : Nat) : Gw B w (Go.Sort.ahead w n) := ⟨rfl, rfl, Nat.le_add_right _ _, rfl, Nat.le_refl _, fun _ _ => rfl, fun _ _ h => h, fun _ r h => ⟨r, h⟩⟩
theorem Gw.grow {B : Nat} {w : World} (hB : B ≤ w.heap.size) (os : Array Obj) : Gw B w (Go.Sort.grow w os) := by
  have old : ∀ k : Nat, k < w.heap.size → (Go.Sort.grow w os).heap[k]? = w.heap[k]? := fun k hk => Go.Sort.heap_grow_old w os hk
  refine ⟨rfl, rfl, Nat.le_refl _, rfl, ?_, fun k hk => old k (by omega), fun k ds hk => ?_, fun k r hk => ⟨r, ?_⟩⟩
  · show w.heap.size ≤ (w.heap ++ os).size
    rw [Array.size_append]; omega
  · rw [old k (Array.getElem?_eq_some_iff.1 hk).1]; exact hk
  · rw [old k (Array.getElem?_eq_some_iff.1 hk).1]; exact hk
theorem RelH.grow {P : Program} {B : Base} {φ : Phi} {h : AHeap} {w : World} (H : RelH P B φ h w) (os : Array Obj) : RelH P B φ h (Go.Sort.grow w os) :=
  H.keep (by show w.heap.size ≤ (w.heap ++ os).size; rw [Array.size_append]; omega) fun id g L hL => Go.Sort.heap_grow_old w os (H.lt id g L hL)
end Go.Ab
namespace Go.Ab
set_option linter.unusedSimpArgs false
set_option linter.unusedVariables false
abbrev Prim := CallFn → Nat → List AV → AHeap → Kont → Bool
def lookP : List (Nat × Prim) → Nat → Option Prim
  | [], _ => none
  | (k, p) :: l, f => bif Nat.beq k f then some p else lookP l f
def envP (tbl : List (Nat × AFun)) (ps : List (Nat × Prim)) : Env := { code := lookT tbl, prim := lookP ps }
theorem lookP_mem {f : Nat} {p : Prim} : ∀ {l : List (Nat × Prim)}, lookP l f = some p → (f, p) ∈ l
  | [], h => by cases h
  | (k, x) :: l, h => by
    simp only [lookP] at h
    cases hb : Nat.beq k f with
    | true =>
      rw [hb, cond_true] at h
      cases h
      rw [Nat.eq_of_beq_eq_true hb]
      exact List.mem_cons_self
    | false =>
      rw [hb, cond_false] at h
      exact List.mem_cons_of_mem _ (lookP_mem h)
def MonoP (p : Prim) : Prop := ∀ (call call' : CallFn) n args h (K K' : Kont), Le call call' → (∀ v h', K v h' = true → K' v h' = true) → p call n args h K = true → p call' n args h K' = true
def AllMono : List (Nat × Prim) → Prop
  | [] => True
  | (_, p) :: l => MonoP p ∧ AllMono l
theorem AllMono.mem : ∀ {l : List (Nat × Prim)}, AllMono l → ∀ k p, (k, p) ∈ l → MonoP p
  | [], _, _, _, h => by cases h
  | (k, q) :: l, ⟨h1, h2⟩, k', p, h => by
    rcases List.mem_cons.1 h with e | h
    · cases e; exact h1
    · exact AllMono.mem h2 k' p h
theorem envP_le {tbl : List (Nat × AFun)} {ps : List (Nat × Prim)} (h : AllMono ps) : PrimLe (envP tbl ps) := fun f p hp => h.mem f p (lookP_mem hp)
def AllPrim (P : Program) : List (Nat × Prim) → Prop
  | [] => True
  | (k, p) :: l => PrimOK P k p ∧ AllPrim P l
theorem AllPrim.mem {P : Program} : ∀ {l : List (Nat × Prim)}, AllPrim P l → ∀ k p, (k, p) ∈ l → PrimOK P k p
  | [], _, _, _, h => by cases h
  | (k, q) :: l, ⟨h1, h2⟩, k', p, h => by
    rcases List.mem_cons.1 h with e | h
    · cases e; exact h1
    · exact AllPrim.mem h2 k' p h
theorem envP_ok {P : Program} {tbl : List (Nat × AFun)} {ps : List (Nat × Prim)} (h : AllOK P tbl) (hp : AllPrim P ps) : EnvOK P (envP tbl ps) :=
  ⟨fun f p e => hp.mem f p (lookP_mem e), fun f fn hf => h.mem f fn (lookT_mem hf)⟩
end Go.Ab
namespace Go.Ab
set_option linter.unusedSimpArgs false
set_option linter.unusedVariables false
open Go.Shelf Go.Sort
open Go.Proofs (SlLaysF.n6 AnyF.slices_SortFunc_none Any.slices_SortFunc CmpLays1 OneCell ltOf sortWorld)
def isI64 (z : Int) : AV → Bool
  | .int .i64 n => ieqb n z
  | _ => false
def putSeg (h : AHeap) (id : Nat) (r : Row) (s : Nat) (us : List AV) : AHeap := h.put id (.row { r with es := lay r.es s (us.map fun v => [v]), m := r.g })
structure SortOK (call : CallFn) (f : Nat) (cap : List AV) (h : AHeap) (id : Nat) (r : Row) (s : Nat) (vs : List AV) (K : Kont) (c : AV → AV → Int) : Prop where
  row : h.get id = some (.row r)
  rw : r.rw = true
  sz : r.sz = 1
  es : (r.es.drop s).take vs.length = vs.map fun v => [v]
  lt : vs.length < 4611686018427387904
  irr : ∀ x ∈ vs, ¬ c x x < 0
  trs : ∀ x ∈ vs, ∀ y ∈ vs, ∀ z ∈ vs, c x y < 0 → c y z < 0 → c x z < 0
  ntr : ∀ x ∈ vs, ∀ y ∈ vs, ∀ z ∈ vs, ¬ c x y < 0 → ¬ c y z < 0 → ¬ c x z < 0
  cmp : ∀ us : List AV, us.length = vs.length → (∀ u ∈ us, u ∈ vs) → ∀ x ∈ vs, ∀ y ∈ vs, call (.func f) ([x, y] ++ cap) (putSeg h id r s us).frz (fun v _ => isI64 (c x y) v) = true
  fin : ∀ us : List AV, us.Perm vs → (us.Pairwise fun a b => ¬ c b a < 0) → K (.tup []) (putSeg h id r s us) = true
noncomputable def cdec (p : Prop) : Bool := @decide p (Classical.propDecidable p)
theorem cdec_true {p : Prop} : cdec p = true ↔ p := by
  unfold cdec
  exact @decide_eq_true_iff p (Classical.propDecidable p)
noncomputable def sortP (fs : List Nat) : Prim := fun call n args h K => match args with
  | [.nilSlc, .fn (.func f) [] cap] => K (.tup []) h
  | [.emp, .fn (.func f) [] cap] => K (.tup []) h
  | [.slc id g s len c ex, .fn (.func f) [] cap] => bif Nat.beq len 0 then K (.tup []) h
      else cdec (f ∈ fs ∧ ∃ r vs cf, g = r.g ∧ vs.length = len ∧ SortOK call f cap h id r s vs K cf)
  | _ => false
theorem sortP_mono (fs : List Nat) : MonoP (sortP fs) := by
  intro call call' n args h K K' hle hK hs
  unfold sortP at hs ⊢
  split at hs
  · exact hK _ _ hs
  · exact hK _ _ hs
  · rename_i id g s len c ex f cap
    cases hl : Nat.beq len 0 with
    | true => rw [hl, cond_true] at hs; exact hK _ _ hs
    | false =>
      rw [hl, cond_false] at hs
      have hs := cdec_true.1 hs
      obtain ⟨h1, r, vs, cf, h2, h3, S⟩ := hs
      rw [cond_false]
      exact cdec_true.2 ⟨h1, r, vs, cf, h2, h3, ⟨S.row, S.rw, S.sz, S.es, S.lt, S.irr, S.trs, S.ntr, fun us h1 h2 x hx y hy => hle _ _ _ _ _ (S.cmp us h1 h2 x hx y hy) (fun _ _ e => e), fun us h1 h2 => hK _ _ (S.fin us h1 h2)⟩⟩
  · cases hs
theorem drop_flat1 : ∀ {es : List (List AV)}, (∀ e ∈ es, e.length = 1) → ∀ n, es.flatten.drop n = (es.drop n).flatten
  | [], _, n => by simp
  | e :: l, h, 0 => rfl
  | e :: l, h, n + 1 => by
    have h1 := h e (by simp)
    match e, h1 with
    | [a], _ => exact drop_flat1 (fun x hx => h x (List.mem_cons_of_mem _ hx)) n
theorem take_flat1 : ∀ {es : List (List AV)}, (∀ e ∈ es, e.length = 1) → ∀ n, es.flatten.take n = (es.take n).flatten
  | [], _, n => by simp
  | e :: l, h, 0 => by simp
  | e :: l, h, n + 1 => by
    have h1 := h e (by simp)
    match e, h1 with
    | [a], _ =>
      show a :: (l.flatten.take n) = a :: (l.take n).flatten
      rw [take_flat1 (fun x hx => h x (List.mem_cons_of_mem _ hx)) n]
theorem extract_all {α : Type} (x : Array α) {n : Nat} (h : x.size = n) : x.extract 0 n = x := by subst h; simp
section
variable {P : Program} {B : Base} {φ : Phi} {h : AHeap} {w : World}
theorem seg_world (H : RelH P B φ h w) {id : Nat} {r : Row} (hr : h.get id = some (.row r)) (hrw : r.rw = true) (hsz : r.sz = 1) {L : Loc} (hL : φ id r.g = some L) {s : Nat}
    {α : Type} [Inhabited α] {enc : α → Value} {av : α → AV} (hrel : ∀ x, RelV φ (av x) (enc x)) (hone : ∀ x, (enc x).oneCell' = true) (hleaf : ∀ x, (av x).leaf = true) (d dk : Array α) (hH : Holds enc w L.blk (L.base + s) d) (hk : dk.size = d.size) (hfit : s + d.size ≤ r.es.length) (m : Nat) (os : Array Obj) :
    RelH P B φ (putSeg h id r s (dk.toList.map av)) (sortWorld enc w L.blk (L.base + s) m dk os) ∧ Gw B w (sortWorld enc w L.blk (L.base + s) m dk os) := by
  have HA : RelH P B φ h (w.drewN m) := H.heap rfl
  have hrow : RelRow φ id r w := H.obj id _ hr
  have hLs : L.sz = 1 := by rw [(hrow.gen _ L hL).2, hsz]
  have hnv : RelVs φ ((dk.toList.map av).map fun v => [v]).flatten (dk.toList.map enc) := by
    rw [flatten_single]
    induction dk.toList with
    | nil => exact .nil
    | cons x l ih => exact .cons (hrel x) ih
  have hlen : ((dk.toList.map av).map fun v => [v]).length = d.size := by simp [hk]
  have he : storeRow h 1 id r.g s ((dk.toList.map av).map fun v => [v]) = some (putSeg h id r s (dk.toList.map av)) := by
    unfold storeRow putSeg
    rw [AHeap.row_some.2 hr]
    have : (r.rw && Nat.beq r.g r.g && Nat.beq r.sz 1 && Nat.ble (s + ((dk.toList.map av).map fun v => [v]).length) r.es.length) = true := by
      rw [hrw, hsz, hlen]
      simp only [Nat.beq_refl, Bool.and_self, Bool.true_and]
      exact nble_true.2 hfit
    simp only [this, cond_true]
  obtain ⟨w', s1, s2, s3, _⟩ := storeRow_sound HA (fun x hx => by
      obtain ⟨v, _, rfl⟩ := List.mem_map.1 hx; rfl) (fun x hx => by
      obtain ⟨v, hv, rfl⟩ := List.mem_map.1 hx
      obtain ⟨a, _, rfl⟩ := List.mem_map.1 hv
      show allLeaf [av a] = true
      simp [allLeaf, hleaf a]) hnv hL he
  rw [hLs, Nat.mul_one] at s1
  have hst := Go.run_storeCells_cells (P := P) L.blk (L.base + s) (dk.toList.map enc) 0 (w.drewN m)
    (fun j hj => by
      have := (hH j (by simpa [hk] using hj)).1
      rw [World.cell?_drewN, Nat.add_zero, this]; rfl)
    (fun j hj => by
      have := (hH j (by simpa [hk] using hj)).2
      rw [Nat.add_zero]; exact this)
    (fun v hv => by
      obtain ⟨a, _, rfl⟩ := List.mem_map.1 hv
      exact hone a)
  rw [hst] at s1
  have hw' : (w.drewN m).setCells L.blk (L.base + s + 0) (dk.toList.map enc) = w' := by injection s1
  have hput := Go.Lib.putRow_eq_setCells enc w L.blk (L.base + s) d dk.toList m hH (by simpa using hk)
  have hw : sortWorld enc w L.blk (L.base + s) m dk os = grow w' os := by
    unfold sortWorld
    have : dk.toList.toArray = dk := by simp
    rw [this] at hput
    rw [hput, ← hw', Nat.add_zero]
  rw [hw]
  have g1 : Gw B w (w.drewN m) := Gw.ahead B w m
  exact ⟨s2.grow os, (g1.trans s3).trans (Gw.grow s2.base os)⟩
theorem i64_rel {z : Int} {v : AV} {cv : Value} (hi : isI64 z v = true) (hv : RelV φ v cv) : cv = .int .i64 z := by
  cases hv <;> try (cases hi; done)
  rename_i k n
  cases k <;> try (cases hi; done)
  simp only [isI64] at hi
  rw [ieqb_dec] at hi
  rw [of_decide_eq_true hi]
variable {ρ : Ren}
theorem sortP_ok {f : Nat} {fs : List Nat} (L6 : SlLaysF.n6 P ρ) (hf : ρ.f 6 = f) (hmix : ∀ args w, (callFunc f args).run P w = .ok (.enter f args) w) (hen : ∀ g ∈ fs, ∀ args w, (callFunc g args).run P w = .ok (.enter g args) w) : PrimOK P f (sortP fs) := by
  intro call n hcall args h K hK
  subst hf
  have none : ∀ (B : Base) (φ : Phi) (w : World) (p : Option Addr) (c : Nat) (fv : Value), RelH P B φ h w → K (.tup []) h = true → Lands P B φ w K ((callFunc (ρ.f 6) ⟨[.slice p 0 c, fv]⟩).run P w) := by
    intro B φ w p c fv H hk
    rw [hmix]
    intro n
    have hS := AnyF.slices_SortFunc_none (P := P) (ρ := ρ) { L6 with } p c fv w
    refine ((callsIn_wide (n := n)).2 hS).mono ?_
    rintro e w' ⟨rfl, rfl⟩
    exact ⟨.tup [], h, .tuple #[], φ, rfl, hk, .tup .nil, H, φ.le_refl, Gw.refl B w'⟩
  unfold sortP at hK
  split at hK
  · rename_i g cap
    refine ⟨fun v hv id e => ?_, fun B φ w cargs H hA => ?_⟩
    · simp only [List.mem_cons, List.not_mem_nil, or_false] at hv
      rcases hv with rfl | rfl <;> cases e
    · cases hA with
      | cons h1 h2 =>
        cases h2 with
        | cons h2 h3 =>
          cases h3
          cases h1
          exact none B φ w _ _ _ H hK
  · rename_i g cap
    refine ⟨fun v hv id e => ?_, fun B φ w cargs H hA => ?_⟩
    · simp only [List.mem_cons, List.not_mem_nil, or_false] at hv
      rcases hv with rfl | rfl <;> cases e
    · cases hA with
      | cons h1 h2 =>
        cases h2 with
        | cons h2 h3 =>
          cases h3
          cases h1
          exact none B φ w _ _ _ H hK
  · rename_i id g s len c ex f cap
    refine ⟨fun v hv id e => ?_, fun B φ w cargs H hA => ?_⟩
    · simp only [List.mem_cons, List.not_mem_nil, or_false] at hv
      rcases hv with rfl | rfl <;> cases e
    · cases hA with
      | cons h1 h2 =>
        cases h2 with
        | cons h2 h3 =>
          cases h3
          cases h1 with
          | slc hL a1 a2 a3 a4 a5 a6 =>
            rename_i c0 off L
            cases hl : Nat.beq len 0 with
            | true =>
              rw [hl, cond_true] at hK
              have := nbeq_true.1 hl
              subst this
              exact none B φ w _ _ _ H hK
            | false =>
              rw [hl, cond_false] at hK
              have hlen := nbeq_false.1 hl
              obtain ⟨hfs, r, vs, cf, hg, hvl, S⟩ := cdec_true.1 hK
              subst hg
              cases h2 with
              | func hfa hcb =>
                cases hfa
                rename_i cb
                have eg := hen f hfs
                have hrow : RelRow φ id r w := H.obj id _ S.row
                have hLs : L.sz = 1 := by rw [(hrow.gen _ L hL).2, S.sz]
                obtain ⟨hbase, cs, ct, hcs, hcsz, hext⟩ := hrow.own S.rw r.g L hrow.mg hL
                obtain ⟨L', hL', hext'⟩ := hrow.cur
                have : L' = L := by rw [hL] at hL'; cases hL'; rfl
                subst this
                have hoff : off = L'.base + s := by rw [a6 (by omega), hLs, Nat.mul_one]
                subst hoff
                have hes1 : ∀ e ∈ r.es, e.length = 1 := fun e he => by rw [hrow.es e he, S.sz]
                have hfit : s + len ≤ r.es.length := by omega
                obtain ⟨nv, n1, n2, n3⟩ := row_flat hrow hL hrow.mg (p := s) (n := len) (by rw [S.sz]; omega)
                have hfl : (r.es.flatten.drop s).take len = vs := by
                  rw [drop_flat1 hes1, take_flat1 (fun e he => hes1 e (List.mem_of_mem_drop he)), ← hvl, S.es, flatten_single]
                rw [hfl] at n1
                obtain ⟨k, rfl⟩ : ∃ k, len = k + 1 := ⟨len - 1, by omega⟩
                have hleafs : ∀ v ∈ vs, v.leaf = true := by
                  intro v hv
                  have hm : [v] ∈ (r.es.drop s).take vs.length := by rw [S.es]; exact List.mem_map.2 ⟨v, hv, rfl⟩
                  have := hrow.leaf [v] (List.mem_of_mem_drop (List.mem_of_mem_take hm))
                  simpa [allLeaf] using this
                let av : Fin (k + 1) → AV := fun i => vs[i.1]'(by omega)
                let enc : Fin (k + 1) → Value := fun i => nv[i.1]'(by omega)
                have hrel : ∀ x, RelV φ (av x) (enc x) := by
                  intro x
                  obtain ⟨v, q1, q2⟩ := n1.get (i := x.1) (a := av x) (List.getElem?_eq_getElem _)
                  rw [List.getElem?_eq_getElem (by omega)] at q1
                  cases q1; exact q2
                have hmem : ∀ x, av x ∈ vs := fun x => List.getElem_mem _
                have hleaf : ∀ x, (av x).leaf = true := fun x => hleafs _ (hmem x)
                have hone : OneCell enc := fun x => (hrel x).leaf (hleaf x)
                let d : Array (Fin (k + 1)) := Array.ofFn fun i => i
                have hds : d.size = k + 1 := by simp [d]
                have hdj : ∀ j (hj : j < k + 1), d[j]! = ⟨j, hj⟩ := by
                  intro j hj
                  rw [getElem!_pos d j (by omega)]
                  simp [d]
                have hH : Holds enc w L'.blk (L'.base + s) d := by
                  intro j hj
                  rw [hds] at hj
                  refine ⟨?_, ?_⟩
                  · rw [hdj j hj]
                    have := n3 j _ (List.getElem?_eq_getElem (by omega))
                    have ha : (⟨L'.blk, L'.base + s, Option.none⟩ : Addr).add j = ⟨L'.blk, L'.base + s + j, Option.none⟩ := by
                      simp only [Addr.add]
                      split
                      · rename_i h0; subst h0; rfl
                      · rfl
                    rw [ha] at this
                    exact this
                  · simp only [World.frozen?, hcs]
                    simp
                let cfn : Fin (k + 1) → Fin (k + 1) → Int := fun i j => cf (av i) (av j)
                have hO : SWO (ltOf cfn) := by
                  refine ⟨fun x => ?_, fun x y z h1 h2 => ?_, fun x y z h1 h2 => ?_⟩
                  · exact decide_eq_false (S.irr _ (hmem x))
                  · exact decide_eq_true (S.trs _ (hmem x) _ (hmem y) _ (hmem z) (of_decide_eq_true h1) (of_decide_eq_true h2))
                  · exact decide_eq_false (S.ntr _ (hmem x) _ (hmem y) _ (hmem z) (of_decide_eq_false h1) (of_decide_eq_false h2))
                have hmap : ∀ dk : Array (Fin (k + 1)), dk.size = d.size → (dk.toList.map av).length = vs.length := by
                  intro dk hdk
                  rw [List.length_map, Array.length_toList, hdk, hds, hvl]
                have hcmp : CmpLays1 P f ⟨cb⟩ enc cfn L'.blk (L'.base + s) d.size w := by
                  intro m os dk hdk x y
                  obtain ⟨H2, _⟩ := seg_world H S.row S.rw S.sz hL hrel hone hleaf d dk hH hdk (by omega) m os
                  have law := S.cmp (dk.toList.map av) (hmap dk hdk) (fun u hu => by
                    obtain ⟨i, _, rfl⟩ := List.mem_map.1 hu
                    exact hmem i) (av x) (hmem x) (av y) (hmem y)
                  have hc := hcall (.func f) _ _ _ law _ φ _ ([enc x, enc y] ++ cb) H2.frz (.cons (hrel x) (.cons (hrel y) hcb))
                  simp only at hc
                  have hc := FuncOK.lands hc
                  rw [eg] at hc
                  have h0 : CallsIn (FW Option.none) 0 P f ⟨[enc x, enc y] ++ cb⟩ _ _ := hc 0
                  have h1 := callsIn_wide.1 h0
                  have harr : (#[enc x, enc y] ++ ⟨cb⟩ : Array Value) = ⟨[enc x, enc y] ++ cb⟩ := by simp
                  rw [harr]
                  refine h1.mono ?_
                  rintro e w' ⟨v, h', cv, φ', rfl, hi, hv, _, _, hg⟩
                  refine ⟨?_, ?_⟩
                  · rw [i64_rel hi hv]
                  · exact hg.grown
                have hblk : L'.blk < w.heap.size := H.lt id r.g L' hL
                have hS := Any.slices_SortFunc L6 enc hone cfn hO f ⟨cb⟩ L'.blk (L'.base + s) c0 d w eg hcmp hH hblk (by rw [hds]; have := S.lt; omega)
                rw [hmix]
                intro n
                rw [hds] at hS
                refine ((callsIn_wide (n := n)).2 hS).mono ?_
                rintro e w' ⟨rfl, d', m, os, hp, hs, rfl⟩
                obtain ⟨p1, p2, p3⟩ := hp
                obtain ⟨H2, G2⟩ := seg_world H S.row S.rw S.sz hL hrel hone hleaf d d' hH p1 (by omega) m os
                refine ⟨.tup [], _, .tuple #[], φ, rfl, S.fin (d'.toList.map av) ?_ ?_, .tup .nil, H2, φ.le_refl, G2⟩
                · rw [extract_all _ (by rw [p1, hds]), extract_all _ hds] at p3
                  refine (p3.map av).trans ?_
                  have : d.toList.map av = vs := by
                    apply List.ext_getElem
                    · rw [List.length_map, Array.length_toList, hds, hvl]
                    · intro i h1 h2
                      rw [List.getElem_map]
                      have : d.toList[i]'(by simpa using h1) = (⟨i, by rw [hvl] at h2; exact h2⟩ : Fin (k + 1)) := by simp only [d, Array.toList_ofFn, List.getElem_ofFn]
                      rw [this]
                  rw [this]
                · rw [List.pairwise_map, List.pairwise_iff_getElem]
                  intro i j hi hj hij
                  have hj' : j < k + 1 := by rw [Array.length_toList, p1, hds] at hj; exact hj
                  have := hs i j (Nat.zero_le _) hij hj'
                  rw [getElem!_pos d' i (by rw [p1, hds]; omega), getElem!_pos d' j (by rw [p1, hds]; omega)] at this
                  exact of_decide_eq_false this
  · cases hK
end
end Go.Ab
namespace Go.Ab
set_option linter.unusedSimpArgs false
set_option linter.unusedVariables false
open Go.Shelf Go.Sort
open Go.Proofs (SlLaysF0.n6 AnyF.slices_SortFunc_none AnyQ.slices_SortFunc CmpLays ltOf sortWorldK)
def putSegK (h : AHeap) (id : Nat) (r : Row) (s : Nat) (us : List (List AV)) : AHeap := h.put id (.row { r with es := lay r.es s us, m := r.g })
structure SortOKK (call : CallFn) (f : Nat) (cap : List AV) (h : AHeap) (id : Nat) (r : Row) (s k : Nat) (vs : List (List AV)) (K : Kont) (c : List AV → List AV → Int) : Prop where
  row : h.get id = some (.row r)
  rw : r.rw = true
  sz : r.sz = k
  es : (r.es.drop s).take vs.length = vs
  lt : vs.length < 4611686018427387904
  irr : ∀ x ∈ vs, ¬ c x x < 0
  trs : ∀ x ∈ vs, ∀ y ∈ vs, ∀ z ∈ vs, c x y < 0 → c y z < 0 → c x z < 0
  ntr : ∀ x ∈ vs, ∀ y ∈ vs, ∀ z ∈ vs, ¬ c x y < 0 → ¬ c y z < 0 → ¬ c x z < 0
  cmp : ∀ us : List (List AV), us.length = vs.length → (∀ u ∈ us, u ∈ vs) → ∀ x ∈ vs, ∀ y ∈ vs, call (.func f) ([.agg x, .agg y] ++ cap) (putSegK h id r s us).frz (fun v _ => isI64 (c x y) v) = true
  fin : ∀ us : List (List AV), us.Perm vs → (us.Pairwise fun a b => ¬ c b a < 0) → K (.tup []) (putSegK h id r s us) = true
noncomputable def sortPK (k : Nat) (fs : List Nat) : Prim := fun call n args h K => match args with
  | [.nilSlc, .fn (.func f) [] cap] => K (.tup []) h
  | [.emp, .fn (.func f) [] cap] => K (.tup []) h
  | [.slc id g s len c ex, .fn (.func f) [] cap] => bif Nat.beq len 0 then K (.tup []) h
      else cdec (f ∈ fs ∧ ∃ r vs cf, g = r.g ∧ vs.length = len ∧ SortOKK call f cap h id r s k vs K cf)
  | _ => false
theorem sortPK_mono (k : Nat) (fs : List Nat) : MonoP (sortPK k fs) := by
  intro call call' n args h K K' hle hK hs
  unfold sortPK at hs ⊢
  split at hs
  · exact hK _ _ hs
  · exact hK _ _ hs
  · rename_i id g s len c ex f cap
    cases hl : Nat.beq len 0 with
    | true => rw [hl, cond_true] at hs; exact hK _ _ hs
    | false =>
      rw [hl, cond_false] at hs
      have hs := cdec_true.1 hs
      obtain ⟨h1, r, vs, cf, h2, h3, S⟩ := hs
      rw [cond_false]
      exact cdec_true.2 ⟨h1, r, vs, cf, h2, h3, ⟨S.row, S.rw, S.sz, S.es, S.lt, S.irr, S.trs, S.ntr, fun us h1 h2 x hx y hy => hle _ _ _ _ _ (S.cmp us h1 h2 x hx y hy) (fun _ _ e => e), fun us h1 h2 => hK _ _ (S.fin us h1 h2)⟩⟩
  · cases hs
theorem divmod {k t n : Nat} (hk : 0 < k) (h : t < n * k) : t / k < n ∧ t % k < k ∧ (t / k) * k + t % k = t :=
  ⟨(Nat.div_lt_iff_lt_mul hk).2 h, Nat.mod_lt _ hk, by rw [Nat.mul_comm]; exact Nat.div_add_mod t k⟩
section
variable {P : Program} {B : Base} {φ : Phi} {h : AHeap} {w : World}
theorem flat_rel {α : Type} [Inhabited α] {k : Nat} (hk : 0 < k) {enc : α → List Value} {av : α → List AV} (hrel : ∀ x, RelVs φ (av x) (enc x)) (hl : ∀ x, (av x).length = k) (d : Array α) :
    RelVs φ (d.toList.map av).flatten (flatK enc k d).toList := by
  have hen : ∀ x, (enc x).length = k := fun x => by rw [← (hrel x).length]; exact hl x
  have hlen : (d.toList.map av).flatten.length = d.size * k := by
    rw [fl_len (sz := k) (fun e he => by obtain ⟨x, _, rfl⟩ := List.mem_map.1 he; exact hl x), List.length_map, Array.length_toList]
  refine RelVs.of_get (by rw [hlen, Array.length_toList, size_flatK]) fun t a v ha hv => ?_
  have ht : t < d.size * k := by rw [← hlen]; exact (List.getElem?_eq_some_iff.1 ha).1
  obtain ⟨q1, q2, q3⟩ := divmod hk ht
  have hd : d[t / k]! = d[t / k] := getElem!_pos d _ q1
  have e1 : (d.toList.map av)[t / k]? = some (av d[t / k]) := by rw [List.getElem?_map, Array.getElem?_toList, Array.getElem?_eq_getElem q1]; rfl
  have hb : (av d[t / k])[t % k]? = some ((av d[t / k])[t % k]'(by rw [hl]; exact q2)) := List.getElem?_eq_getElem _
  have e2 := fl_get (sz := k) (fun e he => by obtain ⟨x, _, rfl⟩ := List.mem_map.1 he; exact hl x) e1 hb
  rw [q3, ha] at e2
  injection e2 with e2
  obtain ⟨v', r1, r2⟩ := (hrel d[t / k]).get hb
  have hv' : v = (enc d[t / k]!)[t % k]! := by
    rw [Array.getElem?_toList, Array.getElem?_eq_getElem (by rw [size_flatK]; exact ht)] at hv
    injection hv with hv
    rw [← hv, ← getElem!_pos (flatK enc k d) t (by rw [size_flatK]; exact ht), get_flatK _ _ _ _ ht]
  rw [hd] at hv'
  have : (enc d[t / k])[t % k]! = v' := by
    have := (List.getElem?_eq_some_iff.1 r1)
    rw [getElem!_pos (enc d[t / k]) _ this.1]; exact this.2
  rw [hv', this, e2]; exact r2
theorem seg_worldK (H : RelH P B φ h w) {id : Nat} {r : Row} (hr : h.get id = some (.row r)) (hrw : r.rw = true) {k : Nat} (hk : 0 < k) (hsz : r.sz = k) {L : Loc} (hL : φ id r.g = some L) {s : Nat}
    {α : Type} [Inhabited α] {enc : α → List Value} {av : α → List AV} (hrel : ∀ x, RelVs φ (av x) (enc x)) (hl : ∀ x, (av x).length = k) (hleaf : ∀ x, allLeaf (av x) = true) (d dk : Array α) (hH : HoldsK enc k w L.blk (L.base + s * k) d) (hd : dk.size = d.size) (hfit : s + d.size ≤ r.es.length) (m : Nat) (os : Array Obj) :
    RelH P B φ (putSegK h id r s (dk.toList.map av)) (sortWorldK enc k w L.blk (L.base + s * k) m dk os) ∧ Gw B w (sortWorldK enc k w L.blk (L.base + s * k) m dk os) := by
  have HA : RelH P B φ h (w.drewN m) := H.heap rfl
  have hrow : RelRow φ id r w := H.obj id _ hr
  have hLs : L.sz = k := by rw [(hrow.gen _ L hL).2, hsz]
  have hnv := flat_rel hk hrel hl dk
  have hlen : (dk.toList.map av).length = d.size := by simp [hd]
  have he : storeRow h k id r.g s (dk.toList.map av) = some (putSegK h id r s (dk.toList.map av)) := by
    unfold storeRow putSegK
    rw [AHeap.row_some.2 hr]
    have : (r.rw && Nat.beq r.g r.g && Nat.beq r.sz k && Nat.ble (s + (dk.toList.map av).length) r.es.length) = true := by
      rw [hrw, hsz, hlen]
      simp only [Nat.beq_refl, Bool.and_self, Bool.true_and]
      exact nble_true.2 hfit
    simp only [this, cond_true]
  obtain ⟨w', s1, s2, s3, _⟩ := storeRow_sound HA (fun x hx => by
      obtain ⟨v, _, rfl⟩ := List.mem_map.1 hx; exact hl v) (fun x hx => by
      obtain ⟨v, _, rfl⟩ := List.mem_map.1 hx; exact hleaf v) hnv hL he
  rw [hLs] at s1
  have hsz2 : (flatK enc k dk).toList.length = (flatK enc k d).size := by rw [Array.length_toList, size_flatK, size_flatK, hd]
  have hone : ∀ v ∈ (flatK enc k dk).toList, v.oneCell' = true := hnv.leaf (allLeaf_flatten fun e he => by obtain ⟨x, _, rfl⟩ := List.mem_map.1 he; exact hleaf x)
  have hst := Go.run_storeCells_cells (P := P) L.blk (L.base + s * k) (flatK enc k dk).toList 0 (w.drewN m)
    (fun j hj => by
      have := (hH j (by omega)).1
      rw [World.cell?_drewN, Nat.add_zero, this]; rfl)
    (fun j hj => by
      have := (hH j (by omega)).2
      rw [Nat.add_zero]; exact this)
    hone
  rw [hst] at s1
  have hw' : (w.drewN m).setCells L.blk (L.base + s * k + 0) (flatK enc k dk).toList = w' := by injection s1
  have hput := Go.Lib.putRow_eq_setCells _root_.id w L.blk (L.base + s * k) (flatK enc k d) (flatK enc k dk).toList m hH hsz2
  have hw : sortWorldK enc k w L.blk (L.base + s * k) m dk os = grow w' os := by
    unfold sortWorldK putRowK
    have : (flatK enc k dk).toList.toArray = flatK enc k dk := by simp
    rw [this] at hput
    rw [hput, ← hw', Nat.add_zero, List.map_id]
  rw [hw]
  have g1 : Gw B w (w.drewN m) := Gw.ahead B w m
  exact ⟨s2.grow os, (g1.trans s3).trans (Gw.grow s2.base os)⟩
variable {ρ : Ren}
theorem sortPK_ok {f k : Nat} {fs : List Nat} (hk : 0 < k) (L6 : SlLaysF0.n6 P ρ) (aE : ∀ w, (isAgg (ρ.t 24)).run P w = .ok true w) (zE : ∀ w, (Go.sizeOf (ρ.t 24)).run P w = .ok k w) (hf : ρ.f 6 = f) (hmix : ∀ args w, (callFunc f args).run P w = .ok (.enter f args) w) (hen : ∀ g ∈ fs, ∀ args w, (callFunc g args).run P w = .ok (.enter g args) w) : PrimOK P f (sortPK k fs) := by
  intro call n hcall args h K hK
  subst hf
  have none : ∀ (B : Base) (φ : Phi) (w : World) (p : Option Addr) (c : Nat) (fv : Value), RelH P B φ h w → K (.tup []) h = true → Lands P B φ w K ((callFunc (ρ.f 6) ⟨[.slice p 0 c, fv]⟩).run P w) := by
    intro B φ w p c fv H hk
    rw [hmix]
    intro n
    have hS := AnyF.slices_SortFunc_none (P := P) (ρ := ρ) L6 p c fv w
    refine ((callsIn_wide (n := n)).2 hS).mono ?_
    rintro e w' ⟨rfl, rfl⟩
    exact ⟨.tup [], h, .tuple #[], φ, rfl, hk, .tup .nil, H, φ.le_refl, Gw.refl B w'⟩
  unfold sortPK at hK
  split at hK
  · rename_i g cap
    refine ⟨fun v hv id e => ?_, fun B φ w cargs H hA => ?_⟩
    · simp only [List.mem_cons, List.not_mem_nil, or_false] at hv
      rcases hv with rfl | rfl <;> cases e
    · cases hA with
      | cons h1 h2 =>
        cases h2 with
        | cons h2 h3 =>
          cases h3
          cases h1
          exact none B φ w _ _ _ H hK
  · rename_i g cap
    refine ⟨fun v hv id e => ?_, fun B φ w cargs H hA => ?_⟩
    · simp only [List.mem_cons, List.not_mem_nil, or_false] at hv
      rcases hv with rfl | rfl <;> cases e
    · cases hA with
      | cons h1 h2 =>
        cases h2 with
        | cons h2 h3 =>
          cases h3
          cases h1
          exact none B φ w _ _ _ H hK
  · rename_i id g s len c ex f cap
    refine ⟨fun v hv id e => ?_, fun B φ w cargs H hA => ?_⟩
    · simp only [List.mem_cons, List.not_mem_nil, or_false] at hv
      rcases hv with rfl | rfl <;> cases e
    · cases hA with
      | cons h1 h2 =>
        cases h2 with
        | cons h2 h3 =>
          cases h3
          cases h1 with
          | slc hL a1 a2 a3 a4 a5 a6 =>
            rename_i c0 off L
            cases hl : Nat.beq len 0 with
            | true =>
              rw [hl, cond_true] at hK
              have := nbeq_true.1 hl
              subst this
              exact none B φ w _ _ _ H hK
            | false =>
              rw [hl, cond_false] at hK
              have hlen := nbeq_false.1 hl
              obtain ⟨hfs, r, vs, cf, hg, hvl, S⟩ := cdec_true.1 hK
              subst hg
              cases h2 with
              | func hfa hcb =>
                cases hfa
                rename_i cb
                have eg := hen f hfs
                have hrow : RelRow φ id r w := H.obj id _ S.row
                have hLs : L.sz = k := by rw [(hrow.gen _ L hL).2, S.sz]
                obtain ⟨hbase, cs, ct, hcs, hcsz, hext⟩ := hrow.own S.rw r.g L hrow.mg hL
                obtain ⟨L', hL', hext'⟩ := hrow.cur
                have : L' = L := by rw [hL] at hL'; cases hL'; rfl
                subst this
                have hoff : off = L'.base + s * k := by rw [a6 (by omega), hLs]
                subst hoff
                have hes1 : ∀ e ∈ r.es, e.length = k := fun e he => by rw [hrow.es e he, S.sz]
                have hfit : s + len ≤ r.es.length := by omega
                have hmul : s * k + len * k ≤ L'.ext * r.sz := by
                  rw [S.sz, ← Nat.add_mul]; exact Nat.mul_le_mul_right k (by omega)
                obtain ⟨nv, n1, n2, n3⟩ := row_flat hrow hL hrow.mg (p := s * k) (n := len * k) hmul
                have hvk : ∀ v ∈ vs, v.length = k := fun v hv => hes1 v (by
                  rw [← S.es] at hv; exact List.mem_of_mem_drop (List.mem_of_mem_take hv))
                have hfl : (r.es.flatten.drop (s * k)).take (len * k) = vs.flatten := by
                  rw [← fl_drop hes1, ← fl_take (fun e he => hes1 e (List.mem_of_mem_drop he)), ← hvl, S.es]
                rw [hfl] at n1
                obtain ⟨N, rfl⟩ : ∃ N, len = N + 1 := ⟨len - 1, by omega⟩
                have hleafs : ∀ v ∈ vs, allLeaf v = true := by
                  intro v hv
                  rw [← S.es] at hv
                  exact hrow.leaf v (List.mem_of_mem_drop (List.mem_of_mem_take hv))
                let av : Fin (N + 1) → List AV := fun i => vs[i.1]'(by omega)
                let enc : Fin (N + 1) → List Value := fun i => (nv.drop (i.1 * k)).take k
                have hmem : ∀ x, av x ∈ vs := fun x => List.getElem_mem _
                have hl' : ∀ x, (av x).length = k := fun x => hvk _ (hmem x)
                have hrel : ∀ x, RelVs φ (av x) (enc x) := by
                  intro x
                  have e1 := (n1.drop (x.1 * k)).take k
                  have e2 : (vs.flatten.drop (x.1 * k)).take k = av x := by
                    rw [← fl_drop hvk]
                    have e3 : vs.drop x.1 = av x :: vs.drop (x.1 + 1) := List.drop_eq_getElem_cons (by omega)
                    rw [e3, List.flatten_cons, List.take_append_of_le_length (by rw [hl']; exact Nat.le_refl _), List.take_of_length_le (by rw [hl']; exact Nat.le_refl _)]
                  rw [e2] at e1; exact e1
                have hen' : ∀ x, (enc x).length = k := fun x => by rw [← (hrel x).length]; exact hl' x
                have hleaf : ∀ x, allLeaf (av x) = true := fun x => hleafs _ (hmem x)
                have hone : ∀ x, ∀ v ∈ enc x, v.oneCell' = true := fun x => (hrel x).leaf (hleaf x)
                let d : Array (Fin (N + 1)) := Array.ofFn fun i => i
                have hds : d.size = N + 1 := by simp [d]
                have hdj : ∀ j (hj : j < N + 1), d[j]! = ⟨j, hj⟩ := by
                  intro j hj
                  rw [getElem!_pos d j (by omega)]
                  simp [d]
                have hH : HoldsK enc k w L'.blk (L'.base + s * k) d := by
                  intro j hj
                  rw [size_flatK, hds] at hj
                  refine ⟨?_, ?_⟩
                  · rw [get_flatK _ _ _ _ (by rw [hds]; exact hj)]
                    obtain ⟨q1, q2, q3⟩ := divmod hk hj
                    rw [hdj _ q1]
                    have hjn : j < nv.length := by rw [n2]; exact hj
                    have := n3 j _ (List.getElem?_eq_getElem hjn)
                    have ha : (⟨L'.blk, L'.base + s * k, Option.none⟩ : Addr).add j = ⟨L'.blk, L'.base + s * k + j, Option.none⟩ := by
                      simp only [Addr.add]
                      split
                      · rename_i h0; subst h0; rfl
                      · rfl
                    rw [ha] at this
                    rw [this]
                    have hx : (enc ⟨j / k, q1⟩)[j % k]! = nv[j] := by
                      have hlt : j % k < (enc ⟨j / k, q1⟩).length := by rw [hen']; exact q2
                      rw [getElem!_pos (enc ⟨j / k, q1⟩) _ hlt]
                      show ((nv.drop (j / k * k)).take k)[j % k] = nv[j]
                      rw [List.getElem_take, List.getElem_drop]
                      congr 1
                    rw [hx]; rfl
                  · simp only [World.frozen?, hcs]
                    simp
                let cfn : Fin (N + 1) → Fin (N + 1) → Int := fun i j => cf (av i) (av j)
                have hO : SWO (ltOf cfn) := by
                  refine ⟨fun x => ?_, fun x y z h1 h2 => ?_, fun x y z h1 h2 => ?_⟩
                  · exact decide_eq_false (S.irr _ (hmem x))
                  · exact decide_eq_true (S.trs _ (hmem x) _ (hmem y) _ (hmem z) (of_decide_eq_true h1) (of_decide_eq_true h2))
                  · exact decide_eq_false (S.ntr _ (hmem x) _ (hmem y) _ (hmem z) (of_decide_eq_false h1) (of_decide_eq_false h2))
                have hmap : ∀ dk : Array (Fin (N + 1)), dk.size = d.size → (dk.toList.map av).length = vs.length := by
                  intro dk hdk
                  rw [List.length_map, Array.length_toList, hdk, hds, hvl]
                have hcmp : CmpLays P f ⟨cb⟩ enc k cfn L'.blk (L'.base + s * k) d.size w := by
                  intro m os dk hdk x y
                  obtain ⟨H2, _⟩ := seg_worldK H S.row S.rw hk S.sz hL hrel hl' hleaf d dk hH hdk (by omega) m os
                  have law := S.cmp (dk.toList.map av) (hmap dk hdk) (fun u hu => by
                    obtain ⟨i, _, rfl⟩ := List.mem_map.1 hu
                    exact hmem i) (av x) (hmem x) (av y) (hmem y)
                  have hc := hcall (.func f) _ _ _ law _ φ _ ([Value.agg (Array.mk (enc x)), Value.agg (Array.mk (enc y))] ++ cb) H2.frz (.cons (.agg (hrel x)) (.cons (.agg (hrel y)) hcb))
                  simp only at hc
                  have hc := FuncOK.lands hc
                  rw [eg] at hc
                  have h0 : CallsIn (FW Option.none) 0 P f ⟨[.agg ⟨enc x⟩, .agg ⟨enc y⟩] ++ cb⟩ _ _ := hc 0
                  have h1 := callsIn_wide.1 h0
                  have harr : (#[.agg (enc x).toArray, .agg (enc y).toArray] ++ ⟨cb⟩ : Array Value) = ⟨[.agg ⟨enc x⟩, .agg ⟨enc y⟩] ++ cb⟩ := by simp
                  rw [harr]
                  refine h1.mono ?_
                  rintro e w' ⟨v, h', cv, φ', rfl, hi, hv, _, _, hg⟩
                  refine ⟨?_, ?_⟩
                  · rw [i64_rel hi hv]
                  · exact hg.grown
                have hblk : L'.blk < w.heap.size := H.lt id r.g L' hL
                have hS := AnyQ.slices_SortFunc L6 k aE zE enc hen' hone cfn hO f ⟨cb⟩ L'.blk (L'.base + s * k) c0 d w eg hcmp hH hblk (by rw [hds]; have := S.lt; omega)
                rw [hmix]
                intro n
                rw [hds] at hS
                refine ((callsIn_wide (n := n)).2 hS).mono ?_
                rintro e w' ⟨rfl, d', m, os, hp, hs, rfl⟩
                obtain ⟨p1, p2, p3⟩ := hp
                obtain ⟨H2, G2⟩ := seg_worldK H S.row S.rw hk S.sz hL hrel hl' hleaf d d' hH p1 (by omega) m os
                refine ⟨.tup [], _, .tuple #[], φ, rfl, S.fin (d'.toList.map av) ?_ ?_, .tup .nil, H2, φ.le_refl, G2⟩
                · rw [extract_all _ (by rw [p1, hds]), extract_all _ hds] at p3
                  refine (p3.map av).trans ?_
                  have : d.toList.map av = vs := by
                    apply List.ext_getElem
                    · rw [List.length_map, Array.length_toList, hds, hvl]
                    · intro i h1 h2
                      rw [List.getElem_map]
                      have : d.toList[i]'(by simpa using h1) = (⟨i, by rw [hvl] at h2; exact h2⟩ : Fin (N + 1)) := by simp only [d, Array.toList_ofFn, List.getElem_ofFn]
                      rw [this]
                  rw [this]
                · rw [List.pairwise_map, List.pairwise_iff_getElem]
                  intro i j hi hj hij
                  have hj' : j < N + 1 := by rw [Array.length_toList, p1, hds] at hj; exact hj
                  have := hs i j (Nat.zero_le _) hij hj'
                  rw [getElem!_pos d' i (by rw [p1, hds]; omega), getElem!_pos d' j (by rw [p1, hds]; omega)] at this
                  exact of_decide_eq_false this
  · cases hK
end
end Go.Ab
namespace Go.Ab
set_option linter.unusedSimpArgs false
set_option linter.unusedVariables false
def saysT : Prim := fun _ _ args h K => match args with
  | [] => K (.bool true) h
  | _ => false
theorem saysT_mono : MonoP saysT := by
  intro call call' n args h K K' _ hK s
  unfold saysT at s ⊢
  split at s
  · exact hK _ _ s
  · cases s
theorem saysT_ok {P : Program} {E : Env} (hmix : P.follows .mixedOrders = true) (hE : EnvOK P E) {f fuel : Nat} {fn : AFun} (hf : E.code f = some fn) (hrun : callN E fuel (.func f) [] AHeap.empty (fun v _ => isTrue v) = true) : PrimOK P f saysT := by
  intro call n _ args h K hK
  unfold saysT at hK
  split at hK
  · refine ⟨fun v hv => absurd hv List.not_mem_nil, fun B φ w cargs H hA => ?_⟩
    cases hA
    have h0 := callN_sound hmix hE fuel (.func f) [] AHeap.empty _ hrun (.of w.heap.size) (fun _ _ => none) w [] (relH_empty w) .nil
    simp only at h0
    have h0 := FuncOK.lands h0
    rw [enter_of hE hf] at h0 ⊢
    intro m
    have h1 : CallsIn (FW none) m P f #[] w _ := h0 m
    refine h1.mono ?_
    rintro e w' ⟨v, h', cv, φ', rfl, hi, hv, _, _, hg⟩
    have hb : cv = .bool true := by
      cases hv <;> first | (cases hi; done) | skip
      rename_i b
      cases b with
      | false => cases hi
      | true => rfl
    subst hb
    obtain ⟨q, os, rfl⟩ := Gw.grown hg
    have H1 : RelH P B φ h (w.drewN q) := H.heap rfl
    exact ⟨.bool true, h, .bool true, φ, rfl, hK, .bool _, H1.grow os, φ.le_refl, (Gw.ahead _ w q).trans (Gw.grow (B := B) H1.base os)⟩
  · cases hK
end Go.Ab
namespace Go.Proofs.Ytbamgdknkhhikaa
open Go.Ab
noncomputable def prims : List (Nat × Prim) := [(51, sortP [52]), (46, sortPK 2 [47]), (7, saysT)]
theorem prims_le : AllMono prims := ⟨sortP_mono _, sortPK_mono _ _, saysT_mono, trivial⟩
end Go.Proofs.Ytbamgdknkhhikaa
namespace Go.Proofs.Ytbamgdknkhhikaa
open Go.Ab
noncomputable def tbl : List (Nat × AFun) := [(3, A3), (6, A6), (8, A8), (9, A9), (10, A10), (11, A11), (12, A12), (13, A13), (14, A14), (15, A15), (16, A16), (17, A17), (18, A18), (19, A19), (20, A20), (21, A21), (22, A22), (23, A23), (24, A24), (25, A25), (26, A26), (27, A27), (32, A32), (34, A34), (35, A35), (36, A36), (37, A37), (38, A38), (39, A39), (40, A40), (41, A41), (42, A42), (43, A43), (44, A44), (45, A45), (47, A47), (48, A48), (49, A49), (50, A50), (52, A52), (53, A53), (54, A54), (55, A55), (56, A56), (57, A57), (58, A58), (59, A59), (60, A60), (61, A61), (62, A62), (66, A66), (67, A67), (68, A68), (69, A69), (88, A88), (89, A89)]
noncomputable def E : Env := envP tbl prims
theorem primle : PrimLe E := envP_le prims_le
theorem d3 {n : Nat} {x0 : AV} {h : AHeap} {K : Kont} (s : s3 (callN E n) n x0 h K = true) : callN E (n + 1) (.func 3) [x0] h K = true := down primle rfl (w3_ok rfl) s
theorem d6 {n : Nat} {x0 : AV} {h : AHeap} {K : Kont} (s : s6 (callN E n) n x0 h K = true) : callN E (n + 1) (.func 6) [x0] h K = true := down primle rfl (w6_ok rfl) s
theorem d8 {n : Nat} {h : AHeap} {K : Kont} (s : s8 (callN E n) n  h K = true) : callN E (n + 1) (.func 8) [] h K = true := down primle rfl (w8_ok rfl) s
theorem d9 {n : Nat} {x0 : AV} {h : AHeap} {K : Kont} (s : s9 (callN E n) n x0 h K = true) : callN E (n + 1) (.func 9) [x0] h K = true := down primle rfl (w9_ok rfl) s
theorem d10 {n : Nat} {x0 x1 x2 : AV} {h : AHeap} {K : Kont} (s : s10 (callN E n) n x0 x1 x2 h K = true) : callN E (n + 1) (.func 10) [x0, x1, x2] h K = true := down primle rfl (w10_ok rfl) s
theorem d11 {n : Nat} {x0 x1 x2 x3 : AV} {h : AHeap} {K : Kont} (s : s11 (callN E n) n x0 x1 x2 x3 h K = true) : callN E (n + 1) (.func 11) [x0, x1, x2, x3] h K = true := down primle rfl (w11_ok rfl) s
theorem d12 {n : Nat} {x0 : AV} {h : AHeap} {K : Kont} (s : s12 (callN E n) n x0 h K = true) : callN E (n + 1) (.func 12) [x0] h K = true := down primle rfl (w12_ok rfl) s
theorem d13 {n : Nat} {x0 x1 : AV} {h : AHeap} {K : Kont} (s : s13 (callN E n) n x0 x1 h K = true) : callN E (n + 1) (.func 13) [x0, x1] h K = true := down primle rfl (w13_ok rfl) s
theorem d14 {n : Nat} {x0 x1 x2 : AV} {h : AHeap} {K : Kont} (s : s14 (callN E n) n x0 x1 x2 h K = true) : callN E (n + 1) (.func 14) [x0, x1, x2] h K = true := down primle rfl (w14_ok rfl) s
theorem d15 {n : Nat} {x0 x1 : AV} {h : AHeap} {K : Kont} (s : s15 (callN E n) n x0 x1 h K = true) : callN E (n + 1) (.func 15) [x0, x1] h K = true := down primle rfl (w15_ok rfl) s
theorem d16 {n : Nat} {x0 : AV} {h : AHeap} {K : Kont} (s : s16 (callN E n) n x0 h K = true) : callN E (n + 1) (.func 16) [x0] h K = true := down primle rfl (w16_ok rfl) s
theorem d17 {n : Nat} {x0 x1 : AV} {h : AHeap} {K : Kont} (s : s17 (callN E n) n x0 x1 h K = true) : callN E (n + 1) (.func 17) [x0, x1] h K = true := down primle rfl (w17_ok rfl) s
theorem d18 {n : Nat} {x0 x1 : AV} {h : AHeap} {K : Kont} (s : s18 (callN E n) n x0 x1 h K = true) : callN E (n + 1) (.func 18) [x0, x1] h K = true := down primle rfl (w18_ok rfl) s
theorem d19 {n : Nat} {x0 x1 : AV} {h : AHeap} {K : Kont} (s : s19 (callN E n) n x0 x1 h K = true) : callN E (n + 1) (.func 19) [x0, x1] h K = true := down primle rfl (w19_ok rfl) s
theorem d20 {n : Nat} {x0 x1 x2 : AV} {h : AHeap} {K : Kont} (s : s20 (callN E n) n x0 x1 x2 h K = true) : callN E (n + 1) (.func 20) [x0, x1, x2] h K = true := down primle rfl (w20_ok rfl) s
theorem d21 {n : Nat} {x0 : AV} {h : AHeap} {K : Kont} (s : s21 (callN E n) n x0 h K = true) : callN E (n + 1) (.func 21) [x0] h K = true := down primle rfl (w21_ok rfl) s
theorem d22 {n : Nat} {x0 : AV} {h : AHeap} {K : Kont} (s : s22 (callN E n) n x0 h K = true) : callN E (n + 1) (.func 22) [x0] h K = true := down primle rfl (w22_ok rfl) s
theorem d23 {n : Nat} {x0 : AV} {h : AHeap} {K : Kont} (s : s23 (callN E n) n x0 h K = true) : callN E (n + 1) (.func 23) [x0] h K = true := down primle rfl (w23_ok rfl) s
theorem d24 {n : Nat} {x0 x1 : AV} {h : AHeap} {K : Kont} (s : s24 (callN E n) n x0 x1 h K = true) : callN E (n + 1) (.func 24) [x0, x1] h K = true := down primle rfl (w24_ok rfl) s
theorem d25 {n : Nat} {x0 x1 x2 : AV} {h : AHeap} {K : Kont} (s : s25 (callN E n) n x0 x1 x2 h K = true) : callN E (n + 1) (.func 25) [x0, x1, x2] h K = true := down primle rfl (w25_ok rfl) s
theorem d26 {n : Nat} {x0 x1 : AV} {h : AHeap} {K : Kont} (s : s26 (callN E n) n x0 x1 h K = true) : callN E (n + 1) (.func 26) [x0, x1] h K = true := down primle rfl (w26_ok rfl) s
theorem d27 {n : Nat} {x0 x1 : AV} {h : AHeap} {K : Kont} (s : s27 (callN E n) n x0 x1 h K = true) : callN E (n + 1) (.func 27) [x0, x1] h K = true := down primle rfl (w27_ok rfl) s
theorem d32 {n : Nat} {x0 : AV} {h : AHeap} {K : Kont} (s : s32 (callN E n) n x0 h K = true) : callN E (n + 1) (.func 32) [x0] h K = true := down primle rfl (w32_ok rfl) s
theorem d34 {n : Nat} {x0 : AV} {h : AHeap} {K : Kont} (s : s34 (callN E n) n x0 h K = true) : callN E (n + 1) (.func 34) [x0] h K = true := down primle rfl (w34_ok rfl) s
theorem d35 {n : Nat} {x0 : AV} {h : AHeap} {K : Kont} (s : s35 (callN E n) n x0 h K = true) : callN E (n + 1) (.func 35) [x0] h K = true := down primle rfl (w35_ok rfl) s
theorem d36 {n : Nat} {x0 x1 : AV} {h : AHeap} {K : Kont} (s : s36 (callN E n) n x0 x1 h K = true) : callN E (n + 1) (.func 36) [x0, x1] h K = true := down primle rfl (w36_ok rfl) s
theorem d37 {n : Nat} {x0 : AV} {h : AHeap} {K : Kont} (s : s37 (callN E n) n x0 h K = true) : callN E (n + 1) (.func 37) [x0] h K = true := down primle rfl (w37_ok rfl) s
theorem d38 {n : Nat} {x0 : AV} {h : AHeap} {K : Kont} (s : s38 (callN E n) n x0 h K = true) : callN E (n + 1) (.func 38) [x0] h K = true := down primle rfl (w38_ok rfl) s
theorem d39 {n : Nat} {x0 : AV} {h : AHeap} {K : Kont} (s : s39 (callN E n) n x0 h K = true) : callN E (n + 1) (.func 39) [x0] h K = true := down primle rfl (w39_ok rfl) s
theorem d40 {n : Nat} {x0 : AV} {h : AHeap} {K : Kont} (s : s40 (callN E n) n x0 h K = true) : callN E (n + 1) (.func 40) [x0] h K = true := down primle rfl (w40_ok rfl) s
theorem d41 {n : Nat} {x0 : AV} {h : AHeap} {K : Kont} (s : s41 (callN E n) n x0 h K = true) : callN E (n + 1) (.func 41) [x0] h K = true := down primle rfl (w41_ok rfl) s
theorem d42 {n : Nat} {x0 : AV} {h : AHeap} {K : Kont} (s : s42 (callN E n) n x0 h K = true) : callN E (n + 1) (.func 42) [x0] h K = true := down primle rfl (w42_ok rfl) s
theorem d43 {n : Nat} {x0 x1 x2 : AV} {h : AHeap} {K : Kont} (s : s43 (callN E n) n x0 x1 x2 h K = true) : callN E (n + 1) (.func 43) [x0, x1, x2] h K = true := down primle rfl (w43_ok rfl) s
theorem d44 {n : Nat} {x0 x1 : AV} {h : AHeap} {K : Kont} (s : s44 (callN E n) n x0 x1 h K = true) : callN E (n + 1) (.func 44) [x0, x1] h K = true := down primle rfl (w44_ok rfl) s
theorem d45 {n : Nat} {x0 : AV} {h : AHeap} {K : Kont} (s : s45 (callN E n) n x0 h K = true) : callN E (n + 1) (.func 45) [x0] h K = true := down primle rfl (w45_ok rfl) s
theorem d47 {n : Nat} {x0 x1 x2 : AV} {h : AHeap} {K : Kont} (s : s47 (callN E n) n x0 x1 x2 h K = true) : callN E (n + 1) (.func 47) [x0, x1, x2] h K = true := down primle rfl (w47_ok rfl) s
theorem d48 {n : Nat} {x0 x1 x2 : AV} {h : AHeap} {K : Kont} (s : s48 (callN E n) n x0 x1 x2 h K = true) : callN E (n + 1) (.func 48) [x0, x1, x2] h K = true := down primle rfl (w48_ok rfl) s
theorem d49 {n : Nat} {x0 x1 : AV} {h : AHeap} {K : Kont} (s : s49 (callN E n) n x0 x1 h K = true) : callN E (n + 1) (.func 49) [x0, x1] h K = true := down primle rfl (w49_ok rfl) s
theorem d50 {n : Nat} {x0 : AV} {h : AHeap} {K : Kont} (s : s50 (callN E n) n x0 h K = true) : callN E (n + 1) (.func 50) [x0] h K = true := down primle rfl (w50_ok rfl) s
theorem d52 {n : Nat} {x0 x1 : AV} {h : AHeap} {K : Kont} (s : s52 (callN E n) n x0 x1 h K = true) : callN E (n + 1) (.func 52) [x0, x1] h K = true := down primle rfl (w52_ok rfl) s
theorem d53 {n : Nat} {x0 x1 : AV} {h : AHeap} {K : Kont} (s : s53 (callN E n) n x0 x1 h K = true) : callN E (n + 1) (.func 53) [x0, x1] h K = true := down primle rfl (w53_ok rfl) s
theorem d54 {n : Nat} {x0 x1 : AV} {h : AHeap} {K : Kont} (s : s54 (callN E n) n x0 x1 h K = true) : callN E (n + 1) (.func 54) [x0, x1] h K = true := down primle rfl (w54_ok rfl) s
theorem d55 {n : Nat} {x0 x1 : AV} {h : AHeap} {K : Kont} (s : s55 (callN E n) n x0 x1 h K = true) : callN E (n + 1) (.func 55) [x0, x1] h K = true := down primle rfl (w55_ok rfl) s
theorem d56 {n : Nat} {x0 : AV} {h : AHeap} {K : Kont} (s : s56 (callN E n) n x0 h K = true) : callN E (n + 1) (.func 56) [x0] h K = true := down primle rfl (w56_ok rfl) s
theorem d57 {n : Nat} {x0 : AV} {h : AHeap} {K : Kont} (s : s57 (callN E n) n x0 h K = true) : callN E (n + 1) (.func 57) [x0] h K = true := down primle rfl (w57_ok rfl) s
theorem d58 {n : Nat} {x0 x1 : AV} {h : AHeap} {K : Kont} (s : s58 (callN E n) n x0 x1 h K = true) : callN E (n + 1) (.func 58) [x0, x1] h K = true := down primle rfl (w58_ok rfl) s
theorem d59 {n : Nat} {x0 : AV} {h : AHeap} {K : Kont} (s : s59 (callN E n) n x0 h K = true) : callN E (n + 1) (.func 59) [x0] h K = true := down primle rfl (w59_ok rfl) s
theorem d60 {n : Nat} {x0 : AV} {h : AHeap} {K : Kont} (s : s60 (callN E n) n x0 h K = true) : callN E (n + 1) (.func 60) [x0] h K = true := down primle rfl (w60_ok rfl) s
theorem d61 {n : Nat} {x0 : AV} {h : AHeap} {K : Kont} (s : s61 (callN E n) n x0 h K = true) : callN E (n + 1) (.func 61) [x0] h K = true := down primle rfl (w61_ok rfl) s
theorem d62 {n : Nat} {x0 x1 : AV} {h : AHeap} {K : Kont} (s : s62 (callN E n) n x0 x1 h K = true) : callN E (n + 1) (.func 62) [x0, x1] h K = true := down primle rfl (w62_ok rfl) s
theorem d66 {n : Nat} {x0 x1 : AV} {h : AHeap} {K : Kont} (s : s66 (callN E n) n x0 x1 h K = true) : callN E (n + 1) (.func 66) [x0, x1] h K = true := down primle rfl (w66_ok rfl) s
theorem d67 {n : Nat} {x0 x1 : AV} {h : AHeap} {K : Kont} (s : s67 (callN E n) n x0 x1 h K = true) : callN E (n + 1) (.func 67) [x0, x1] h K = true := down primle rfl (w67_ok rfl) s
theorem d68 {n : Nat} {x0 x1 : AV} {h : AHeap} {K : Kont} (s : s68 (callN E n) n x0 x1 h K = true) : callN E (n + 1) (.func 68) [x0, x1] h K = true := down primle rfl (w68_ok rfl) s
theorem d69 {n : Nat} {x0 x1 : AV} {h : AHeap} {K : Kont} (s : s69 (callN E n) n x0 x1 h K = true) : callN E (n + 1) (.func 69) [x0, x1] h K = true := down primle rfl (w69_ok rfl) s
theorem d88 {n : Nat} {x0 : AV} {h : AHeap} {K : Kont} (s : s88 (callN E n) n x0 h K = true) : callN E (n + 1) (.func 88) [x0] h K = true := down primle rfl (w88_ok rfl) s
theorem d89 {n : Nat} {x0 x1 x2 : AV} {h : AHeap} {K : Kont} (s : s89 (callN E n) n x0 x1 x2 h K = true) : callN E (n + 1) (.func 89) [x0, x1, x2] h K = true := down primle rfl (w89_ok rfl) s
end Go.Proofs.Ytbamgdknkhhikaa
namespace Go.Ab
set_option linter.unusedSimpArgs false
set_option linter.unusedVariables false
abbrev Str := List Nat
structure But (x : Nat) (h h' : AHeap) : Prop where
  sz : h.sz ≤ h'.sz
  keep : ∀ j o, j ≠ x → h.get j = some o → h'.get j = some o
theorem But.refl (x : Nat) (h : AHeap) : But x h h := ⟨Nat.le_refl _, fun _ _ _ e => e⟩
theorem But.trans {x : Nat} {a b c : AHeap} (p : But x a b) (q : But x b c) : But x a c := ⟨Nat.le_trans p.sz q.sz, fun j o e h => q.keep j o e (p.keep j o e h)⟩
theorem But.of_ext {x : Nat} {h h' : AHeap} (e : Ext h h') : But x h h' := ⟨e.1, fun j o _ hj => e.2 j o hj⟩
theorem But.put (x : Nat) (h : AHeap) (o : AObj) : But x h (h.put x o) := ⟨by simp, fun j o' e hj => by rw [AHeap.get_put, if_neg e]; exact hj⟩
theorem But.ext {x : Nat} {h0 h h' : AHeap} (p : But x h h') (e : Ext h0 h) (k0 : h0.Ok) (hx : h0.sz ≤ x) : Ext h0 h' :=
  ⟨Nat.le_trans e.1 p.sz, fun j o hj => p.keep j o (by have := k0.lt hj; omega) (e.2 j o hj)⟩
theorem But.var {x j : Nat} {h h' : AHeap} {c : List AV} (p : But x h h') (V : Var h j c) (e : j ≠ x) : Var h' j c := by
  have V' : h.row j = some (VRow c) := V
  show h'.row j = _
  rw [AHeap.row_some] at V' ⊢
  exact p.keep j _ e V'
theorem keep_own {b : Nat} {h h' : AHeap} {n : Nat} {v : AV} {es : List (List AV)} (O : Own b h n v es) (p : ∀ j o, b ≤ j → h.get j = some o → h'.get j = some o) : Own b h' n v es := by
  rcases O with V | ⟨id, r, w1, w2, w3, w4, w5, w6, w7⟩
  · exact .inl V
  · exact .inr ⟨id, r, w1, w2, by rw [AHeap.row_some] at w3 ⊢; exact p _ _ w1 w3, w4, w5, w6, w7⟩
theorem But.own {x b : Nat} {h h' : AHeap} {n : Nat} {v : AV} {es : List (List AV)} (p : But x h h') (O : Own b h n v es) (e : x < b) : Own b h' n v es :=
  keep_own O fun j o hj g => p.keep j o (by omega) g
theorem get_push_same (h : AHeap) (o : AObj) : (h.push o).get h.sz = some o := by rw [AHeap.get_push, if_pos rfl]
theorem get_put_same (h : AHeap) (id : Nat) (o : AObj) : (h.put id o).get id = some o := by rw [AHeap.get_put, if_pos rfl]
theorem same_int (k : IntKind) (a : Int) : AV.same (.int k a) (.int k a) = true := by
  simp only [AV.same, Nat.beq_refl, Bool.true_and]; rw [ieqb_dec]; simp
theorem same_str (s : Str) : AV.same (.str s) (.str s) = true := by
  simp only [AV.same]; rw [leqb_dec]; simp
theorem same_bool (b : Bool) : AV.same (.bool b) (.bool b) = true := by cases b <;> rfl
theorem same_ptr (a b c d : Nat) : AV.same (.ptr a b c d) (.ptr a b c d) = true := by
  simp only [AV.same, Nat.beq_refl, Bool.and_self]
theorem same_slc (a b c d e : Nat) (f : Bool) : AV.same (.slc a b c d e f) (.slc a b c d e f) = true := by
  simp only [AV.same, Nat.beq_refl, Bool.and_self, Bool.true_and]; cases f <;> rfl
theorem o_fadr0 (off a b c : Nat) (k : AV → Bool) : optB (fadrA off (.ptr a b c 0)) k = k (.ptr a b c off) := by rw [fadrA_ptr, Nat.zero_add]; rfl
theorem o_lss (K : IntKind) (a b : Int) (k : AV → Bool) : optB (binA .lss (.int K a) (.int K b)) k = k (.bool (decide (a < b))) := by rw [binA_lss]; rfl
theorem o_gtr (K : IntKind) (a b : Int) (k : AV → Bool) : optB (binA .gtr (.int K a) (.int K b)) k = k (.bool (decide (b < a))) := by rw [binA_gtr]; rfl
theorem o_leq (K : IntKind) (a b : Int) (k : AV → Bool) : optB (binA .leq (.int K a) (.int K b)) k = k (.bool (decide (a ≤ b))) := by rw [binA_leq]; rfl
theorem o_geq (K : IntKind) (a b : Int) (k : AV → Bool) : optB (binA .geq (.int K a) (.int K b)) k = k (.bool (decide (b ≤ a))) := by rw [binA_geq]; rfl
theorem o_eql (K : IntKind) (a b : Int) (k : AV → Bool) : optB (binA .eql (.int K a) (.int K b)) k = k (.bool (decide (a = b))) := by rw [binA_eql]; rfl
theorem o_neq (K : IntKind) (a b : Int) (k : AV → Bool) : optB (binA .neq (.int K a) (.int K b)) k = k (.bool (!decide (a = b))) := by rw [binA_neq]; rfl
def encB (s : Str) : List (List AV) := s.map fun (b : Nat) => [AV.int .u8 (b : Int)]
theorem bytesOf_enc : ∀ (s : Str), (∀ b ∈ s, b < 256) → bytesOf (encB s) = some s
  | [], _ => rfl
  | b :: s, h => by
    show bytesOf ([AV.int .u8 (.ofNat b)] :: encB s) = _
    simp only [bytesOf, bytesOf_enc s (fun c hc => h c (List.mem_cons_of_mem _ hc)), nblt_true.2 (h b List.mem_cons_self), cond_true]
theorem View.atE {h : AHeap} {n : Nat} {v : AV} {es : List (List AV)} (V : View h n v es) {i : Nat} {e : List AV} (hi : es[i]? = some e) :
    ∃ id g j, ∀ h', Ext h h' → (∀ k, iadrA h' n v (.int k (i : Int)) = some (.ptr id g j 0)) ∧ ∀ ag off m, loadA h' ag m (.ptr id g j off) = partA ag off m e := by
  rcases V with ⟨rfl, _⟩ | ⟨id, g, s, cap, ex, r, rfl, h2, h3, h4, h5, h6⟩
  · simp at hi
  · have hlt : i < es.length := (List.getElem?_eq_some_iff.1 hi).1
    refine ⟨id, g, s + i, fun h' e' => ?_⟩
    have h2' := e'.row h2
    refine ⟨fun k => ?_, fun ag off m => ?_⟩
    · have : rowSz h' id n = true := by simp only [rowSz, h2', nbeq_true]; exact h4
      simp only [iadrA, asNat_nat, nblt_true.2 hlt, this, Bool.and_self, cond_true]
    · have hn : nth r.es (s + i) = some e := by
        rw [nth_eq]
        rw [← h5, List.getElem?_take] at hi
        simp only [hlt, if_true, List.getElem?_drop] at hi
        exact hi
      simp only [loadA, h2', nble_true.2 h3, cond_true, hn]
end Go.Ab
namespace Go.Ab
set_option linter.unusedSimpArgs false
set_option linter.unusedVariables false
structure Fr (X : Nat → Prop) (h h' : AHeap) : Prop where
  sz : h.sz ≤ h'.sz
  keep : ∀ j o, ¬ X j → h.get j = some o → h'.get j = some o
section
variable {X Y : Nat → Prop} {h h' h'' h0 : AHeap}
theorem Fr.refl (X : Nat → Prop) (h : AHeap) : Fr X h h := ⟨Nat.le_refl _, fun _ _ _ e => e⟩
theorem Fr.trans (p : Fr X h h') (q : Fr X h' h'') : Fr X h h'' := ⟨Nat.le_trans p.sz q.sz, fun j o e g => q.keep j o e (p.keep j o e g)⟩
theorem Fr.mono (p : Fr X h h') (i : ∀ j, X j → Y j) : Fr Y h h' := ⟨p.sz, fun j o e g => p.keep j o (fun x => e (i j x)) g⟩
theorem Fr.of_ext (e : Ext h h') : Fr X h h' := ⟨e.1, fun j o _ g => e.2 j o g⟩
theorem Fr.put {id : Nat} (hx : X id) (h : AHeap) (o : AObj) : Fr X h (h.put id o) := ⟨by simp, fun j o' e g => by rw [AHeap.get_put, if_neg (fun e' => e (by rw [e']; exact hx))]; exact g⟩
theorem Fr.of_but {id : Nat} (hx : X id) (b : But id h h') : Fr X h h' := ⟨b.sz, fun j o e g => b.keep j o (fun e' => e (by rw [e']; exact hx)) g⟩
theorem Fr.ext (p : Fr X h h') (e : Ext h0 h) (k0 : h0.Ok) (hx : ∀ j, X j → h0.sz ≤ j) : Ext h0 h' :=
  ⟨Nat.le_trans e.1 p.sz, fun j o hj => p.keep j o (fun x => by have := k0.lt hj; have := hx j x; omega) (e.2 j o hj)⟩
theorem Fr.new (p : Fr X h h') (q : Fr (fun j => X j ∨ h.sz ≤ j) h' h'') (k : h.Ok) : Fr X h h'' :=
  ⟨Nat.le_trans p.sz q.sz, fun j o e g => q.keep j o (fun x => by rcases x with x | x; exact e x; have := k.lt g; omega) (p.keep j o e g)⟩
theorem Fr.row {j : Nat} {r : Row} (p : Fr X h h') (e : ¬ X j) (g : h.row j = some r) : h'.row j = some r := by
  rw [AHeap.row_some] at *; exact p.keep j _ e g
theorem Fr.var {j : Nat} {c : List AV} (p : Fr X h h') (V : Var h j c) (e : ¬ X j) : Var h' j c := p.row e V
theorem Fr.view {n : Nat} {v : AV} {es : List (List AV)} (p : Fr X h h') (V : View h n v es) (e : ∀ id g s l c ex, v = .slc id g s l c ex → ¬ X id) : View h' n v es := by
  rcases V with h1 | ⟨id, g, s, cap, ex, r, rfl, h2, h3⟩
  · exact .inl h1
  · exact .inr ⟨id, g, s, cap, ex, r, rfl, p.row (e _ _ _ _ _ _ rfl) h2, h3⟩
end
section
variable {κ : Type}
def lk [DecidableEq κ] : List (κ × AV) → κ → Option AV
  | [], _ => none
  | p :: t, k => if k = p.1 then some p.2 else lk t k
def up [DecidableEq κ] : List (κ × AV) → κ → AV → List (κ × AV)
  | [], k, v => [(k, v)]
  | p :: t, k, v => if k = p.1 then (k, v) :: t else p :: up t k v
def dl [DecidableEq κ] : List (κ × AV) → κ → List (κ × AV)
  | [], _ => []
  | p :: t, k => if k = p.1 then t else p :: dl t k
structure Keys [DecidableEq κ] (kk : KK) (ek : κ → AV) : Prop where
  fits : ∀ k, fitsKK kk (ek k) = true
  eq : ∀ a b, keyEq (ek a) (ek b) = some (decide (a = b))
inductive Ents (ek : κ → AV) : List (AV × AV × Nat) → List (κ × AV) → Prop
  | nil : Ents ek [] []
  | cons {k : κ} {v : AV} {b : Nat} {es : List (AV × AV × Nat)} {l : List (κ × AV)} (t : Ents ek es l) : Ents ek ((ek k, v, b) :: es) ((k, v) :: l)
structure KMapE (ek : κ → AV) (h : AHeap) (id : Nat) (es : List (AV × AV × Nat)) (c : Nat) (l : List (κ × AV)) : Prop where
  get : h.get id = some (.map es c)
  ents : Ents ek es l
  born : ∀ e ∈ es, e.2.2 < c
  nd : (es.map fun e => e.2.2).Nodup
  keys : (l.map fun p => p.1).Nodup
def KMap (ek : κ → AV) (h : AHeap) (id : Nat) (l : List (κ × AV)) : Prop := ∃ es c, KMapE ek h id es c l
variable {kk : KK} {ek : κ → AV} {h h' : AHeap} {id : Nat} {l : List (κ × AV)}
theorem up_keys [DecidableEq κ] {k : κ} {v : AV} : ∀ {l : List (κ × AV)}, (l.map fun p => p.1).Nodup → ((up l k v).map fun p => p.1).Nodup ∧ ∀ x, x ∈ (up l k v).map (fun p => p.1) → x = k ∨ x ∈ l.map fun p => p.1
  | [], _ => by simp [up]
  | p :: t, hn => by
    simp only [List.map_cons, List.nodup_cons] at hn
    obtain ⟨i1, i2⟩ := up_keys (k := k) (v := v) hn.2
    simp only [up]
    by_cases e : k = p.1
    · rw [if_pos e]
      subst e
      exact ⟨by simp only [List.map_cons, List.nodup_cons]; exact hn, fun x hx => .inr (by simpa using hx)⟩
    · rw [if_neg e]
      refine ⟨?_, fun x hx => ?_⟩
      · simp only [List.map_cons, List.nodup_cons]
        refine ⟨fun hm => ?_, i1⟩
        rcases i2 _ hm with e' | hm
        · exact e e'.symm
        · exact hn.1 hm
      · simp only [List.map_cons, List.mem_cons] at hx ⊢
        rcases hx with hx | hx
        · exact .inr (.inl hx)
        · rcases i2 x hx with hx | hx
          · exact .inl hx
          · exact .inr (.inr hx)
theorem dl_sub [DecidableEq κ] {k : κ} : ∀ {l : List (κ × AV)}, (dl l k).Sublist l
  | [] => .slnil
  | p :: t => by
    simp only [dl]
    by_cases e : k = p.1
    · rw [if_pos e]; exact List.sublist_cons_self _ _
    · rw [if_neg e]; exact dl_sub.cons_cons _
theorem Ents.find [DecidableEq κ] (K : Keys kk ek) (k : κ) {es : List (AV × AV × Nat)} {l : List (κ × AV)} (E : Ents ek es l) : findE (ek k) es = some (lk l k) := by
  induction E with
  | nil => rfl
  | cons t ih =>
    rename_i k' v b es l
    simp only [findE, K.eq, lk]
    by_cases e : k = k'
    · rw [decide_eq_true e, if_pos e]
    · rw [decide_eq_false e, if_neg e]; exact ih
theorem Ents.set [DecidableEq κ] (K : Keys kk ek) (k : κ) (v : AV) {es : List (AV × AV × Nat)} {l : List (κ × AV)} (E : Ents ek es l) (hs : lk l k ≠ none) : Ents ek (setE (ek k) v es) (up l k v) ∧ (setE (ek k) v es).map (fun e => e.2.2) = es.map fun e => e.2.2 := by
  induction E with
  | nil => exact absurd rfl hs
  | cons t ih =>
    rename_i k' v' b es l
    simp only [setE, K.eq, up]
    simp only [lk] at hs
    by_cases e : k = k'
    · rw [decide_eq_true e, if_pos e]
      exact ⟨.cons t, rfl⟩
    · rw [if_neg e] at hs
      rw [decide_eq_false e, if_neg e]
      obtain ⟨i1, i2⟩ := ih hs
      exact ⟨.cons i1, by simp only [List.map_cons, i2]⟩
theorem Ents.add [DecidableEq κ] {k : κ} {v : AV} {c : Nat} {es : List (AV × AV × Nat)} {l : List (κ × AV)} (E : Ents ek es l) (hs : lk l k = none) : Ents ek (es ++ [(ek k, v, c)]) (up l k v) := by
  induction E with
  | nil => exact .cons .nil
  | cons t ih =>
    rename_i k' v' b es l
    simp only [lk] at hs
    simp only [up, List.cons_append]
    by_cases e : k = k'
    · rw [if_pos e] at hs; cases hs
    · rw [if_neg e] at hs ⊢
      exact .cons (ih hs)
theorem Ents.del [DecidableEq κ] (K : Keys kk ek) (k : κ) {es : List (AV × AV × Nat)} {l : List (κ × AV)} (E : Ents ek es l) : Ents ek (delE (ek k) es) (dl l k) ∧ (delE (ek k) es).Sublist es := by
  induction E with
  | nil => exact ⟨.nil, .slnil⟩
  | cons t ih =>
    rename_i k' v' b es l
    simp only [delE, K.eq, dl]
    by_cases e : k = k'
    · rw [decide_eq_true e, if_pos e]
      exact ⟨t, List.sublist_cons_self _ _⟩
    · rw [decide_eq_false e, if_neg e]
      exact ⟨.cons ih.1, ih.2.cons_cons _⟩
theorem Ents.length {es : List (AV × AV × Nat)} {l : List (κ × AV)} (E : Ents ek es l) : es.length = l.length := by
  induction E with
  | nil => rfl
  | cons t ih => simp [ih]
theorem dl_none [DecidableEq κ] {k : κ} : ∀ {l : List (κ × AV)}, lk l k = none → dl l k = l
  | [], _ => rfl
  | p :: t, hs => by
    simp only [lk] at hs
    simp only [dl]
    by_cases e : k = p.1
    · rw [if_pos e] at hs; cases hs
    · rw [if_neg e] at hs ⊢
      rw [dl_none hs]
theorem kmap_new (h : AHeap) : mkmapV h = some (.map h.sz, h.push (.map [] 0)) ∧ KMap ek (h.push (.map [] 0)) h.sz ([] : List (κ × AV)) :=
  ⟨rfl, [], 0, by rw [AHeap.get_push, if_pos rfl], .nil, by simp, by simp, by simp⟩
theorem KMap.lt (M : KMap ek h id l) (k : h.Ok) : id < h.sz := by obtain ⟨es, c, m⟩ := M; exact k.lt m.get
theorem KMap.keys (M : KMap ek h id l) : (l.map fun p => p.1).Nodup := by obtain ⟨es, c, m⟩ := M; exact m.keys
theorem Fr.kmap {X : Nat → Prop} (p : Fr X h h') (M : KMap ek h id l) (e : ¬ X id) : KMap ek h' id l := by
  obtain ⟨es, c, m⟩ := M
  exact ⟨es, c, p.keep _ _ e m.get, m.ents, m.born, m.nd, m.keys⟩
theorem KMap.look [DecidableEq κ] (M : KMap ek h id l) (K : Keys kk ek) (z : AV) (k : κ) : lookA h kk false z (.map id) (ek k) = some ((lk l k).getD z) := by
  obtain ⟨es, c, m⟩ := M
  simp only [lookA, K.fits, cond_true, mapOf, m.get, m.ents.find K]
  cases lk l k <;> rfl
theorem KMap.look2 [DecidableEq κ] (M : KMap ek h id l) (K : Keys kk ek) (z : AV) (k : κ) : lookA h kk true z (.map id) (ek k) = some (.tup [(lk l k).getD z, .bool (lk l k).isSome]) := by
  obtain ⟨es, c, m⟩ := M
  simp only [lookA, K.fits, cond_true, mapOf, m.get, m.ents.find K]
  cases lk l k <;> rfl
theorem KMap.len (M : KMap ek h id l) : lenA h 2 (.map id) = some (.int .i64 (l.length : Int)) := by
  obtain ⟨es, c, m⟩ := M
  simp only [lenA, m.get, m.ents.length]; rfl
theorem KMap.upd [DecidableEq κ] (M : KMap ek h id l) (K : Keys kk ek) (k : κ) (v : AV) : ∃ h', mupdA h kk (.map id) (ek k) v = some h' ∧ But id h h' ∧ h'.sz = h.sz ∧ (h.Ok → h'.Ok) ∧ KMap ek h' id (up l k v) := by
  obtain ⟨es, c, m⟩ := M
  have hid := m.get
  cases hl : lk l k with
  | none =>
    refine ⟨h.put id (.map (es ++ [(ek k, v, c)]) (c + 1)), ?_, But.put _ _ _, by simp, fun o => o.put (o.lt m.get) _, es ++ [(ek k, v, c)], c + 1, by rw [AHeap.get_put, if_pos rfl], m.ents.add hl, ?_, ?_, (up_keys m.keys).1⟩
    · simp only [mupdA, K.fits, cond_true, m.get, m.ents.find K, hl]
    · intro e he
      rcases List.mem_append.1 he with he | he
      · have := m.born e he; omega
      · simp only [List.mem_singleton] at he; subst he; simp
    · rw [List.map_append, List.nodup_append]
      refine ⟨m.nd, by simp, fun a ha b hb => ?_⟩
      obtain ⟨e, he, rfl⟩ := List.mem_map.1 ha
      have := m.born e he
      simp at hb; omega
  | some u =>
    obtain ⟨i1, i2⟩ := m.ents.set K k v (by rw [hl]; exact fun e => by cases e)
    refine ⟨h.put id (.map (setE (ek k) v es) c), ?_, But.put _ _ _, by simp, fun o => o.put (o.lt m.get) _, setE (ek k) v es, c, by rw [AHeap.get_put, if_pos rfl], i1, ?_, by rw [i2]; exact m.nd, (up_keys m.keys).1⟩
    · simp only [mupdA, K.fits, cond_true, m.get, m.ents.find K, hl]
    · intro e he
      have : e.2.2 ∈ (setE (ek k) v es).map fun e => e.2.2 := List.mem_map.2 ⟨e, he, rfl⟩
      rw [i2] at this
      obtain ⟨e', he', heq⟩ := List.mem_map.1 this
      rw [← heq]; exact m.born e' he'
theorem KMap.del [DecidableEq κ] (M : KMap ek h id l) (K : Keys kk ek) (k : κ) : ∃ h', delA h kk (.map id) (ek k) = some h' ∧ But id h h' ∧ h'.sz = h.sz ∧ (h.Ok → h'.Ok) ∧ KMap ek h' id (dl l k) := by
  obtain ⟨es, c, m⟩ := M
  cases hl : lk l k with
  | none =>
    refine ⟨h, ?_, But.refl _ _, rfl, fun o => o, es, c, by rw [dl_none hl]; exact m⟩
    simp only [delA, K.fits, cond_true, m.get, m.ents.find K, hl]
  | some u =>
    obtain ⟨i1, i2⟩ := m.ents.del K k
    refine ⟨h.put id (.map (delE (ek k) es) c), ?_, But.put _ _ _, by simp, fun o => o.put (o.lt m.get) _, delE (ek k) es, c, by rw [AHeap.get_put, if_pos rfl], i1, fun e he => m.born e (i2.subset he), m.nd.sublist (i2.map _), m.keys.sublist (dl_sub.map _)⟩
    simp only [delA, K.fits, cond_true, m.get, m.ents.find K, hl]
def KIter (ek : κ → AV) (h : AHeap) (it id : Nat) (l done : List (κ × AV)) : Prop :=
  ∃ es c de, KMapE ek h id es c l ∧ Ents ek de done ∧ (∀ e ∈ de, e ∈ es) ∧ (de.map fun e => e.2.2).Nodup ∧ h.get it = some (.iter (some id) c ((de.map fun e => e.2.2).reverse) c)
theorem Fr.kiter {X : Nat → Prop} {it : Nat} {done : List (κ × AV)} (p : Fr X h h') (M : KIter ek h it id l done) (e1 : ¬ X it) (e2 : ¬ X id) : KIter ek h' it id l done := by
  obtain ⟨es, c, de, m, h1, h2, h3, h4⟩ := M
  exact ⟨es, c, de, ⟨p.keep _ _ e2 m.get, m.ents, m.born, m.nd, m.keys⟩, h1, h2, h3, p.keep _ _ e1 h4⟩
theorem KIter.map {it : Nat} {done : List (κ × AV)} (M : KIter ek h it id l done) : KMap ek h id l := by
  obtain ⟨es, c, de, m, _⟩ := M; exact ⟨es, c, m⟩
theorem KMap.range (M : KMap ek h id l) (o : h.Ok) : rngA h (.map id) = some (.itr h.sz, h.push (.iter (some id) ((h.push (.map [] 0)).sz - 1 - h.sz + (match h.get id with | some (.map _ c) => c | _ => 0)) [] (match h.get id with | some (.map _ c) => c | _ => 0))) ∧
    KIter ek (h.push (.iter (some id) ((h.push (.map [] 0)).sz - 1 - h.sz + (match h.get id with | some (.map _ c) => c | _ => 0)) [] (match h.get id with | some (.map _ c) => c | _ => 0))) h.sz id l [] := by
  obtain ⟨es, c, m⟩ := M
  have hlt := o.lt m.get
  simp only [m.get, AHeap.sz_push, Nat.add_sub_cancel, Nat.sub_self, Nat.zero_add]
  refine ⟨by simp only [rngA, m.get], es, c, [], ⟨?_, m.ents, m.born, m.nd, m.keys⟩, .nil, by simp, by simp, by rw [AHeap.get_push, if_pos rfl]; rfl⟩
  rw [AHeap.get_push, if_neg (by omega)]; exact m.get
theorem KMap.range' (M : KMap ek h id l) (o : h.Ok) : ∃ h', rngA h (.map id) = some (.itr h.sz, h') ∧ Ext h h' ∧ h'.Ok ∧ h'.sz = h.sz + 1 ∧ KIter ek h' h.sz id l [] := by
  obtain ⟨h1, h2⟩ := M.range o
  exact ⟨_, h1, ext_push o _, o.push _, by simp, h2⟩
theorem findBorn_mem {es : List (AV × AV × Nat)} (hn : (es.map fun e => e.2.2).Nodup) {e : AV × AV × Nat} (he : e ∈ es) : findBorn e.2.2 es = some e := by
  induction es with
  | nil => cases he
  | cons a t ih =>
    simp only [List.map_cons, List.nodup_cons] at hn
    simp only [findBorn]
    rcases List.mem_cons.1 he with rfl | he
    · rw [nbeq_true.2 rfl, cond_true]
    · have : a.2.2 ≠ e.2.2 := fun q => hn.1 (by rw [q]; exact List.mem_map.2 ⟨e, he, rfl⟩)
      rw [nbeq_false.2 this, cond_false]
      exact ih hn.2 he
theorem Ents.mem {es : List (AV × AV × Nat)} {l : List (κ × AV)} (E : Ents ek es l) {e : AV × AV × Nat} (he : e ∈ es) : ∃ k, e.1 = ek k ∧ (k, e.2.1) ∈ l := by
  induction E with
  | nil => cases he
  | cons t ih =>
    rename_i k v b es l
    rcases List.mem_cons.1 he with rfl | he
    · exact ⟨k, rfl, List.mem_cons_self⟩
    · obtain ⟨k', h1, h2⟩ := ih he
      exact ⟨k', h1, List.mem_cons_of_mem _ h2⟩
theorem Ents.append {es fs : List (AV × AV × Nat)} {l m : List (κ × AV)} (E : Ents ek es l) (F : Ents ek fs m) : Ents ek (es ++ fs) (l ++ m) := by
  induction E with
  | nil => exact F
  | cons t ih => exact .cons ih
theorem Ents.mem' {es : List (AV × AV × Nat)} {l : List (κ × AV)} (E : Ents ek es l) {p : κ × AV} (hp : p ∈ l) : ∃ b, (ek p.1, p.2, b) ∈ es := by
  induction E with
  | nil => cases hp
  | cons t ih =>
    rename_i k v b es l
    rcases List.mem_cons.1 hp with rfl | hp
    · exact ⟨b, List.mem_cons_self⟩
    · obtain ⟨b', h1⟩ := ih hp
      exact ⟨b', List.mem_cons_of_mem _ h1⟩
theorem Keys.inj [DecidableEq κ] (K : Keys kk ek) {a b : κ} (e : ek a = ek b) : a = b := by
  have h1 := K.eq a b
  have h2 := K.eq a a
  rw [← e, h2] at h1
  simp at h1
  exact h1
theorem Ents.uniq [DecidableEq κ] (K : Keys kk ek) {es : List (AV × AV × Nat)} {l : List (κ × AV)} (E : Ents ek es l) (hk : (l.map fun p => p.1).Nodup) {e f : AV × AV × Nat} (he : e ∈ es) (hf : f ∈ es) (h1 : e.1 = f.1) : e = f := by
  induction E with
  | nil => cases he
  | cons t ih =>
    rename_i k v b es l
    simp only [List.map_cons, List.nodup_cons] at hk
    have no : ∀ x ∈ es, x.1 ≠ ek k := by
      intro x hx q
      obtain ⟨k', q1, q2⟩ := t.mem hx
      have : k = k' := K.inj (by rw [← q, q1])
      subst this
      exact hk.1 (List.mem_map.2 ⟨_, q2, rfl⟩)
    rcases List.mem_cons.1 he with rfl | he <;> rcases List.mem_cons.1 hf with rfl | hf
    · rfl
    · exact absurd h1.symm (no f hf)
    · exact absurd h1 (no e he)
    · exact ih hk.2 he hf
theorem KIter.next [DecidableEq κ] (K : Keys kk ek) {it : Nat} {done : List (κ × AV)} {Kt : Kont} (M : KIter ek h it id l done) (o : h.Ok) (hne : it ≠ id) (kE : done.Perm l → Kt (.tup [.bool false]) h = true)
    (kN : ∀ k v h', (k, v) ∈ l → (k, v) ∉ done → But it h h' → h'.Ok → h'.sz = h.sz → KIter ek h' it id l (done ++ [(k, v)]) → entA h' (.itr it) = some (.tup [ek k, v]) → Kt (.tup [.bool true, ek k, v]) h' = true) : nextA h (.itr it) Kt = true := by
  obtain ⟨es, c, de, m, h1, h2, h3, h4⟩ := M
  have hc : ∀ e ∈ es, Nat.blt e.2.2 c = true := fun e he => nblt_true.2 (m.born e he)
  have hdn : ∀ p, p ∈ done ↔ ∃ e ∈ de, e.1 = ek p.1 ∧ e.2.1 = p.2 := by
    intro p
    constructor
    · intro hp
      obtain ⟨b, hb⟩ := h1.mem' hp
      exact ⟨_, hb, rfl, rfl⟩
    · rintro ⟨e, he, e1, e2⟩
      obtain ⟨k, q1, q2⟩ := h1.mem he
      have : k = p.1 := K.inj (by rw [← q1, e1])
      subst this
      rw [e2] at q2
      exact q2
  have hdu : de.Nodup := by
    rw [List.nodup_iff_pairwise_ne] at h3 ⊢
    rw [List.pairwise_map] at h3
    exact h3.imp fun q e => q (by rw [e])
  unfold nextA
  simp only [h4, m.get]
  have hg : (!((de.map fun e => e.2.2).reverse).isEmpty && !es.isEmpty && es.all fun e => !Nat.blt e.2.2 c) = false := by
    cases hes : es with
    | nil => simp
    | cons a t =>
      have := hc a (by rw [hes]; exact List.mem_cons_self)
      simp [this]
  rw [hg, cond_false, List.all_eq_true]
  intro x hx
  have hcand : x = none ∧ (∀ e ∈ es, e ∈ de) ∨ ∃ e, x = some e ∧ e ∈ es ∧ e ∉ de := by
    simp only [cands] at hx
    have hmem : ∀ e ∈ es, (memN e.2.2 ((de.map fun e => e.2.2).reverse) = true ↔ e ∈ de) := by
      intro e he
      rw [memN_iff, List.mem_reverse]
      constructor
      · intro q
        obtain ⟨f, hf, q⟩ := List.mem_map.1 q
        have a1 := findBorn_mem m.nd he
        have a2 := findBorn_mem m.nd (h2 f hf)
        rw [q, a1] at a2
        cases a2; exact hf
      · intro q; exact List.mem_map.2 ⟨e, q, rfl⟩
    rcases List.mem_append.1 hx with hx | hx
    · refine .inl ?_
      cases he : (List.filter (fun e => Nat.blt e.2.2 c) (List.filter (fun e => !memN e.2.2 ((de.map fun e => e.2.2).reverse)) es)).isEmpty with
      | false => rw [he] at hx; cases hx
      | true =>
        rw [he] at hx
        simp only [cond_true, List.mem_singleton] at hx
        refine ⟨hx, fun e hee => ?_⟩
        rw [List.isEmpty_iff] at he
        cases hm : memN e.2.2 ((de.map fun e => e.2.2).reverse) with
        | true => exact (hmem e hee).1 hm
        | false =>
          have : e ∈ List.filter (fun e => Nat.blt e.2.2 c) (List.filter (fun e => !memN e.2.2 ((de.map fun e => e.2.2).reverse)) es) := by
            rw [List.mem_filter, List.mem_filter]
            exact ⟨⟨hee, by rw [hm]; rfl⟩, hc e hee⟩
          rw [he] at this; cases this
    · obtain ⟨e, he, rfl⟩ := List.mem_map.1 hx
      refine .inr ⟨e, rfl, ?_⟩
      have : e ∈ List.filter (fun e => !memN e.2.2 ((de.map fun e => e.2.2).reverse)) es := by
        rcases List.mem_append.1 he with he | he <;> exact (List.mem_filter.1 he).1
      rw [List.mem_filter] at this
      refine ⟨this.1, fun q => ?_⟩
      have := this.2
      rw [(hmem e (h2 e q)).2 q] at this
      cases this
  rcases hcand with ⟨rfl, hall⟩ | ⟨e, rfl, hes, hde⟩
  · refine kE ?_
    have hdd : (done.map fun p => p.1).Nodup := by
      rw [List.nodup_iff_pairwise_ne, List.pairwise_map]
      have : ∀ {de : List (AV × AV × Nat)} {done : List (κ × AV)}, Ents ek de done → (∀ e ∈ de, e ∈ es) → de.Nodup → done.Pairwise fun a b => a.1 ≠ b.1 := by
        intro de done E
        induction E with
        | nil => intro _ _; exact .nil
        | cons t ih =>
          rename_i k v b es' l'
          intro hsub hnd
          rw [List.nodup_cons] at hnd
          refine .cons (fun p hp q => ?_) (ih (fun e he => hsub e (List.mem_cons_of_mem _ he)) hnd.2)
          obtain ⟨b', hb'⟩ := t.mem' hp
          have := m.ents.uniq K m.keys (hsub _ List.mem_cons_self) (hsub _ (List.mem_cons_of_mem _ hb')) (by show ek k = ek p.1; rw [show k = p.1 from q])
          rw [this] at hnd
          exact hnd.1 hb'
      exact this h1 h2 hdu
    refine (List.perm_ext_iff_of_nodup ?_ ?_).2 fun p => ⟨fun hp => ?_, fun hp => ?_⟩
    · rw [List.nodup_iff_pairwise_ne] at hdd ⊢
      rw [List.pairwise_map] at hdd
      exact hdd.imp fun q e => q (by rw [e])
    · have hk := m.keys
      rw [List.nodup_iff_pairwise_ne] at hk ⊢
      rw [List.pairwise_map] at hk
      exact hk.imp fun q e => q (by rw [e])
    · obtain ⟨e, he, q1, q2⟩ := (hdn p).1 hp
      obtain ⟨k, q3, q4⟩ := m.ents.mem (h2 e he)
      have : k = p.1 := K.inj (by rw [← q3, q1])
      subst this
      rw [q2] at q4; exact q4
    · obtain ⟨b, hb⟩ := m.ents.mem' hp
      exact (hdn p).2 ⟨_, hall _ hb, rfl, rfl⟩
  · obtain ⟨k, q1, q2⟩ := m.ents.mem hes
    obtain ⟨ek1, v, b⟩ := e
    simp only at q1 q2
    subst q1
    show Kt (.tup [.bool true, ek k, v]) _ = true
    have gm : (h.put it (.iter (some id) c (b :: (de.map fun e => e.2.2).reverse) c)).get id = some (.map es c) := by
      rw [AHeap.get_put, if_neg (fun e => hne e.symm)]; exact m.get
    have gi : (h.put it (.iter (some id) c (b :: (de.map fun e => e.2.2).reverse) c)).get it = some (.iter (some id) c (b :: (de.map fun e => e.2.2).reverse) c) := get_put_same _ _ _
    refine kN k v _ q2 (fun hp => ?_) (But.put _ _ _) (o.put (o.lt h4) _) (by simp) ⟨es, c, de ++ [(ek k, v, b)], ⟨gm, m.ents, m.born, m.nd, m.keys⟩, h1.append (.cons .nil), ?_, ?_, ?_⟩ ?_
    · obtain ⟨f, hf, r1, r2⟩ := (hdn _).1 hp
      have := m.ents.uniq K m.keys hes (h2 f hf) (by simp only at r1; rw [r1])
      rw [this] at hde
      exact hde hf
    · intro e he
      rcases List.mem_append.1 he with he | he
      · exact h2 e he
      · simp only [List.mem_singleton] at he; subst he; exact hes
    · rw [List.map_append, List.nodup_append]
      refine ⟨h3, by simp, fun a ha b' hb' q => ?_⟩
      simp only [List.map_cons, List.map_nil, List.mem_singleton] at hb'
      subst hb'; subst q
      obtain ⟨f, hf, r⟩ := List.mem_map.1 ha
      have a1 := findBorn_mem m.nd hes
      have a2 := findBorn_mem m.nd (h2 f hf)
      simp only at a1 r
      rw [r, a1] at a2
      cases a2; exact hde hf
    · rw [gi, List.map_append, List.reverse_append]; rfl
    · have hb := findBorn_mem m.nd hes
      simp only at hb
      simp only [entA, gi, gm, Nat.beq_refl, cond_true, hb]
end
end Go.Ab
namespace Go.Ab
set_option linter.unusedSimpArgs false
set_option linter.unusedVariables false
section
variable {k : AV → Bool} {K : Kont} {v u : AV} {h h' : AHeap} {o : Option AV} {p : Option (AV × AHeap)} {q : Option AHeap} {a b : Bool} {r : Kont → Bool}
theorem z_some (s : k v = true) : optB (some v) k = true := s
theorem z_of (e : o = some v) (s : k v = true) : optB o k = true := by subst e; exact s
theorem z_p (e : p = some (v, h)) (s : K v h = true) : optP p K = true := by subst e; exact s
theorem z_u (e : q = some h) (s : K (.tup []) h = true) : optP (unit q) K = true := by subst e; exact s
theorem z_nil {x y z w : Nat} (s : k (.ptr x y z w) = true) : optB (nilckA (.ptr x y z w)) k = true := s
theorem z_fadr {f x y z : Nat} (s : k (.ptr x y z f) = true) : optB (fadrA f (.ptr x y z 0)) k = true := by rw [o_fadr0]; exact s
theorem z_fadrN {f x y z d g : Nat} (e : d + f = g) (s : k (.ptr x y z g) = true) : optB (fadrA f (.ptr x y z d)) k = true := by subst e; exact s
theorem z_ext0 {l : List AV} (s : k v = true) : optB (extA 0 (.tup (v :: l))) k = true := s
theorem z_ext1 {l : List AV} (s : k u = true) : optB (extA 1 (.tup (v :: u :: l))) k = true := s
theorem z_not {c : Bool} (s : k (.bool (!c)) = true) : optB (notA (.bool c)) k = true := s
theorem z_notT (s : k (.bool false) = true) : optB (notA (.bool true)) k = true := s
theorem z_notF (s : k (.bool true) = true) : optB (notA (.bool false)) k = true := s
theorem z_ct {c : Bool} (e : c = true) (s : a = true) : condB (.bool c) a b = true := by subst e; exact s
theorem z_cf {c : Bool} (e : c = false) (s : b = true) : condB (.bool c) a b = true := by subst e; exact s
theorem z_cT (s : a = true) : condB (.bool true) a b = true := s
theorem z_cF (s : b = true) : condB (.bool false) a b = true := s
theorem z_gtt (s : optB o k = true) : optB (grdO (wantV (.bool true) true) o) k = true := s
theorem z_gff (s : optB o k = true) : optB (grdO (wantV (.bool false) false) o) k = true := s
theorem z_gtf (s : k (.tup []) = true) : optB (grdO (wantV (.bool true) false) o) k = true := s
theorem z_gft (s : k (.tup []) = true) : optB (grdO (wantV (.bool false) true) o) k = true := s
theorem z_rtt (s : r K = true) : grdC (wantV (.bool true) true) r h K = true := s
theorem z_rff (s : r K = true) : grdC (wantV (.bool false) false) r h K = true := s
theorem z_rtf (s : K (.tup []) h = true) : grdC (wantV (.bool true) false) r h K = true := s
theorem z_rft (s : K (.tup []) h = true) : grdC (wantV (.bool false) true) r h K = true := s
theorem z_kt (s : k v = true) : optB (pickV (.bool true) v u) k = true := s
theorem z_kf (s : k u = true) : optB (pickV (.bool false) v u) k = true := s
theorem z_lss {J : IntKind} {x y : Int} (s : k (.bool (decide (x < y))) = true) : optB (binA .lss (.int J x) (.int J y)) k = true := by rw [o_lss]; exact s
theorem z_gtr {J : IntKind} {x y : Int} (s : k (.bool (decide (y < x))) = true) : optB (binA .gtr (.int J x) (.int J y)) k = true := by rw [o_gtr]; exact s
theorem z_leq {J : IntKind} {x y : Int} (s : k (.bool (decide (x ≤ y))) = true) : optB (binA .leq (.int J x) (.int J y)) k = true := by rw [o_leq]; exact s
theorem z_geq {J : IntKind} {x y : Int} (s : k (.bool (decide (y ≤ x))) = true) : optB (binA .geq (.int J x) (.int J y)) k = true := by rw [o_geq]; exact s
theorem z_eql {J : IntKind} {x y : Int} (s : k (.bool (decide (x = y))) = true) : optB (binA .eql (.int J x) (.int J y)) k = true := by rw [o_eql]; exact s
theorem z_neq {J : IntKind} {x y : Int} (s : k (.bool (!decide (x = y))) = true) : optB (binA .neq (.int J x) (.int J y)) k = true := by rw [o_neq]; exact s
theorem z_seq {x y : Str} (s : k (.bool (decide (x = y))) = true) : optB (binA .eql (.str x) (.str y)) k = true := by rw [binA_seql]; exact s
theorem z_sne {x y : Str} (s : k (.bool (!decide (x = y))) = true) : optB (binA .neq (.str x) (.str y)) k = true := by rw [binA_sneq]; exact s
theorem z_slen {x : Str} (s : k (.int .i64 (x.length : Int)) = true) : optB (lenA h 0 (.str x)) k = true := s
theorem z_same (e : o = some u) (j : AV.same u u = true) (s : a = true) : sameB o u a = true := by subst e; simp only [sameB, j, cond_true, s]
theorem z_cv {call : CallFn} {f : AFn} {first args cap : List AV} (s : call f (first ++ args ++ cap) h K = true) : callV call (.fn f first cap) args h K = true := s
theorem z_eqp {a1 a2 a3 a4 : Nat} (s : k (.bool false) = true) : optB (eqV h false EqK.ptr (.ptr a1 a2 a3 a4) .nilPtr) k = true := s
theorem z_eqn (s : k (.bool true) = true) : optB (eqV h false EqK.ptr .nilPtr .nilPtr) k = true := s
end
theorem same_map (a : Nat) : AV.same (.map a) (.map a) = true := by simp only [AV.same, Nat.beq_refl]
theorem same_agg {l : List AV} (h : sames l l = true) : AV.same (.agg l) (.agg l) = true := by simpa only [AV.same] using h
theorem same_tup {l : List AV} (h : sames l l = true) : AV.same (.tup l) (.tup l) = true := by simpa only [AV.same] using h
theorem sames_nil : sames [] [] = true := by simp only [sames]
theorem sames_cons {a : AV} {l : List AV} (h1 : AV.same a a = true) (h2 : sames l l = true) : sames (a :: l) (a :: l) = true := by simp only [sames, h1, h2, Bool.and_self]
theorem same_nslc : AV.same .nilSlc .nilSlc = true := by simp only [AV.same]
theorem same_emp : AV.same .emp .emp = true := by simp only [AV.same]
theorem View.same {h : AHeap} {n : Nat} {v : AV} {es : List (List AV)} (V : View h n v es) : AV.same v v = true := by
  rcases V with ⟨_, e | e⟩ | ⟨id, g, s, cap, ex, r, rfl, _⟩
  · subst e; exact same_nslc
  · subst e; exact same_emp
  · exact same_slc _ _ _ _ _ _
section
variable {h h' : AHeap} {id : Nat} {c : List AV}
theorem Var.get (V : Var h id c) {off : Nat} {v : AV} (e : nth c off = some v) : loadA h false 1 (.ptr id 0 0 off) = some v := by
  rw [V.load, partA_false]; exact e
theorem Var.all (V : Var h id c) {n : Nat} (e : c.length = n) : loadA h true n (.ptr id 0 0 0) = some (.agg c) := by
  subst e
  rw [V.load]
  simp [partA, nble_true.2 (Nat.le_refl _)]
theorem alloc_v {z : List AV} (o : h.Ok) (h1 : 0 < z.length) (h2 : allLeaf z = true) : ∃ h', allocV h z = some (.ptr h.sz 0 0 0, h') ∧ Var h' h.sz z ∧ Ext h h' ∧ h'.Ok ∧ h'.sz = h.sz + 1 :=
  ⟨_, alloc_eq h1 h2, var_new h z, ext_newRow o _ _, ok_newRow o _ _, rfl⟩
theorem box_v {n : Nat} {v : AV} (o : h.Ok) (h0 : v.cells.length = n) (h1 : 0 < n) (h2 : allLeaf v.cells = true) : ∃ h', boxA h n v = some (.ptr h.sz 0 0 0, h') ∧ Var h' h.sz v.cells ∧ Ext h h' ∧ h'.Ok ∧ h'.sz = h.sz + 1 := by
  refine ⟨_, box_eq h0 h1 h2, ?_, ext_newRow o _ _, ok_newRow o _ _, rfl⟩
  have := var_new h v.cells
  rw [h0] at this; exact this
theorem mkmap_v {κ : Type} (ek : κ → AV) (o : h.Ok) : ∃ h', mkmapV h = some (.map h.sz, h') ∧ KMap ek h' h.sz [] ∧ Ext h h' ∧ h'.Ok ∧ h'.sz = h.sz + 1 :=
  ⟨_, (kmap_new (ek := ek) h).1, (kmap_new (ek := ek) h).2, ext_push o _, o.push _, by simp⟩
theorem Var.wr (V : Var h id c) (o : h.Ok) {off : Nat} {v : AV} (h1 : off < c.length) (h2 : v.leaf = true) : ∃ h', storeA h 1 (.ptr id 0 0 off) v = some h' ∧ Var h' id (c.set off v) ∧ But id h h' ∧ h'.Ok ∧ h'.sz = h.sz :=
  ⟨_, V.set1 h1 h2, var_put id _, But.put _ _ _, o.put (V.lt o) _, by simp⟩
theorem Var.wrs (V : Var h id c) (o : h.Ok) {n : Nat} {v : AV} (h0 : v.cells.length = n) (h1 : c.length = n) (h2 : allLeaf v.cells = true) : ∃ h', storeA h n (.ptr id 0 0 0) v = some h' ∧ Var h' id v.cells ∧ But id h h' ∧ h'.Ok ∧ h'.sz = h.sz := by
  refine ⟨_, V.store h0 (by omega) h2, ?_, But.put _ _ _, o.put (V.lt o) _, by simp⟩
  have : lay c 0 v.cells = v.cells := by simp [lay]; omega
  rw [this]; exact var_put id _
theorem bslice1_v {sz : Nat} {z : List AV} {v : AV} (o : h.Ok) (h1 : z.length = sz) (h2 : 0 < sz) (h3 : 1 * sz ≤ 16777216) (h4 : allLeaf z = true) (h5 : v.cells.length = sz) (h6 : allLeaf v.cells = true) : ∃ w h', bsliceV h 1 sz z [(0, v)] = some (w, h') ∧ View h' sz w [v.cells] ∧ Ext h h' ∧ h'.Ok ∧ h'.sz = h.sz + 1 ∧ w = .slc h.sz 0 0 1 1 true := by
  refine ⟨.slc h.sz 0 0 1 1 true, Ab.newRow h [v.cells] sz, ?_, .inr ⟨h.sz, 0, 0, 1, true, { es := [v.cells], sz, g := 0, m := 0, rw := true }, rfl, ?_, Nat.le_refl _, rfl, by simp, by simp⟩, ext_newRow o _ _, ok_newRow o _ _, rfl, rfl⟩
  · simp only [bsliceV, nbeq_true.2 h1, nblt_true.2 h2, nble_true.2 h3, h4, Bool.and_self, cond_true, repl, fillRowV, nbeq_true.2 h5, List.length_cons, List.length_nil, h6, setNth]
    rfl
  · rw [AHeap.row_some]; simp only [newRow, AHeap.get_push, if_pos]
theorem But.fr {X : Nat → Prop} (b : But id h h') (x : X id) : Fr X h h' := Fr.of_but x b
end
abbrev SK := Str × Str
abbrev BK := Int × Str
def sk (a : SK) : AV := .agg [.str a.1, .str a.2]
def bk2 (a : BK) : AV := .agg [.int .i64 a.1, .str a.2]
theorem sks : Keys (.st [.str, .str]) sk := ⟨fun _ => rfl, fun a b => by
  obtain ⟨a1, a2⟩ := a; obtain ⟨b1, b2⟩ := b
  simp only [sk, keyEq, leavesEq, leafEq, leqb_dec]
  by_cases e1 : a1 = b1 <;> by_cases e2 : a2 = b2 <;> simp [e1, e2]⟩
theorem bks : Keys (.st [.int, .str]) bk2 := ⟨fun _ => rfl, fun a b => by
  obtain ⟨a1, a2⟩ := a; obtain ⟨b1, b2⟩ := b
  simp only [bk2, keyEq, leavesEq, leafEq, leqb_dec, Nat.beq_refl, cond_true, ieqb_dec]
  by_cases e1 : a1 = b1 <;> by_cases e2 : a2 = b2 <;> simp [e1, e2]⟩
def Dels {κ : Type} (ek : κ → AV) (h h' : AHeap) (id : Nat) (k : κ) : Prop := ∀ es c, h.get id = some (.map es c) → h'.get id = some (.map (delE (ek k) es) c)
section
variable {κ : Type} [DecidableEq κ] {kk : KK} {ek : κ → AV} {h h' : AHeap} {id it : Nat} {l : List (κ × AV)}
theorem KMap.delD (M : KMap ek h id l) (K : Keys kk ek) {k : κ} (hk : lk l k ≠ none) : ∃ h', delA h kk (.map id) (ek k) = some h' ∧ But id h h' ∧ h'.sz = h.sz ∧ (h.Ok → h'.Ok) ∧ KMap ek h' id (dl l k) ∧ Dels ek h h' id k := by
  obtain ⟨es, c, m⟩ := M
  cases hl : lk l k with
  | none => exact absurd hl hk
  | some u =>
    obtain ⟨i1, i2⟩ := m.ents.del K k
    refine ⟨h.put id (.map (delE (ek k) es) c), ?_, But.put _ _ _, by simp, fun o => o.put (o.lt m.get) _, ⟨delE (ek k) es, c, by rw [AHeap.get_put, if_pos rfl], i1, fun e he => m.born e (i2.subset he), m.nd.sublist (i2.map _), m.keys.sublist (dl_sub.map _)⟩, fun es' c' hg => ?_⟩
    · simp only [delA, K.fits, cond_true, m.get, m.ents.find K, hl]
    · rw [m.get] at hg; cases hg
      rw [AHeap.get_put, if_pos rfl]
def KIterD (ek : κ → AV) (h : AHeap) (it id : Nat) (l : List (κ × AV)) : Prop :=
  ∃ es c seen, KMapE ek h id es c l ∧ (∀ e ∈ es, e.2.2 ∉ seen) ∧ h.get it = some (.iter (some id) c seen c)
def KIterC (ek : κ → AV) (h : AHeap) (it id : Nat) (l : List (κ × AV)) (k : κ) : Prop :=
  ∃ es c seen, KMapE ek h id es c l ∧ (∀ e ∈ es, e.2.2 ∈ seen → e.1 = ek k) ∧ h.get it = some (.iter (some id) c seen c)
omit [DecidableEq κ] in
theorem KIterD.map (M : KIterD ek h it id l) : KMap ek h id l := by obtain ⟨es, c, s, m, _⟩ := M; exact ⟨es, c, m⟩
omit [DecidableEq κ] in
theorem KIterC.map {k : κ} (M : KIterC ek h it id l k) : KMap ek h id l := by obtain ⟨es, c, s, m, _⟩ := M; exact ⟨es, c, m⟩
omit [DecidableEq κ] in
theorem Fr.kiterC {X : Nat → Prop} {k : κ} (p : Fr X h h') (M : KIterC ek h it id l k) (e1 : ¬ X it) (e2 : ¬ X id) : KIterC ek h' it id l k := by
  obtain ⟨es, c, s, m, h1, h2⟩ := M
  exact ⟨es, c, s, ⟨p.keep _ _ e2 m.get, m.ents, m.born, m.nd, m.keys⟩, h1, p.keep _ _ e1 h2⟩
omit [DecidableEq κ] in
theorem KMap.rangeD (M : KMap ek h id l) (o : h.Ok) : ∃ h', rngA h (.map id) = some (.itr h.sz, h') ∧ Ext h h' ∧ h'.Ok ∧ h'.sz = h.sz + 1 ∧ KIterD ek h' h.sz id l := by
  obtain ⟨h', h1, h2, h3, h4, es, c, de, m, q1, q2, q3, q4⟩ := M.range' o
  cases q1
  exact ⟨h', h1, h2, h3, h4, es, c, [], m, by simp, q4⟩
theorem KIterC.del {k : κ} (K : Keys kk ek) (M : KIterC ek h it id l k) (D : Dels ek h h' id k) (hi : h'.get it = h.get it) : KIterD ek h' it id (dl l k) := by
  obtain ⟨es, c, s, m, h1, h2⟩ := M
  obtain ⟨i1, i2⟩ := m.ents.del K k
  refine ⟨delE (ek k) es, c, s, ⟨D _ _ m.get, i1, fun e he => m.born e (i2.subset he), m.nd.sublist (i2.map _), m.keys.sublist (dl_sub.map _)⟩, fun e he hs => ?_, by rw [hi]; exact h2⟩
  have hk := h1 e (i2.subset he) hs
  obtain ⟨k', q1, q2⟩ := i1.mem he
  have : k' = k := K.inj (q1.symm.trans hk)
  subst this
  have hn := m.keys
  have : ∀ {l : List (κ × AV)}, (l.map fun p => p.1).Nodup → ∀ v, (k', v) ∉ dl l k' := by
    intro l hn v hm
    induction l with
    | nil => cases hm
    | cons p t ih =>
      simp only [List.map_cons, List.nodup_cons] at hn
      simp only [dl] at hm
      by_cases e : k' = p.1
      · rw [if_pos e] at hm
        exact hn.1 (by rw [← e]; exact List.mem_map.2 ⟨_, hm, rfl⟩)
      · rw [if_neg e] at hm
        rcases List.mem_cons.1 hm with hm | hm
        · exact e (by rw [← hm])
        · exact ih hn.2 hm
  exact this hn _ q2
theorem KIterD.next (K : Keys kk ek) {Kt : Kont} (M : KIterD ek h it id l) (o : h.Ok) (hne : it ≠ id) (kE : l = [] → Kt (.tup [.bool false]) h = true)
    (kN : ∀ k v h', (k, v) ∈ l → But it h h' → h'.Ok → h'.sz = h.sz → KIterC ek h' it id l k → entA h' (.itr it) = some (.tup [ek k, v]) → Kt (.tup [.bool true, ek k, v]) h' = true) : nextA h (.itr it) Kt = true := by
  obtain ⟨es, c, s, m, h1, h2⟩ := M
  have hc : ∀ e ∈ es, Nat.blt e.2.2 c = true := fun e he => nblt_true.2 (m.born e he)
  unfold nextA
  simp only [h2, m.get]
  have hg : (!s.isEmpty && !es.isEmpty && es.all fun e => !Nat.blt e.2.2 c) = false := by
    cases hes : es with
    | nil => simp
    | cons a t =>
      have := hc a (by rw [hes]; exact List.mem_cons_self)
      simp [this]
  rw [hg, cond_false, List.all_eq_true]
  intro x hx
  have hcand : x = none ∧ es = [] ∨ ∃ e, x = some e ∧ e ∈ es := by
    simp only [cands] at hx
    rcases List.mem_append.1 hx with hx | hx
    · refine .inl ?_
      cases he : (List.filter (fun e => Nat.blt e.2.2 c) (List.filter (fun e => !memN e.2.2 s) es)).isEmpty with
      | false => rw [he] at hx; cases hx
      | true =>
        rw [he] at hx
        simp only [cond_true, List.mem_singleton] at hx
        refine ⟨hx, ?_⟩
        rw [List.isEmpty_iff] at he
        cases hes : es with
        | nil => rfl
        | cons a t =>
          exfalso
          have ha : a ∈ es := by rw [hes]; exact List.mem_cons_self
          have : a ∈ List.filter (fun e => Nat.blt e.2.2 c) (List.filter (fun e => !memN e.2.2 s) es) := by
            rw [List.mem_filter, List.mem_filter]
            refine ⟨⟨ha, ?_⟩, hc a ha⟩
            cases hm : memN a.2.2 s with
            | false => rfl
            | true => exact absurd (memN_iff.1 hm) (h1 a ha)
          rw [he] at this; cases this
    · obtain ⟨e, he, rfl⟩ := List.mem_map.1 hx
      refine .inr ⟨e, rfl, ?_⟩
      rcases List.mem_append.1 he with he | he <;> exact (List.mem_filter.1 (List.mem_filter.1 he).1).1
  rcases hcand with ⟨rfl, hall⟩ | ⟨e, rfl, hes⟩
  · refine kE ?_
    have := m.ents
    rw [hall] at this
    cases this; rfl
  · obtain ⟨k, q1, q2⟩ := m.ents.mem hes
    obtain ⟨ek1, v, b⟩ := e
    simp only at q1 q2
    subst q1
    show Kt (.tup [.bool true, ek k, v]) _ = true
    have gm : (h.put it (.iter (some id) c (b :: s) c)).get id = some (.map es c) := by
      rw [AHeap.get_put, if_neg (fun e => hne e.symm)]; exact m.get
    have gi : (h.put it (.iter (some id) c (b :: s) c)).get it = some (.iter (some id) c (b :: s) c) := get_put_same _ _ _
    refine kN k v _ q2 (But.put _ _ _) (o.put (o.lt h2) _) (by simp) ⟨es, c, b :: s, ⟨gm, m.ents, m.born, m.nd, m.keys⟩, fun e he hs => ?_, gi⟩ ?_
    · rcases List.mem_cons.1 hs with hs | hs
      · have a1 := findBorn_mem m.nd he
        have a2 := findBorn_mem m.nd hes
        simp only at a2
        rw [hs, a2] at a1
        cases a1; rfl
      · exact absurd hs (h1 e he)
    · have hb := findBorn_mem m.nd hes
      simp only at hb
      simp only [entA, gi, gm, Nat.beq_refl, cond_true, hb]
end
end Go.Ab
namespace Go.Ab
set_option linter.unusedSimpArgs false
set_option linter.unusedVariables false
def inRow (v : AV) (j : Nat) : Prop := ∃ g s l c ex, v = .slc j g s l c ex
theorem inRow_nil {j : Nat} : ¬ inRow .nilSlc j := by rintro ⟨_, _, _, _, _, e⟩; cases e
theorem inRow_slc {i g s l c : Nat} {ex : Bool} {j : Nat} : inRow (.slc i g s l c ex) j ↔ i = j := ⟨fun ⟨_, _, _, _, _, e⟩ => by cases e; rfl, fun e => by subst e; exact ⟨_, _, _, _, _, rfl⟩⟩
theorem app_row {h h' : AHeap} {n bytes : Nat} {nt : Option Nat} {v x v' : AV} (e : appendA h n bytes v x nt = some (v', h')) {j : Nat} (i : inRow v' j) : inRow v j ∨ j = h.sz := by
  unfold appendA at e
  cases hn : Nat.beq n 0 with
  | true => rw [hn] at e; cases e
  | false =>
    rw [hn, cond_false] at e
    split at e
    · cases e
    · rename_i new hs
      unfold appendNew at e
      split at e
      · split at e
        · cases e; exact absurd i inRow_nil
        · cases hc : (Nat.ble (new.length * bytes) most && Nat.ble new.length most) with
          | true => rw [hc] at e; cases e; exact .inr (inRow_slc.1 i).symm
          | false => rw [hc] at e; cases e
      · split at e
        · cases e; obtain ⟨_, _, _, _, _, e⟩ := i; cases e
        · cases hc : (Nat.ble (new.length * bytes) most && Nat.ble new.length most) with
          | true => rw [hc] at e; cases e; exact .inr (inRow_slc.1 i).symm
          | false => rw [hc] at e; cases e
      · rename_i id g st len cap ex
        split at e
        · cases e; exact .inl i
        · split at e
          · cases e
          · rename_i r hr
            revert e
            cases (Nat.ble ((len + new.length) * bytes) most && Nat.ble (len + new.length) most && Nat.beq r.sz n) with
            | false => intro e; cases e
            | true =>
              cases Nat.ble (len + new.length) cap with
              | true =>
                cases (r.rw && Nat.beq g r.g) with
                | true => intro e; cases e; exact .inl (inRow_slc.2 (inRow_slc.1 i))
                | false => intro e; cases e
              | false =>
                cases ex with
                | true =>
                  simp only [cond_true, cond_false]
                  cases Nat.ble r.m g with
                  | false => intro e; cases e
                  | true =>
                    simp only [cond_true]
                    cases Nat.beq (List.take len (List.drop st r.es)).length len with
                    | true => intro e; cases e; exact .inr (inRow_slc.1 i).symm
                    | false => intro e; cases e
                | false =>
                  simp only [cond_true, cond_false]
                  cases (r.rw && Nat.beq g r.g && Nat.beq st 0) with
                  | false => intro e; cases e
                  | true =>
                    simp only [cond_true]
                    cases Nat.beq len r.es.length with
                    | true => intro e; cases e; exact .inl (inRow_slc.2 (inRow_slc.1 i))
                    | false => intro e; cases e; exact .inl (inRow_slc.2 (inRow_slc.1 i))
      · cases e
theorem ext_none {h : AHeap} : Ext AHeap.empty h := ⟨Nat.zero_le _, fun id o e => by cases e⟩
theorem ok_none : AHeap.empty.Ok := fun id _ => rfl
theorem own_app {h : AHeap} {n bytes : Nat} {v x : AV} {es new : List (List AV)} (O : Own 0 h n v es) (hn : 0 < n) (o : h.Ok) (hs : source h n x = some new) (h1 : (es.length + new.length) * bytes ≤ most) (h2 : es.length + new.length ≤ most) :
    ∃ v' h', appendA h n bytes v x = some (v', h') ∧ Own 0 h' n v' (es ++ new) ∧ h'.Ok ∧ Fr (inRow v) h h' ∧ (∀ j, inRow v' j → inRow v j ∨ h.sz ≤ j) := by
  obtain ⟨v', h', a1, a2, a3, a4, a5, a6, a7⟩ := O.app hn (Nat.zero_le _) o ok_none ext_none (Nat.le_refl _) hs h1 h2
  exact ⟨v', h', a1, a2, a3, ⟨a5, fun j o' nj g => a6 j o' g fun id g' s l c ex e q => nj ⟨g', s, l, c, ex, by rw [e, q]⟩⟩, fun j i => by rcases app_row a1 i with e | e; exact .inl e; exact .inr (by omega)⟩
theorem own_fr {X : Nat → Prop} {h h' : AHeap} {n : Nat} {v : AV} {es : List (List AV)} (O : Own 0 h n v es) (f : Fr X h h') (d : ∀ j, inRow v j → ¬ X j) : Own 0 h' n v es := by
  rcases O with V | ⟨id, r, w1, w2, w3, w4, w5, w6, w7⟩
  · exact .inl V
  · exact .inr ⟨id, r, w1, w2, f.row (d id (by rw [w2]; exact ⟨_, _, _, _, _, rfl⟩)) w3, w4, w5, w6, w7⟩
theorem own_lt {h : AHeap} {n : Nat} {v : AV} {es : List (List AV)} (O : Own 0 h n v es) (o : h.Ok) {j : Nat} (i : inRow v j) : j < h.sz := by
  rcases O with ⟨rfl, _⟩ | ⟨id, r, w1, rfl, w3, _⟩
  · exact absurd i inRow_nil
  · rw [← inRow_slc.1 i]; exact o.lt (AHeap.row_some.1 w3)
theorem own_row {b : Nat} {h : AHeap} {n : Nat} {v : AV} {es : List (List AV)} (O : Own b h n v es) {j : Nat} (i : inRow v j) : b ≤ j := by
  rcases O with ⟨rfl, _⟩ | ⟨id, r, w1, rfl, _⟩
  · exact absurd i inRow_nil
  · rw [← inRow_slc.1 i]; exact w1
theorem own_low {b : Nat} {h : AHeap} {n : Nat} {v : AV} {es : List (List AV)} (O : Own b h n v es) : Own 0 h n v es := by
  rcases O with V | ⟨id, r, w1, w2⟩
  · exact .inl V
  · exact .inr ⟨id, r, Nat.zero_le _, w2⟩
theorem load_frz {h : AHeap} {id : Nat} {c : List AV} (V : Var h id c) (ag : Bool) (off n : Nat) : loadA h.frz ag n (.ptr id 0 0 off) = partA ag off n c := by
  have V' : h.row id = some (VRow c) := V
  simp only [loadA, AHeap.row_frz V', VRow, Nat.ble_self_eq_true, cond_true, nth_zero]
theorem look_frz {κ : Type} {ek : κ → AV} {h : AHeap} {id : Nat} {l : List (κ × AV)} (M : KMap ek h id l) (kk : KK) (z k : AV) : lookA h.frz kk false z (.map id) k = lookA h kk false z (.map id) k := by
  obtain ⟨es, c, m⟩ := M
  have e1 : mapOf h (.map id) = some (es, c) := by simp only [mapOf, m.get]
  have e2 : mapOf h.frz (.map id) = some (es, c) := by simp only [mapOf, AHeap.get_frz, m.get, Option.map, frzO]
  simp only [lookA, e1, e2]
theorem fr_acc {A X : Nat → Prop} {h h1 h2 : AHeap} (o : h.Ok) (F : Fr A h h1) (G : Fr X h1 h2) (hx : ∀ j, X j → A j ∨ h.sz ≤ j) : Fr A h h2 := F.new (G.mono hx) o
theorem fr_ext {A : Nat → Prop} {h h1 h2 : AHeap} (F : Fr A h h1) (e : Ext h1 h2) : Fr A h h2 := F.trans (Fr.of_ext e)
theorem ext_two {h h1 h2 : AHeap} (e : Ext h h1) (f : Ext h1 h2) : Ext h h2 := ⟨Nat.le_trans e.1 f.1, fun j o g => f.2 j o (e.2 j o g)⟩
theorem View.at1 {h : AHeap} {n : Nat} {v : AV} {es : List (List AV)} (V : View h n v es) {i : Nat} {e : List AV} (hi : es[i]? = some e) : ∃ id g j, (∀ k, iadrA h n v (.int k (i : Int)) = some (.ptr id g j 0)) ∧ ∀ ag off m, loadA h ag m (.ptr id g j off) = partA ag off m e := by
  obtain ⟨id, g, j, q⟩ := V.atE hi
  exact ⟨id, g, j, q h (Ext.refl h)⟩
end Go.Ab
namespace Go.Proofs.Ytbamgdknkhhikaa
open Go.Ab
set_option linter.unusedSimpArgs false
set_option linter.unusedVariables false
def rng (x : Int) : Prop := -9223372036854775808 ≤ x ∧ x ≤ 9223372036854775807
def byt (s : Str) : Prop := ∀ b ∈ s, b < 256
structure Elm where
  hd : Int
  st : Int
  vs : List Val
structure Mch where
  core : Int
  els : List Elm
  env : List (Str × Val)
structure Stp where
  op : Int
  cls : Str
  vs : List Val
  m : Mch
  live : List Int
def REl : Rd Elm := fun h a e => ∃ vv, a = [.int .i64 e.hd, .int .i64 e.st, vv] ∧ VV h vv e.vs ∧ rng e.hd ∧ rng e.st
def RPr : Rd (Str × Val) := fun h a p => ∃ c, a = .str p.1 :: c ∧ RV h c p.2 ∧ byt p.1
def EV (h : AHeap) (v : AV) (l : List Elm) : Prop := ∃ es, View h 3 v es ∧ All2 (REl h) es l
def PV (h : AHeap) (v : AV) (l : List (Str × Val)) : Prop := ∃ es, View h 6 v es ∧ All2 (RPr h) es l
def ints (l : List Int) : List (List AV) := l.map fun x => [AV.int .i64 x]
def RSt : Rd Stp := fun h a s => ∃ vv ev nv lv, a = [.int .i64 s.op, .str s.cls, vv, .int .i64 s.m.core, ev, nv, lv] ∧ VV h vv s.vs ∧ EV h ev s.m.els ∧ PV h nv s.m.env ∧ View h 1 lv (ints s.live) ∧ rng s.m.core ∧ byt s.cls ∧ ∀ x ∈ s.live, rng x
def SV (h : AHeap) (v : AV) (l : List Stp) : Prop := ∃ es, View h 7 v es ∧ All2 (RSt h) es l
def szEl (e : Elm) : Nat := szVs e.vs + 1
def szPr (p : Str × Val) : Nat := p.1.length + szV p.2 + 1
def szSt (s : Stp) : Nat := s.cls.length + szVs s.vs + szL szEl s.m.els + szL szPr s.m.env + s.live.length + 1
theorem REl.ext {h h' : AHeap} {a : List AV} {e : Elm} (H : REl h a e) (x : Ext h h') : REl h' a e := let ⟨vv, h1, h2, h3⟩ := H; ⟨vv, h1, h2.ext x, h3⟩
theorem RPr.ext {h h' : AHeap} {a : List AV} {p : Str × Val} (H : RPr h a p) (x : Ext h h') : RPr h' a p := let ⟨c, h1, h2, h3⟩ := H; ⟨c, h1, RV.ext x h2, h3⟩
theorem EV.ext {h h' : AHeap} {v : AV} {l : List Elm} (H : EV h v l) (x : Ext h h') : EV h' v l := let ⟨es, h1, h2⟩ := H; ⟨es, h1.ext x, h2.mono fun _ _ r => r.ext x⟩
theorem PV.ext {h h' : AHeap} {v : AV} {l : List (Str × Val)} (H : PV h v l) (x : Ext h h') : PV h' v l := let ⟨es, h1, h2⟩ := H; ⟨es, h1.ext x, h2.mono fun _ _ r => r.ext x⟩
theorem RSt.ext {h h' : AHeap} {a : List AV} {s : Stp} (H : RSt h a s) (x : Ext h h') : RSt h' a s := let ⟨vv, ev, nv, lv, h1, h2, h3, h4, h5, h6⟩ := H; ⟨vv, ev, nv, lv, h1, h2.ext x, h3.ext x, h4.ext x, h5.ext x, h6⟩
theorem SV.ext {h h' : AHeap} {v : AV} {l : List Stp} (H : SV h v l) (x : Ext h h') : SV h' v l := let ⟨es, h1, h2⟩ := H; ⟨es, h1.ext x, h2.mono fun _ _ r => r.ext x⟩
theorem SV.len {h : AHeap} {v : AV} {l : List Stp} (H : SV h v l) : lenA h 1 v = some (.int .i64 (l.length : Int)) := by
  obtain ⟨es, h1, h2⟩ := H; rw [h1.len, h2.length]
theorem EV.len {h : AHeap} {v : AV} {l : List Elm} (H : EV h v l) : lenA h 1 v = some (.int .i64 (l.length : Int)) := by
  obtain ⟨es, h1, h2⟩ := H; rw [h1.len, h2.length]
theorem EV.leaf {h : AHeap} {v : AV} {l : List Elm} (V : EV h v l) : v.leaf = true := by obtain ⟨es, h1, _⟩ := V; exact h1.leaf
theorem PV.leaf {h : AHeap} {v : AV} {l : List (Str × Val)} (V : PV h v l) : v.leaf = true := by obtain ⟨es, h1, _⟩ := V; exact h1.leaf
theorem _root_.Go.Ab.VV.sm {h : AHeap} {v : AV} {l : List Val} (V : VV h v l) : AV.same v v = true := by obtain ⟨es, h1, _⟩ := V; exact h1.same
theorem EV.same {h : AHeap} {v : AV} {l : List Elm} (V : EV h v l) : AV.same v v = true := by obtain ⟨es, h1, _⟩ := V; exact h1.same
theorem PV.same {h : AHeap} {v : AV} {l : List (Str × Val)} (V : PV h v l) : AV.same v v = true := by obtain ⟨es, h1, _⟩ := V; exact h1.same
theorem SV.at {h : AHeap} {v : AV} {l : List Stp} (V : SV h v l) {i : Nat} {x : Stp} (hi : l[i]? = some x) :
    ∃ id g j e, (∀ k, iadrA h 7 v (.int k (i : Int)) = some (.ptr id g j 0)) ∧ (∀ ag off m, loadA h ag m (.ptr id g j off) = partA ag off m e) ∧ RSt h e x := by
  obtain ⟨es, h1, h2⟩ := V
  obtain ⟨e, he, hr⟩ := h2.get hi
  obtain ⟨id, g, j, p1, p2⟩ := h1.at1 he
  exact ⟨id, g, j, e, p1, p2, hr⟩
theorem EV.at {h : AHeap} {v : AV} {l : List Elm} (V : EV h v l) {i : Nat} {x : Elm} (hi : l[i]? = some x) :
    ∃ id g j e, (∀ k, iadrA h 3 v (.int k (i : Int)) = some (.ptr id g j 0)) ∧ (∀ ag off m, loadA h ag m (.ptr id g j off) = partA ag off m e) ∧ REl h e x := by
  obtain ⟨es, h1, h2⟩ := V
  obtain ⟨e, he, hr⟩ := h2.get hi
  obtain ⟨id, g, j, p1, p2⟩ := h1.at1 he
  exact ⟨id, g, j, e, p1, p2, hr⟩
theorem szVs_mem {l : List Val} {v : Val} (h : v ∈ l) : szV v ≤ szVs l := by rw [szVs_eq]; exact szL_mem h
theorem szVs_len (l : List Val) : l.length ≤ szVs l := by rw [szVs_eq]; exact szL_length (fun v => by cases v; simp only [szV]; omega) l
theorem szSt_pos (s : Stp) : 1 ≤ szSt s := by unfold szSt; omega
theorem szEl_pos (s : Elm) : 1 ≤ szEl s := by unfold szEl; omega
theorem addB (a b : Int) : ∃ z, binA .add (.int .i64 a) (.int .i64 b) = some (.int .i64 z) := by rw [binA_ints _ _ _ _ rfl]; exact ⟨_, rfl⟩
theorem quoB (a : Int) : ∃ z, binA .quo (.int .i64 a) (.int .i64 64) = some (.int .i64 z) := by rw [binA_ints _ _ _ _ rfl]; exact ⟨_, rfl⟩
theorem c54 : ∀ (k n : Nat) {h : AHeap} {v : AV} {l : List Val} {deep : Int} {K : Kont}, VV h v l → deep + (k : Int) = 101 → k ≤ 101 → szVs l + k ≤ n → n < lim → (∀ x, K (.int .i64 x) h = true) → callN E (n + 1) (.func 54) [v, .int .i64 deep] h K = true := by
  intro k
  induction k with
  | zero =>
    intro n h v l deep K V hd hk hn hL kk
    apply d54
    unfold s54
    refine z_gtr (z_ct (decide_eq_true (by omega)) ?_)
    exact kk _
  | succ k ih =>
    intro n h v l deep K V hd hk hn hL kk
    apply d54
    unfold s54
    refine z_gtr (z_cf (decide_eq_false (by omega)) ?_)
    unfold p54_10
    obtain ⟨n, rfl⟩ : ∃ j, n = j + 1 := ⟨n - 1, by omega⟩
    have hlen := szVs_len l
    have loop : ∀ (m i : Nat) (x : Int), i ≤ l.length → l.length - i < m → l54_16 (callN E (n + 1)) (n + 1) m v (.int .i64 deep) (.int .i64 x) (.int .i64 (i : Int)) h K = true := by
      intro m
      induction m with
      | zero => intro i x _ hm; omega
      | succ m ihm =>
        intro i x hi hm
        unfold l54_16 b54_16
        refine z_of V.len ?_; refine z_lss ?_
        by_cases hlt : i < l.length
        · refine z_ct (decide_eq_true (by omega)) ?_
          have hci := List.getElem?_eq_getElem hlt
          obtain ⟨id, g, j, e, p1, p2, R⟩ := V.at hci
          have hmem := List.getElem_mem hlt
          obtain ⟨kk', b, nn, t, ll, hv⟩ : ∃ kk' b nn t ll, l[i] = Val.mk kk' b nn t ll := by cases h : l[i]; exact ⟨_, _, _, _, _, rfl⟩
          rw [hv] at R hmem
          obtain ⟨lv, rfl, VL, _⟩ := R.cells
          have hsz : szV (Val.mk kk' b nn t ll) ≤ szVs l := szVs_mem hmem
          simp only [szV] at hsz
          have q3 : loadA h false 1 (.ptr id g j 3) = some (.str t) := by rw [p2]; rfl
          have q4 : loadA h false 1 (.ptr id g j 4) = some lv := by rw [p2]; rfl
          obtain ⟨y0, a0⟩ := addB x 1
          obtain ⟨y1, a1⟩ := quoB (t.length : Int)
          obtain ⟨y2, a2⟩ := addB y0 y1
          have q5 := add64 (a := deep) (b := 1) (by omega) (by omega)
          refine z_of a0 ?_; refine z_of (p1 .i64) ?_; refine z_fadr ?_; refine z_of q3 ?_; refine z_slen ?_; refine z_of a1 ?_; refine z_of a2 ?_; refine z_of (p1 .i64) ?_; refine z_fadr ?_; refine z_of q4 ?_; refine z_of q5 ?_
          refine ih n VL (by omega) (by omega) (by omega) (by omega) fun z => ?_
          refine z_same (p1 .i64) (same_ptr _ _ _ _) ?_
          refine z_same q3 (same_str _) ?_
          have q6 : lenA h 0 (.str t) = some (.int .i64 (t.length : Int)) := rfl
          refine z_same q6 (same_int _ _) ?_
          obtain ⟨y3, a3⟩ := addB y2 z
          refine z_of a3 ?_; refine z_of (inc64 (i := i) (by omega)) ?_
          exact ihm (i + 1) y3 (by omega) (by omega)
        · refine z_cf (decide_eq_false (by omega)) ?_
          exact kk x
    exact loop (n + 1) 0 0 (Nat.zero_le _) (by omega)
theorem c32 {n : Nat} {h : AHeap} {v : AV} {l : List Val} {K : Kont} (V : VV h v l) (hn : szVs l + 101 ≤ n) (hL : n < lim) (k : ∀ x, K (.int .i64 x) h = true) : callN E (n + 2) (.func 32) [v] h K = true := by
  apply d32
  unfold s32
  exact c54 101 n V (by omega) (Nat.le_refl _) hn hL k
theorem c6 {n : Nat} {h : AHeap} {v : AV} {l : List Stp} {K : Kont} (ho : h.Ok) (V : SV h v l) (hn : szL szSt l + 101 ≤ n) (hL : n < lim - 5) (hlf : v.leaf = true) (k : ∀ b h', Ext h h' → h'.Ok → K (.bool b) h' = true) : callN E (n + 3) (.func 6) [.agg [v]] h K = true := by
  apply d6
  unfold s6
  obtain ⟨h1, q1, V1, e1, o1, z1⟩ := box_v (n := 1) (v := .agg [v]) ho rfl (by decide) (by simp [AV.cells, allLeaf, hlf])
  have V1 : Var h1 h.sz [v] := V1
  refine z_p q1 ?_
  have SV1 := V.ext e1
  have L0 : loadA h1 false 1 (.ptr h.sz 0 0 0) = some v := V1.get rfl
  have hll : l.length ≤ szL szSt l := szL_length szSt_pos l
  have hlm : lim = 4611686018427387904 := rfl
  have loop : ∀ (m i : Nat) (x : Int), l.length - i < m → l6_8 (callN E (n + 2)) (n + 2) m (.ptr h.sz 0 0 0) (.int .i64 x) (.int .i64 (i : Int)) h1 K = true := by
    intro m
    induction m with
    | zero => intro i x hm; omega
    | succ m ihm =>
      intro i x hm
      unfold l6_8 b6_8
      refine z_fadr ?_; refine z_of L0 ?_; refine z_of SV1.len ?_; refine z_lss ?_
      have fin : condB (.bool false) (p6_15 (callN E (n + 2)) (n + 2) (fun x1 x3 x4 h => l6_8 (callN E (n + 2)) (n + 2) m x1 x3 x4 h K) (.ptr h.sz 0 0 0) (.int .i64 x) (.int .i64 (i : Int)) h1 K) (p6_34 (callN E (n + 2)) (n + 2) (.int .i64 x) h1 K) = true := by
        refine z_cF ?_
        unfold p6_34
        refine z_leq ?_
        exact k _ h1 e1 o1
      by_cases hlt : i < l.length
      · have e1' : decide ((i : Int) < (l.length : Int)) = true := decide_eq_true (by omega)
        rw [e1']
        refine z_gtt ?_; refine z_some ?_; refine z_gtt ?_; refine z_lss ?_; refine z_kt ?_
        by_cases h60 : i < 60
        · have e2' : decide ((i : Int) < 60) = true := decide_eq_true (by omega)
          rw [e2']
          refine z_cT ?_
          unfold p6_15
          have hci := List.getElem?_eq_getElem hlt
          obtain ⟨id, g, j, e, p1, p2, R⟩ := SV1.at hci
          obtain ⟨vv, ev, nv, lv, rfl, r1, r2, r3, r4, _⟩ := R
          have hmem := szL_mem (sz := szSt) (List.getElem_mem hlt)
          have hse : szSt l[i] = (l[i]).cls.length + szVs (l[i]).vs + szL szEl (l[i]).m.els + szL szPr (l[i]).m.env + (l[i]).live.length + 1 := rfl
          obtain ⟨y0, a0⟩ := addB x 1
          have q2 : loadA h1 false 1 (.ptr id g j 2) = some vv := by rw [p2]; rfl
          refine z_of a0 ?_; refine z_fadr ?_; refine z_of L0 ?_; refine z_of (p1 .i64) ?_; refine z_fadr ?_; refine z_of q2 ?_
          refine c32 r1 (by omega) (by omega) fun z => ?_
          obtain ⟨y1, a1⟩ := addB y0 z
          refine z_of a1 ?_
          have q4 : loadA h1 false 1 (.ptr id g j 4) = some ev := by rw [p2]; rfl
          have hel : (l[i]).m.els.length ≤ szL szEl (l[i]).m.els := szL_length szEl_pos _
          have inner : ∀ (m2 i2 : Nat) (x2 : Int), (l[i]).m.els.length - i2 < m2 → l6_22 (callN E (n + 2)) (n + 2) (fun x1 x3 x4 h => l6_8 (callN E (n + 2)) (n + 2) m x1 x3 x4 h K) m2 (.ptr h.sz 0 0 0) (.int .i64 x2) (.int .i64 (i : Int)) (.int .i64 (i2 : Int)) h1 K = true := by
            intro m2
            induction m2 with
            | zero => intro i2 x2 hm2; omega
            | succ m2 ih2 =>
              intro i2 x2 hm2
              unfold l6_22 b6_22
              refine z_fadr ?_; refine z_of L0 ?_; refine z_of (p1 .i64) ?_; refine z_fadr ?_; refine z_fadrN (d := 3) (f := 1) (g := 4) rfl ?_; refine z_of q4 ?_; refine z_of r2.len ?_; refine z_lss ?_
              by_cases hl2 : i2 < (l[i]).m.els.length
              · refine z_ct (decide_eq_true (by omega)) ?_
                obtain ⟨id', g', j', e', p1', p2', R'⟩ := r2.at (List.getElem?_eq_getElem hl2)
                obtain ⟨vv', rfl, w1, _⟩ := R'
                have hme := szL_mem (sz := szEl) (List.getElem_mem hl2)
                have hee : szEl (l[i]).m.els[i2] = szVs ((l[i]).m.els[i2]).vs + 1 := rfl
                have q2' : loadA h1 false 1 (.ptr id' g' j' 2) = some vv' := by rw [p2']; rfl
                obtain ⟨y2, a2⟩ := addB x2 1
                refine z_of a2 ?_; refine z_fadr ?_; refine z_of L0 ?_; refine z_of (p1 .i64) ?_; refine z_fadr ?_; refine z_fadrN (d := 3) (f := 1) (g := 4) rfl ?_; refine z_of q4 ?_; refine z_of (p1' .i64) ?_; refine z_fadr ?_; refine z_of q2' ?_
                refine c32 w1 (by omega) (by omega) fun z => ?_
                obtain ⟨y3, a3⟩ := addB y2 z
                refine z_of a3 ?_; refine z_of (inc64 (i := i2) (by omega)) ?_
                exact ih2 (i2 + 1) y3 (by omega)
              · refine z_cf (decide_eq_false (by omega)) ?_
                unfold p6_33
                refine z_of (inc64 (i := i) (by omega)) ?_
                exact ihm (i + 1) x2 (by omega)
          exact inner (n + 2) 0 y1 (by omega)
        · have e2' : decide ((i : Int) < 60) = false := decide_eq_false (by omega)
          rw [e2']
          refine z_cF ?_
          exact fin
      · have e1' : decide ((i : Int) < (l.length : Int)) = false := decide_eq_false (by omega)
        rw [e1']
        refine z_gft ?_; refine z_gft ?_; refine z_kf ?_; refine z_cF ?_
        exact fin
  exact loop (n + 2) 0 0 (by omega)
end Go.Proofs.Ytbamgdknkhhikaa
namespace Go.Proofs.Ytbamgdknkhhikaa
open Go.Ab
set_option linter.unusedSimpArgs false
set_option linter.unusedVariables false
section
variable {κ β γ : Type} [DecidableEq κ]
def lkG : List (κ × β) → κ → Option β
  | [], _ => none
  | p :: t, k => if k = p.1 then some p.2 else lkG t k
def upG : List (κ × β) → κ → β → List (κ × β)
  | [], k, v => [(k, v)]
  | p :: t, k, v => if k = p.1 then (k, v) :: t else p :: upG t k v
def dlG : List (κ × β) → κ → List (κ × β)
  | [], _ => []
  | p :: t, k => if k = p.1 then t else p :: dlG t k
def mp (f : β → γ) (l : List (κ × β)) : List (κ × γ) := l.map fun p => (p.1, f p.2)
theorem lkG_mp (f : β → γ) (k : κ) : ∀ (l : List (κ × β)), lkG (mp f l) k = (lkG l k).map f
  | [] => rfl
  | p :: t => by
    show (if k = p.1 then some (f p.2) else lkG (mp f t) k) = _
    simp only [lkG]
    by_cases e : k = p.1
    · rw [if_pos e, if_pos e]; rfl
    · rw [if_neg e, if_neg e, lkG_mp f k t]
theorem upG_mp (f : β → γ) (k : κ) (v : β) : ∀ (l : List (κ × β)), mp f (upG l k v) = upG (mp f l) k (f v)
  | [] => rfl
  | p :: t => by
    show _ = (if k = p.1 then (k, f v) :: mp f t else (p.1, f p.2) :: upG (mp f t) k (f v))
    simp only [upG]
    by_cases e : k = p.1
    · rw [if_pos e, if_pos e]; rfl
    · rw [if_neg e, if_neg e, ← upG_mp f k v t]; rfl
theorem dlG_mp (f : β → γ) (k : κ) : ∀ (l : List (κ × β)), mp f (dlG l k) = dlG (mp f l) k
  | [] => rfl
  | p :: t => by
    show _ = (if k = p.1 then mp f t else (p.1, f p.2) :: dlG (mp f t) k)
    simp only [dlG]
    by_cases e : k = p.1
    · rw [if_pos e, if_pos e]
    · rw [if_neg e, if_neg e, ← dlG_mp f k t]; rfl
theorem lk_G (k : κ) : ∀ (l : List (κ × AV)), lk l k = lkG l k
  | [] => rfl
  | p :: t => by simp only [lk, lkG, lk_G k t]
theorem up_G (k : κ) (v : AV) : ∀ (l : List (κ × AV)), up l k v = upG l k v
  | [] => rfl
  | p :: t => by simp only [up, upG, up_G k v t]
theorem dl_G (k : κ) : ∀ (l : List (κ × AV)), dl l k = dlG l k
  | [] => rfl
  | p :: t => by simp only [dl, dlG, dl_G k t]
theorem upG_none {k : κ} {v : β} : ∀ {l : List (κ × β)}, lkG l k = none → upG l k v = l ++ [(k, v)]
  | [], _ => rfl
  | p :: t, h => by
    simp only [lkG] at h
    simp only [upG]
    by_cases e : k = p.1
    · rw [if_pos e] at h; cases h
    · rw [if_neg e] at h ⊢
      rw [upG_none h]; rfl
theorem upG_keys {k : κ} {v u : β} : ∀ {l : List (κ × β)}, lkG l k = some u → (upG l k v).map (fun p => p.1) = l.map fun p => p.1
  | [], h => by cases h
  | p :: t, h => by
    simp only [lkG] at h
    simp only [upG]
    by_cases e : k = p.1
    · rw [if_pos e]; simp [e]
    · rw [if_neg e] at h ⊢
      simp only [List.map_cons, upG_keys h]
theorem upG_mem {k : κ} {v : β} : ∀ {l : List (κ × β)} {x : κ × β}, x ∈ upG l k v → x = (k, v) ∨ x ∈ l
  | [], x, h => .inl (List.mem_singleton.1 h)
  | p :: t, x, h => by
    simp only [upG] at h
    by_cases e : k = p.1
    · rw [if_pos e] at h
      rcases List.mem_cons.1 h with h | h
      · exact .inl h
      · exact .inr (List.mem_cons_of_mem _ h)
    · rw [if_neg e] at h
      rcases List.mem_cons.1 h with h | h
      · exact .inr (by rw [h]; exact List.mem_cons_self)
      · rcases upG_mem h with h | h
        · exact .inl h
        · exact .inr (List.mem_cons_of_mem _ h)
theorem dlG_sub {k : κ} : ∀ {l : List (κ × β)}, (dlG l k).Sublist l
  | [] => .slnil
  | p :: t => by
    simp only [dlG]
    by_cases e : k = p.1
    · rw [if_pos e]; exact List.sublist_cons_self _ _
    · rw [if_neg e]; exact dlG_sub.cons_cons _
theorem lkG_mem {k : κ} {u : β} : ∀ {l : List (κ × β)}, lkG l k = some u → (k, u) ∈ l
  | [], h => by cases h
  | p :: t, h => by
    simp only [lkG] at h
    by_cases e : k = p.1
    · rw [if_pos e] at h
      cases h; rw [e]; exact List.mem_cons_self
    · rw [if_neg e] at h
      exact List.mem_cons_of_mem _ (lkG_mem h)
theorem lkG_of_mem {k : κ} {u : β} : ∀ {l : List (κ × β)}, (l.map fun p => p.1).Nodup → (k, u) ∈ l → lkG l k = some u
  | [], _, h => by cases h
  | p :: t, hn, h => by
    simp only [List.map_cons, List.nodup_cons] at hn
    simp only [lkG]
    rcases List.mem_cons.1 h with h | h
    · rw [← h]; simp
    · by_cases e : k = p.1
      · exact absurd (List.mem_map.2 ⟨_, h, e⟩) hn.1
      · rw [if_neg e]; exact lkG_of_mem hn.2 h
theorem lkG_none {k : κ} : ∀ {l : List (κ × β)}, lkG l k = none ↔ k ∉ l.map fun p => p.1
  | [] => by simp [lkG]
  | p :: t => by
    simp only [lkG, List.map_cons, List.mem_cons, not_or]
    by_cases e : k = p.1
    · simp [e]
    · rw [if_neg e, lkG_none (l := t)]; simp [e]
theorem lkG_up {k j : κ} {v : β} : ∀ {l : List (κ × β)}, lkG (upG l k v) j = if j = k then some v else lkG l j
  | [] => rfl
  | p :: t => by
    simp only [upG]
    by_cases e : k = p.1
    · rw [if_pos e]
      simp only [lkG, ← e]
      by_cases e2 : j = k
      · rw [if_pos e2, if_pos e2]
      · rw [if_neg e2, if_neg e2, if_neg e2]
    · rw [if_neg e]
      simp only [lkG]
      by_cases e2 : j = p.1
      · rw [if_pos e2, if_neg (fun q => e (q.symm.trans e2)), if_pos e2]
      · rw [if_neg e2, lkG_up (l := t), if_neg e2]
theorem lkG_dl {k j : κ} : ∀ {l : List (κ × β)}, (l.map fun p => p.1).Nodup → lkG (dlG l k) j = if j = k then none else lkG l j
  | [], _ => by simp [dlG, lkG]
  | p :: t, hn => by
    simp only [List.map_cons, List.nodup_cons] at hn
    simp only [dlG]
    by_cases e : k = p.1
    · rw [if_pos e]
      simp only [lkG, ← e]
      by_cases e2 : j = k
      · rw [if_pos e2, lkG_none, e2, e]; exact hn.1
      · rw [if_neg e2, if_neg e2]
    · rw [if_neg e]
      simp only [lkG]
      by_cases e2 : j = p.1
      · rw [if_pos e2, if_neg (fun q => e (q.symm.trans e2)), if_pos e2]
      · rw [if_neg e2, lkG_dl hn.2, if_neg e2]
theorem upG_nodup {k : κ} {v : β} : ∀ {l : List (κ × β)}, (l.map fun p => p.1).Nodup → ((upG l k v).map fun p => p.1).Nodup
  | l, hn => by
    cases h : lkG l k with
    | some u => rw [upG_keys h]; exact hn
    | none =>
      rw [upG_none h, List.map_append, List.nodup_append]
      refine ⟨hn, by simp, fun a ha b hb => ?_⟩
      rw [lkG_none] at h
      simp only [List.map_cons, List.map_nil, List.mem_singleton] at hb
      subst hb
      exact fun q => h (by rw [← q]; exact ha)
theorem dlG_nodup {k : κ} {l : List (κ × β)} (hn : (l.map fun p => p.1).Nodup) : ((dlG l k).map fun p => p.1).Nodup := hn.sublist (dlG_sub.map _)
end
section
variable {κ β : Type} [DecidableEq κ]
theorem upG_same {k : κ} {u : β} : ∀ {l : List (κ × β)}, lkG l k = some u → upG l k u = l
  | [], h => by cases h
  | p :: t, h => by
    simp only [lkG] at h
    simp only [upG]
    by_cases e : k = p.1
    · rw [if_pos e] at h ⊢
      cases h; subst e; rfl
    · rw [if_neg e] at h ⊢
      rw [upG_same h]
theorem dlG_up {k : κ} {v : β} : ∀ {l : List (κ × β)}, (l.map fun p => p.1).Nodup → dlG (upG l k v) k = dlG l k
  | [], _ => by simp [upG, dlG]
  | p :: t, hn => by
    simp only [List.map_cons, List.nodup_cons] at hn
    simp only [upG]
    by_cases e : k = p.1
    · rw [if_pos e]; simp only [dlG, if_true, if_pos e]
    · rw [if_neg e]; simp only [dlG, if_neg e]; rw [dlG_up hn.2]
theorem dlG_len {k : κ} {u : β} : ∀ {l : List (κ × β)}, lkG l k = some u → (dlG l k).length + 1 = l.length
  | [], h => by cases h
  | p :: t, h => by
    simp only [lkG] at h
    simp only [dlG]
    by_cases e : k = p.1
    · rw [if_pos e]; rfl
    · rw [if_neg e] at h ⊢
      simp only [List.length_cons]
      rw [dlG_len h]
theorem upG_length {k : κ} {u v : β} {l : List (κ × β)} (h : lkG l k = some u) : (upG l k v).length = l.length := by
  have := congrArg List.length (upG_keys (v := v) h)
  simpa using this
theorem upG_up {k : κ} {u v : β} : ∀ {l : List (κ × β)}, upG (upG l k u) k v = upG l k v
  | [] => by simp [upG]
  | p :: t => by
    simp only [upG]
    by_cases e : k = p.1
    · rw [if_pos e, if_pos e]; simp [upG]
    · rw [if_neg e, if_neg e]
      simp only [upG, if_neg e]
      rw [upG_up]
omit [DecidableEq κ] in
theorem mp_keys {γ : Type} (f : β → γ) (l : List (κ × β)) : (mp f l).map (fun p => p.1) = l.map fun p => p.1 := by simp [mp, List.map_map, Function.comp_def]
end
end Go.Proofs.Ytbamgdknkhhikaa
namespace Go.Proofs.Ytbamgdknkhhikaa
open Go.Ab
set_option linter.unusedSimpArgs false
set_option linter.unusedVariables false
structure CD where
  id : Nat
  m : Nat
  cls : Str
  vals : AV
  came : Nat
  bys : List (BK × Unit)
structure RD where
  id : Nat
  m : Nat
  core : Int
  els : AV
  env : AV
  came : Nat
  ofs : List (SK × Unit)
structure TD where
  p : Nat
  cm : Nat
  rm : Nat
  cs : List (SK × CD)
  rs : List (BK × RD)
  came : Nat
  n : Nat
inductive Tag where
  | out | dat | jus | p | cm | rm
  | c (k : SK)
  | b (k : SK)
  | r (k : BK)
  | o (k : BK)
def Tag.own : Tag → Prop
  | .out => False
  | .dat => False
  | .jus => False
  | _ => True
abbrev W8 (τ : Nat → Tag) : Nat → Prop := fun j => (τ j).own
def one {κ : Type} (l : List (κ × Unit)) : List (κ × AV) := mp (fun _ => .agg []) l
structure CO (τ : Nat → Tag) (h : AHeap) (k : SK) (x : CD) : Prop where
  tid : τ x.id = .c k
  tm : τ x.m = .b k
  row : Var h x.id [.str x.cls, x.vals, .int .i64 (x.came : Int), .map x.m]
  map : KMap bk2 h x.m (one x.bys)
  sm : AV.same x.vals x.vals = true
structure RO (τ : Nat → Tag) (h : AHeap) (k : BK) (x : RD) : Prop where
  tid : τ x.id = .r k
  tm : τ x.m = .o k
  row : Var h x.id [.int .i64 x.core, x.els, x.env, .int .i64 (x.came : Int), .map x.m]
  map : KMap sk h x.m (one x.ofs)
structure TO (τ : Nat → Tag) (h : AHeap) (T : TD) : Prop where
  ok : h.Ok
  hi : ∀ j, h.sz ≤ j → τ j = .out
  tp : τ T.p = .p
  tc : τ T.cm = .cm
  tr : τ T.rm = .rm
  var : Var h T.p [.map T.cm, .map T.rm, .int .i64 (T.came : Int), .int .i64 (T.n : Int)]
  cs : KMap sk h T.cm (mp (fun x => .ptr x.id 0 0 0) T.cs)
  rs : KMap bk2 h T.rm (mp (fun x => .ptr x.id 0 0 0) T.rs)
  c : ∀ k x, (k, x) ∈ T.cs → CO τ h k x
  r : ∀ k x, (k, x) ∈ T.rs → RO τ h k x
section
variable {τ τ' : Nat → Tag} {h h' : AHeap} {T : TD} {X : Nat → Prop}
theorem TO.ck (O : TO τ h T) : (T.cs.map fun p => p.1).Nodup := by have := O.cs.keys; rwa [mp_keys] at this
theorem TO.rk (O : TO τ h T) : (T.rs.map fun p => p.1).Nodup := by have := O.rs.keys; rwa [mp_keys] at this
theorem CO.fr {k : SK} {x : CD} (C : CO τ h k x) (f : Fr X h h') (h1 : ∀ j, X j → τ j ≠ .c k) (h2 : ∀ j, X j → τ j ≠ .b k) (ht : ∀ j, τ j ≠ .out → τ' j = τ j) : CO τ' h' k x :=
  ⟨by rw [ht _ (by rw [C.tid]; exact fun e => by cases e)]; exact C.tid, by rw [ht _ (by rw [C.tm]; exact fun e => by cases e)]; exact C.tm, f.var C.row fun e => h1 _ e C.tid, f.kmap C.map fun e => h2 _ e C.tm, C.sm⟩
theorem RO.fr {k : BK} {x : RD} (C : RO τ h k x) (f : Fr X h h') (h1 : ∀ j, X j → τ j ≠ .r k) (h2 : ∀ j, X j → τ j ≠ .o k) (ht : ∀ j, τ j ≠ .out → τ' j = τ j) : RO τ' h' k x :=
  ⟨by rw [ht _ (by rw [C.tid]; exact fun e => by cases e)]; exact C.tid, by rw [ht _ (by rw [C.tm]; exact fun e => by cases e)]; exact C.tm, f.var C.row fun e => h1 _ e C.tid, f.kmap C.map fun e => h2 _ e C.tm⟩
theorem TO.fr (O : TO τ h T) (f : Fr X h h') (o : h'.Ok) (hx : ∀ j, X j → ¬ (τ j).own) : TO τ h' T := by
  have no : ∀ {j t}, τ j = t → t.own → ¬ X j := fun e w x => hx _ x (by rw [e]; exact w)
  have no' : ∀ {t : Tag}, t.own → ∀ j, X j → τ j ≠ t := fun w j x e => hx j x (by rw [e]; exact w)
  exact ⟨o, fun j hj => O.hi j (Nat.le_trans f.sz hj), O.tp, O.tc, O.tr, f.var O.var (no O.tp trivial), f.kmap O.cs (no O.tc trivial), f.kmap O.rs (no O.tr trivial),
    fun k x hx => (O.c k x hx).fr f (no' trivial) (no' trivial) fun _ _ => rfl, fun k x hx => (O.r k x hx).fr f (no' trivial) (no' trivial) fun _ _ => rfl⟩
theorem TO.ext (O : TO τ h T) (e : Ext h h') (o : h'.Ok) : TO τ h' T := O.fr (Fr.of_ext (X := fun _ => False) e) o fun _ x => x.elim
theorem TO.plt (O : TO τ h T) : T.p < h.sz := O.var.lt O.ok
theorem TO.put (O : TO τ h T) {ca n : Nat} (f : Fr (fun j => j = T.p) h h') (o : h'.Ok) (V : Var h' T.p [.map T.cm, .map T.rm, .int .i64 (ca : Int), .int .i64 (n : Int)]) : TO τ h' { T with came := ca, n := n } := by
  have no : ∀ {j t}, τ j = t → t ≠ .p → ¬ j = T.p := fun e w x => w (by rw [← e, x]; exact O.tp)
  have no' : ∀ {t : Tag}, t ≠ .p → ∀ j, j = T.p → τ j ≠ t := fun w j x e => w (by rw [← e, x]; exact O.tp)
  exact ⟨o, fun j hj => O.hi j (Nat.le_trans f.sz hj), O.tp, O.tc, O.tr, V, f.kmap O.cs (no O.tc fun e => by cases e), f.kmap O.rs (no O.tr fun e => by cases e),
    fun k x hx => (O.c k x hx).fr f (no' fun e => by cases e) (no' fun e => by cases e) fun _ _ => rfl, fun k x hx => (O.r k x hx).fr f (no' fun e => by cases e) (no' fun e => by cases e) fun _ _ => rfl⟩
theorem TO.bys (O : TO τ h T) {k : SK} {x : CD} {l : List (BK × Unit)} (hx : lkG T.cs k = some x) (f : Fr (fun j => j = x.m) h h') (o : h'.Ok) (M : KMap bk2 h' x.m (one l)) : TO τ h' { T with cs := upG T.cs k { x with bys := l } } := by
  have C := O.c k x (lkG_mem hx)
  have no : ∀ {j t}, τ j = t → t ≠ .b k → ¬ j = x.m := fun e w y => w (by rw [← e, y]; exact C.tm)
  have no' : ∀ {t : Tag}, t ≠ .b k → ∀ j, j = x.m → τ j ≠ t := fun w j y e => w (by rw [← e, y]; exact C.tm)
  refine ⟨o, fun j hj => O.hi j (Nat.le_trans f.sz hj), O.tp, O.tc, O.tr, f.var O.var (no O.tp fun e => by cases e), ?_, f.kmap O.rs (no O.tr fun e => by cases e), fun k' y hy => ?_, fun k y hx => (O.r k y hx).fr f (no' fun e => by cases e) (no' fun e => by cases e) fun _ _ => rfl⟩
  · have := f.kmap O.cs (no O.tc fun e => by cases e)
    have e : mp (fun x : CD => AV.ptr x.id 0 0 0) (upG T.cs k { x with bys := l }) = mp (fun x : CD => AV.ptr x.id 0 0 0) T.cs := by
      rw [upG_mp, upG_same]
      rw [lkG_mp, hx]; rfl
    show KMap sk h' T.cm (mp (fun x : CD => AV.ptr x.id 0 0 0) (upG T.cs k { x with bys := l }))
    rw [e]; exact this
  · by_cases ek : k' = k
    · subst ek
      have := lkG_of_mem (upG_nodup O.ck) hy
      rw [lkG_up, if_pos rfl] at this
      cases this
      exact ⟨C.tid, C.tm, f.var C.row (no C.tid fun e => by cases e), M, C.sm⟩
    · rcases upG_mem hy with e | hy
      · cases e; exact absurd rfl ek
      · exact (O.c k' y hy).fr f (no' fun e => by cases e) (no' fun e => by cases e; exact ek rfl) fun _ _ => rfl
theorem TO.ofs (O : TO τ h T) {k : BK} {x : RD} {l : List (SK × Unit)} (hx : lkG T.rs k = some x) (f : Fr (fun j => j = x.m) h h') (o : h'.Ok) (M : KMap sk h' x.m (one l)) : TO τ h' { T with rs := upG T.rs k { x with ofs := l } } := by
  have C := O.r k x (lkG_mem hx)
  have no : ∀ {j t}, τ j = t → t ≠ .o k → ¬ j = x.m := fun e w y => w (by rw [← e, y]; exact C.tm)
  have no' : ∀ {t : Tag}, t ≠ .o k → ∀ j, j = x.m → τ j ≠ t := fun w j y e => w (by rw [← e, y]; exact C.tm)
  refine ⟨o, fun j hj => O.hi j (Nat.le_trans f.sz hj), O.tp, O.tc, O.tr, f.var O.var (no O.tp fun e => by cases e), f.kmap O.cs (no O.tc fun e => by cases e), ?_, fun k y hx => (O.c k y hx).fr f (no' fun e => by cases e) (no' fun e => by cases e) fun _ _ => rfl, fun k' y hy => ?_⟩
  · have := f.kmap O.rs (no O.tr fun e => by cases e)
    have e : mp (fun x : RD => AV.ptr x.id 0 0 0) (upG T.rs k { x with ofs := l }) = mp (fun x : RD => AV.ptr x.id 0 0 0) T.rs := by
      rw [upG_mp, upG_same]
      rw [lkG_mp, hx]; rfl
    show KMap bk2 h' T.rm (mp (fun x : RD => AV.ptr x.id 0 0 0) (upG T.rs k { x with ofs := l }))
    rw [e]; exact this
  · by_cases ek : k' = k
    · subst ek
      have := lkG_of_mem (upG_nodup O.rk) hy
      rw [lkG_up, if_pos rfl] at this
      cases this
      exact ⟨C.tid, C.tm, f.var C.row (no C.tid fun e => by cases e), M⟩
    · rcases upG_mem hy with e | hy
      · cases e; exact absurd rfl ek
      · exact (O.r k' y hy).fr f (no' fun e => by cases e) (no' fun e => by cases e; exact ek rfl) fun _ _ => rfl
theorem TO.delc (O : TO τ h T) {k : SK} (f : Fr (fun j => j = T.cm) h h') (o : h'.Ok) (M : KMap sk h' T.cm (dl (mp (fun x => .ptr x.id 0 0 0) T.cs) k)) : TO τ h' { T with cs := dlG T.cs k } := by
  have no : ∀ {j t}, τ j = t → t ≠ .cm → ¬ j = T.cm := fun e w x => w (by rw [← e, x]; exact O.tc)
  have no' : ∀ {t : Tag}, t ≠ .cm → ∀ j, j = T.cm → τ j ≠ t := fun w j x e => w (by rw [← e, x]; exact O.tc)
  refine ⟨o, fun j hj => O.hi j (Nat.le_trans f.sz hj), O.tp, O.tc, O.tr, f.var O.var (no O.tp fun e => by cases e), ?_, f.kmap O.rs (no O.tr fun e => by cases e),
    fun k' x hx => (O.c k' x (dlG_sub.subset hx)).fr f (no' fun e => by cases e) (no' fun e => by cases e) fun _ _ => rfl, fun k x hx => (O.r k x hx).fr f (no' fun e => by cases e) (no' fun e => by cases e) fun _ _ => rfl⟩
  rw [dl_G, ← dlG_mp] at M; exact M
theorem TO.delr (O : TO τ h T) {k : BK} (f : Fr (fun j => j = T.rm) h h') (o : h'.Ok) (M : KMap bk2 h' T.rm (dl (mp (fun x => .ptr x.id 0 0 0) T.rs) k)) : TO τ h' { T with rs := dlG T.rs k } := by
  have no : ∀ {j t}, τ j = t → t ≠ .rm → ¬ j = T.rm := fun e w x => w (by rw [← e, x]; exact O.tr)
  have no' : ∀ {t : Tag}, t ≠ .rm → ∀ j, j = T.rm → τ j ≠ t := fun w j x e => w (by rw [← e, x]; exact O.tr)
  refine ⟨o, fun j hj => O.hi j (Nat.le_trans f.sz hj), O.tp, O.tc, O.tr, f.var O.var (no O.tp fun e => by cases e), f.kmap O.cs (no O.tc fun e => by cases e), ?_,
    fun k x hx => (O.c k x hx).fr f (no' fun e => by cases e) (no' fun e => by cases e) fun _ _ => rfl, fun k' x hx => (O.r k' x (dlG_sub.subset hx)).fr f (no' fun e => by cases e) (no' fun e => by cases e) fun _ _ => rfl⟩
  rw [dl_G, ← dlG_mp] at M; exact M
theorem TO.l0 (O : TO τ h T) : loadA h false 1 (.ptr T.p 0 0 0) = some (.map T.cm) := O.var.get rfl
theorem TO.l1 (O : TO τ h T) : loadA h false 1 (.ptr T.p 0 0 1) = some (.map T.rm) := O.var.get rfl
theorem TO.l2 (O : TO τ h T) : loadA h false 1 (.ptr T.p 0 0 2) = some (.int .i64 (T.came : Int)) := O.var.get rfl
theorem TO.l3 (O : TO τ h T) : loadA h false 1 (.ptr T.p 0 0 3) = some (.int .i64 (T.n : Int)) := O.var.get rfl
theorem TO.lkc (O : TO τ h T) {k : SK} {x : CD} (e : lkG T.cs k = some x) : lookA h (.st [.str, .str]) false .nilPtr (.map T.cm) (sk k) = some (.ptr x.id 0 0 0) := by
  rw [O.cs.look sks, lk_G, lkG_mp, e]; rfl
theorem TO.lkc0 (O : TO τ h T) {k : SK} (e : lkG T.cs k = none) : lookA h (.st [.str, .str]) false .nilPtr (.map T.cm) (sk k) = some .nilPtr := by
  rw [O.cs.look sks, lk_G, lkG_mp, e]; rfl
theorem TO.lkr (O : TO τ h T) {k : BK} {x : RD} (e : lkG T.rs k = some x) : lookA h (.st [.int, .str]) false .nilPtr (.map T.rm) (bk2 k) = some (.ptr x.id 0 0 0) := by
  rw [O.rs.look bks, lk_G, lkG_mp, e]; rfl
theorem TO.lkr0 (O : TO τ h T) {k : BK} (e : lkG T.rs k = none) : lookA h (.st [.int, .str]) false .nilPtr (.map T.rm) (bk2 k) = some .nilPtr := by
  rw [O.rs.look bks, lk_G, lkG_mp, e]; rfl
theorem CO.l3 {k : SK} {x : CD} (C : CO τ h k x) : loadA h false 1 (.ptr x.id 0 0 3) = some (.map x.m) := C.row.get rfl
theorem CO.l2 {k : SK} {x : CD} (C : CO τ h k x) : loadA h false 1 (.ptr x.id 0 0 2) = some (.int .i64 (x.came : Int)) := C.row.get rfl
theorem CO.l1 {k : SK} {x : CD} (C : CO τ h k x) : loadA h false 1 (.ptr x.id 0 0 1) = some x.vals := C.row.get rfl
theorem CO.l0 {k : SK} {x : CD} (C : CO τ h k x) : loadA h false 1 (.ptr x.id 0 0 0) = some (.str x.cls) := C.row.get rfl
theorem RO.l4 {k : BK} {x : RD} (C : RO τ h k x) : loadA h false 1 (.ptr x.id 0 0 4) = some (.map x.m) := C.row.get rfl
theorem RO.l3 {k : BK} {x : RD} (C : RO τ h k x) : loadA h false 1 (.ptr x.id 0 0 3) = some (.int .i64 (x.came : Int)) := C.row.get rfl
end
end Go.Proofs.Ytbamgdknkhhikaa
namespace Go.Proofs.Ytbamgdknkhhikaa
open Go.Ab
set_option linter.unusedSimpArgs false
set_option linter.unusedVariables false
section
variable {κ β γ : Type} [DecidableEq κ] [DecidableEq γ]
def dropG (get : β → List (γ × Unit)) (set : β → List (γ × Unit) → β) (l : List (κ × β)) (k : κ) (r : γ) : List (κ × β) :=
  match lkG l k with
  | none => l
  | some x => if (dlG (get x) r).length = 0 then dlG l k else upG l k (set x (dlG (get x) r))
end
def setC (x : CD) (l : List (BK × Unit)) : CD := { x with bys := l }
def setR (x : RD) (l : List (SK × Unit)) : RD := { x with ofs := l }
def dropC (cs : List (SK × CD)) (k : SK) (r : BK) : List (SK × CD) := dropG CD.bys setC cs k r
def dropR (rs : List (BK × RD)) (r : BK) (k : SK) : List (BK × RD) := dropG RD.ofs setR rs r k
def dropT (T : TD) (k : SK) (r : BK) : TD := { T with cs := dropC T.cs k r, rs := dropR T.rs r k, n := T.n - 1 }
theorem dels_mid {κ : Type} {ek : κ → AV} {h h1 h2 h3 : AHeap} {id : Nat} {k : κ} (D : Dels ek h1 h2 id k) (p : ∀ o, h.get id = some o → h1.get id = some o) (q : ∀ o, h2.get id = some o → h3.get id = some o) : Dels ek h h3 id k :=
  fun es c e => q _ (D es c (p _ e))
theorem one_dl {κ : Type} [DecidableEq κ] {ek : κ → AV} {h : AHeap} {id : Nat} {l : List (κ × Unit)} {k : κ} (M : KMap ek h id (dl (one l) k)) : KMap ek h id (one (dlG l k)) := by
  rw [one, dlG_mp, ← dl_G]; exact M
theorem one_lk {κ : Type} [DecidableEq κ] {l : List (κ × Unit)} {k : κ} (e : lkG l k = some ()) : lk (one l) k ≠ none := by
  rw [lk_G, one, lkG_mp, e]; exact fun q => by cases q
theorem one_len {κ : Type} (l : List (κ × Unit)) : (one l).length = l.length := by simp [one, mp]
section
variable {τ : Nat → Tag} {h : AHeap} {T : TD} {K : Kont} {n : Nat} {k : SK} {r : BK} {x : CD} {y : RD}
theorem c48 (O : TO τ h T) (hx : lkG T.cs k = some x) (hb : lkG x.bys r = some ()) (hy : lkG T.rs r = some y) (hk : lkG y.ofs k = some ()) (h1n : 1 ≤ T.n) (hn : T.n < 1000000)
    (kk : ∀ h', TO τ h' (dropT T k r) → Fr (W8 τ) h h' → Dels bk2 h h' x.m r → Dels sk h h' y.m k → K (.tup []) h' = true) :
    callN E (n + 1) (.func 48) [.ptr T.p 0 0 0, sk k, bk2 r] h K = true := by
  apply d48
  unfold s48
  have C0 := O.c k x (lkG_mem hx)
  have R0 := O.r r y (lkG_mem hy)
  have xl := C0.map.lt O.ok
  have yl := R0.map.lt O.ok
  have pl := O.plt
  have cl := O.cs.lt O.ok
  have nxy : x.m ≠ y.m := fun e => by have := C0.tm; rw [e, R0.tm] at this; cases this
  have nxp : x.m ≠ T.p := fun e => by have := C0.tm; rw [e, O.tp] at this; cases this
  have nyp : y.m ≠ T.p := fun e => by have := R0.tm; rw [e, O.tp] at this; cases this
  have nxc : x.m ≠ T.cm := fun e => by have := C0.tm; rw [e, O.tc] at this; cases this
  have nyc : y.m ≠ T.cm := fun e => by have := R0.tm; rw [e, O.tc] at this; cases this
  have nxr : x.m ≠ T.rm := fun e => by have := C0.tm; rw [e, O.tr] at this; cases this
  have nyr : y.m ≠ T.rm := fun e => by have := R0.tm; rw [e, O.tr] at this; cases this
  obtain ⟨h1, b1, V1, e1, o1, z1⟩ := box_v (n := 2) (v := sk k) O.ok rfl (by decide) rfl
  have V1 : Var h1 h.sz [.str k.1, .str k.2] := V1
  refine z_p b1 ?_
  obtain ⟨h2, b2, V2, e2, o2, z2⟩ := box_v (n := 2) (v := bk2 r) o1 rfl (by decide) rfl
  have V2 : Var h2 h1.sz [.int .i64 r.1, .str r.2] := V2
  refine z_p b2 ?_
  have O2 := (O.ext e1 o1).ext e2 o2
  have U1 := V1.ext e2
  have A1 : loadA h2 true 2 (.ptr h.sz 0 0 0) = some (sk k) := U1.all rfl
  have A2 : loadA h2 true 2 (.ptr h1.sz 0 0 0) = some (bk2 r) := V2.all rfl
  have C := O2.c k x (lkG_mem hx)
  have R := O2.r r y (lkG_mem hy)
  refine z_nil ?_; refine z_fadr ?_; refine z_of O2.l0 ?_; refine z_of A1 ?_; refine z_of (O2.lkc hx) ?_; refine z_nil ?_; refine z_fadr ?_; refine z_of O2.l1 ?_; refine z_of A2 ?_; refine z_of (O2.lkr hy) ?_; refine z_nil ?_; refine z_fadr ?_; refine z_of C.l3 ?_; refine z_of A2 ?_
  obtain ⟨h3, q1, q2, q3, q4, q5, q6⟩ := C.map.delD bks (one_lk hb)
  refine z_u q1 ?_
  have o3 := q4 o2
  have O3 := O2.bys hx (Fr.of_but rfl q2) o3 (one_dl q5)
  have U1 := q2.var U1 (by omega)
  have V2 := q2.var V2 (by omega)
  have A1 : loadA h3 true 2 (.ptr h.sz 0 0 0) = some (sk k) := U1.all rfl
  have A2 : loadA h3 true 2 (.ptr h1.sz 0 0 0) = some (bk2 r) := V2.all rfl
  have R := O3.r r y (lkG_mem hy)
  refine z_nil ?_; refine z_fadr ?_; refine z_of R.l4 ?_; refine z_of A1 ?_
  obtain ⟨h4, p1, p2, p3, p4, p5, p6⟩ := R.map.delD sks (one_lk hk)
  refine z_u p1 ?_
  have o4 := p4 o3
  have O4 : TO τ h4 { T with cs := upG T.cs k { x with bys := dlG x.bys r }, rs := upG T.rs r { y with ofs := dlG y.ofs k } } := O3.ofs hy (Fr.of_but rfl p2) o4 (one_dl p5)
  have U1 := p2.var U1 (by omega)
  have V2 := p2.var V2 (by omega)
  have V4 : Var h4 T.p [.map T.cm, .map T.rm, .int .i64 (T.came : Int), .int .i64 (T.n : Int)] := O4.var
  have l43 : loadA h4 false 1 (.ptr T.p 0 0 3) = some (.int .i64 (T.n : Int)) := O4.l3
  refine z_nil ?_; refine z_fadr ?_; refine z_of l43 ?_; refine z_of (sub64 (a := (T.n : Int)) (b := 1) (by omega) (by omega)) ?_; refine z_nil ?_; refine z_fadr ?_
  obtain ⟨h5, w1, w2, w3, o5, w5⟩ := V4.wr o4 (off := 3) (v := .int .i64 ((T.n : Int) - 1)) (show 3 < 4 by decide) rfl
  refine z_u w1 ?_
  have hn1 : (T.n : Int) - 1 = ((T.n - 1 : Nat) : Int) := by omega
  rw [hn1] at w2
  have O5 : TO τ h5 { T with cs := upG T.cs k { x with bys := dlG x.bys r }, rs := upG T.rs r { y with ofs := dlG y.ofs k }, n := T.n - 1 } := O4.put (ca := T.came) (n := T.n - 1) (Fr.of_but rfl w3) o5 w2
  have U1 := w3.var U1 (show h.sz ≠ T.p by omega)
  have V2 := w3.var V2 (show h1.sz ≠ T.p by omega)
  have A1 : loadA h5 true 2 (.ptr h.sz 0 0 0) = some (sk k) := U1.all rfl
  have A2 : loadA h5 true 2 (.ptr h1.sz 0 0 0) = some (bk2 r) := V2.all rfl
  have kx : lkG (upG T.cs k { x with bys := dlG x.bys r }) k = some { x with bys := dlG x.bys r } := by rw [lkG_up, if_pos rfl]
  have ky : lkG (upG T.rs r { y with ofs := dlG y.ofs k }) r = some { y with ofs := dlG y.ofs k } := by rw [lkG_up, if_pos rfl]
  have C := O5.c k _ (lkG_mem kx)
  have lx : lenA h5 2 (.map x.m) = some (.int .i64 ((dlG x.bys r).length : Int)) := by have := C.map.len; rw [one_len] at this; exact this
  have C3 : loadA h5 false 1 (.ptr x.id 0 0 3) = some (.map x.m) := C.l3
  have fh2 : Fr (W8 τ) h h2 := Fr.of_ext ⟨Nat.le_trans e1.1 e2.1, fun j o e => e2.2 j o (e1.2 j o e)⟩
  have f5 : Fr (W8 τ) h h5 := ((fh2.trans (Fr.of_but (by show (τ x.m).own; rw [C0.tm]; trivial) q2)).trans (Fr.of_but (by show (τ y.m).own; rw [R0.tm]; trivial) p2)).trans (Fr.of_but (by show (τ T.p).own; rw [O.tp]; trivial) w3)
  have pre : ∀ j o, h.get j = some o → h2.get j = some o := fun j o e => e2.2 j o (e1.2 j o e)
  have D1 : Dels bk2 h h5 x.m r := dels_mid q6 (fun o => pre _ o) fun o e => w3.keep _ _ nxp (p2.keep _ _ nxy e)
  have D2 : Dels sk h h5 y.m k := dels_mid p6 (fun o e => q2.keep _ _ (fun e => nxy e.symm) (pre _ o e)) fun o e => w3.keep _ _ nyp e
  have end2 : ∀ h6, TO τ h6 { T with cs := dropC T.cs k r, rs := upG T.rs r { y with ofs := dlG y.ofs k }, n := T.n - 1 } → Fr (W8 τ) h h6 → Dels bk2 h h6 x.m r → Dels sk h h6 y.m k → Var h6 h.sz [.str k.1, .str k.2] → Var h6 h1.sz [.int .i64 r.1, .str r.2] →
      p48_16 (callN E n) n (.ptr T.p 0 0 0) (.ptr h1.sz 0 0 0) (.ptr y.id 0 0 0) h6 K = true := by
    intro h6 O6 f6 D1 D2 U1 V2
    unfold p48_16
    have R := O6.r r _ (lkG_mem ky)
    have ly : lenA h6 2 (.map y.m) = some (.int .i64 ((dlG y.ofs k).length : Int)) := by have := R.map.len; rw [one_len] at this; exact this
    have R4 : loadA h6 false 1 (.ptr y.id 0 0 4) = some (.map y.m) := R.l4
    have A2 : loadA h6 true 2 (.ptr h1.sz 0 0 0) = some (bk2 r) := V2.all rfl
    refine z_nil ?_; refine z_fadr ?_; refine z_of R4 ?_; refine z_of ly ?_; refine z_eql ?_
    have goal : ∀ h7, TO τ h7 { T with cs := dropC T.cs k r, rs := dropR T.rs r k, n := T.n - 1 } → Fr (W8 τ) h h7 → Dels bk2 h h7 x.m r → Dels sk h h7 y.m k → K (.tup []) h7 = true := kk
    by_cases e : (dlG y.ofs k).length = 0
    · refine z_ct (decide_eq_true (by omega)) ?_
      refine z_nil ?_; refine z_fadr ?_; refine z_of O6.l1 ?_; refine z_of A2 ?_
      obtain ⟨h7, j1, j2, j3, j4, j5⟩ := O6.rs.del bks r
      refine z_u j1 ?_
      have O7 := O6.delr (Fr.of_but rfl j2) (j4 O6.ok) j5
      refine goal h7 ?_ (f6.trans (Fr.of_but (by show (τ T.rm).own; rw [O.tr]; trivial) j2)) (dels_mid D1 (fun o e => e) fun o e => j2.keep _ _ nxr e) (dels_mid D2 (fun o e => e) fun o e => j2.keep _ _ nyr e)
      have : dropR T.rs r k = dlG (upG T.rs r { y with ofs := dlG y.ofs k }) r := by
        rw [dlG_up O.rk]; unfold dropR dropG; rw [hy]; simp only; rw [if_pos e]
      rw [this]; exact O7
    · refine z_cf (decide_eq_false (by omega)) ?_
      refine goal h6 ?_ f6 D1 D2
      have : dropR T.rs r k = upG T.rs r { y with ofs := dlG y.ofs k } := by
        unfold dropR dropG; rw [hy]; simp only; rw [if_neg e]; rfl
      rw [this]; exact O6
  refine z_nil ?_; refine z_fadr ?_; refine z_of C3 ?_; refine z_of lx ?_; refine z_eql ?_
  by_cases e : (dlG x.bys r).length = 0
  · refine z_ct (decide_eq_true (by omega)) ?_
    refine z_nil ?_; refine z_fadr ?_; refine z_of O5.l0 ?_; refine z_of A1 ?_
    obtain ⟨h6, j1, j2, j3, j4, j5⟩ := O5.cs.del sks k
    refine z_u j1 ?_
    have O6 := O5.delc (Fr.of_but rfl j2) (j4 o5) j5
    refine end2 h6 ?_ (f5.trans (Fr.of_but (by show (τ T.cm).own; rw [O.tc]; trivial) j2)) (dels_mid D1 (fun o e => e) fun o e => j2.keep _ _ nxc e) (dels_mid D2 (fun o e => e) fun o e => j2.keep _ _ nyc e) (j2.var U1 (show h.sz ≠ T.cm by omega)) (j2.var V2 (show h1.sz ≠ T.cm by omega))
    have : dropC T.cs k r = dlG (upG T.cs k { x with bys := dlG x.bys r }) k := by
      rw [dlG_up O.ck]; unfold dropC dropG; rw [hx]; simp only; rw [if_pos e]
    rw [this]; exact O6
  · refine z_cf (decide_eq_false (by omega)) ?_
    refine end2 h5 ?_ f5 D1 D2 U1 V2
    have : dropC T.cs k r = upG T.cs k { x with bys := dlG x.bys r } := by
      unfold dropC dropG; rw [hx]; simp only; rw [if_neg e]; rfl
    rw [this]; exact O5
end
end Go.Proofs.Ytbamgdknkhhikaa
namespace Go.Proofs.Ytbamgdknkhhikaa
open Go.Ab
set_option linter.unusedSimpArgs false
set_option linter.unusedVariables false
section
variable {κ β γ δ : Type} [DecidableEq κ] [DecidableEq γ] {get : β → List (γ × Unit)} {set : β → List (γ × Unit) → β} {l : List (κ × β)} {k : κ} {r : γ} {x : β}
theorem dropG_lk (hn : (l.map fun p => p.1).Nodup) (hx : lkG l k = some x) (j : κ) : lkG (dropG get set l k r) j = if j = k then (if (dlG (get x) r).length = 0 then none else some (set x (dlG (get x) r))) else lkG l j := by
  unfold dropG
  rw [hx]
  simp only
  by_cases e : (dlG (get x) r).length = 0
  · rw [if_pos e, if_pos e, lkG_dl hn]
  · rw [if_neg e, if_neg e, lkG_up]
theorem dropG_nodup (hn : (l.map fun p => p.1).Nodup) : ((dropG get set l k r).map fun p => p.1).Nodup := by
  unfold dropG
  split
  · exact hn
  · split
    · exact dlG_nodup hn
    · exact upG_nodup hn
theorem upG_sub (f : β → δ) {v : β} (hx : lkG l k = some x) (hf : f v = f x) : mp f (upG l k v) = mp f l := by
  rw [upG_mp, upG_same]
  rw [lkG_mp, hx, hf]; rfl
theorem dropG_sub (f : β → δ) (hf : ∀ x d, f (set x d) = f x) : (mp f (dropG get set l k r)).Sublist (mp f l) := by
  unfold dropG
  split
  · exact List.Sublist.refl _
  · rename_i x hx
    split
    · rw [dlG_mp]; exact dlG_sub
    · rw [upG_sub f hx (hf _ _)]; exact List.Sublist.refl _
def hasG (get : β → List (γ × Unit)) (l : List (κ × β)) (k : κ) (r : γ) : Prop := ∃ x, lkG l k = some x ∧ lkG (get x) r = some ()
theorem dropG_has (hn : (l.map fun p => p.1).Nodup) (hx : lkG l k = some x) (hs : ∀ x d, get (set x d) = d) (hb : ((get x).map fun p => p.1).Nodup) (j : κ) (s : γ) :
    hasG get (dropG get set l k r) j s ↔ hasG get l j s ∧ ¬ (j = k ∧ s = r) := by
  unfold hasG
  rw [dropG_lk hn hx]
  by_cases e : j = k
  · subst e
    rw [if_pos rfl]
    by_cases e0 : (dlG (get x) r).length = 0
    · rw [if_pos e0]
      refine ⟨fun ⟨_, h, _⟩ => (by cases h), fun ⟨⟨x', h1, h2⟩, h3⟩ => ?_⟩
      rw [hx] at h1; cases h1
      have h4 : lkG (dlG (get x) r) s = some () := by rw [lkG_dl hb, if_neg (fun e => h3 ⟨rfl, e⟩)]; exact h2
      rw [List.length_eq_zero_iff.1 e0] at h4; cases h4
    · rw [if_neg e0]
      refine ⟨fun ⟨x', h, h2⟩ => ?_, fun ⟨⟨x', h1, h2⟩, h3⟩ => ?_⟩
      · cases h
        rw [hs, lkG_dl hb] at h2
        by_cases e1 : s = r
        · rw [if_pos e1] at h2; cases h2
        · rw [if_neg e1] at h2
          exact ⟨⟨x, hx, h2⟩, fun e => e1 e.2⟩
      · rw [hx] at h1; cases h1
        exact ⟨_, rfl, by rw [hs, lkG_dl hb, if_neg (fun e => h3 ⟨rfl, e⟩)]; exact h2⟩
  · rw [if_neg e]
    exact ⟨fun h => ⟨h, fun e' => e e'.1⟩, fun h => h.1⟩
theorem dropG_all (P : β → Prop) (hn : (l.map fun p => p.1).Nodup) (hx : lkG l k = some x) (h0 : ∀ j y, lkG l j = some y → P y) (h1 : (dlG (get x) r).length ≠ 0 → P (set x (dlG (get x) r))) : ∀ j y, lkG (dropG get set l k r) j = some y → P y := by
  intro j y hy
  rw [dropG_lk hn hx] at hy
  by_cases e : j = k
  · rw [if_pos e] at hy
    by_cases e0 : (dlG (get x) r).length = 0
    · rw [if_pos e0] at hy; cases hy
    · rw [if_neg e0] at hy; cases hy; exact h1 e0
  · rw [if_neg e] at hy; exact h0 j y hy
def sumG (get : β → List (γ × Unit)) (l : List (κ × β)) : Nat := (l.map fun p => (get p.2).length).sum
omit [DecidableEq γ] in
theorem sumG_dl {get : β → List (γ × Unit)} : ∀ {l : List (κ × β)}, lkG l k = some x → sumG get (dlG l k) + (get x).length = sumG get l
  | [], h => by cases h
  | p :: t, h => by
    simp only [lkG] at h
    simp only [dlG]
    by_cases e : k = p.1
    · rw [if_pos e] at h ⊢
      cases h
      simp only [sumG, List.map_cons, List.sum_cons]; omega
    · rw [if_neg e] at h ⊢
      have := sumG_dl (get := get) h
      simp only [sumG, List.map_cons, List.sum_cons] at this ⊢; omega
omit [DecidableEq γ] in
theorem sumG_up {get : β → List (γ × Unit)} {v : β} : ∀ {l : List (κ × β)}, lkG l k = some x → sumG get (upG l k v) + (get x).length = sumG get l + (get v).length
  | [], h => by cases h
  | p :: t, h => by
    simp only [lkG] at h
    simp only [upG]
    by_cases e : k = p.1
    · rw [if_pos e] at h ⊢
      cases h
      simp only [sumG, List.map_cons, List.sum_cons]; omega
    · rw [if_neg e] at h ⊢
      have := sumG_up (get := get) (v := v) h
      simp only [sumG, List.map_cons, List.sum_cons] at this ⊢; omega
theorem dropG_sum (hx : lkG l k = some x) (hs : ∀ x d, get (set x d) = d) (hb : lkG (get x) r = some ()) : sumG get (dropG get set l k r) + 1 = sumG get l := by
  have h1 := dlG_len hb
  unfold dropG
  rw [hx]
  simp only
  by_cases e : (dlG (get x) r).length = 0
  · rw [if_pos e]
    have := sumG_dl (get := get) hx
    omega
  · rw [if_neg e]
    have := sumG_up (get := get) (v := set x (dlG (get x) r)) hx
    rw [hs] at this
    omega
omit [DecidableEq κ] [DecidableEq γ] in
theorem sumG_app (l m : List (κ × β)) : sumG get (l ++ m) = sumG get l + sumG get m := by simp [sumG]
omit [DecidableEq γ] in
theorem lk_le_sum (hx : lkG l k = some x) : (get x).length ≤ sumG get l := by
  have := sumG_dl (get := get) hx; omega
end
abbrev hasB (T : TD) (k : SK) (r : BK) : Prop := hasG CD.bys T.cs k r
abbrev hasR (T : TD) (k : SK) (r : BK) : Prop := hasG RD.ofs T.rs r k
structure TW (T : TD) : Prop where
  ck : (T.cs.map fun p => p.1).Nodup
  rk : (T.rs.map fun p => p.1).Nodup
  bn : ∀ k x, lkG T.cs k = some x → (x.bys.map fun p => p.1).Nodup
  on : ∀ r y, lkG T.rs r = some y → (y.ofs.map fun p => p.1).Nodup
  bij : ∀ k r, hasB T k r ↔ hasR T k r
  cne : ∀ k x, lkG T.cs k = some x → x.bys.length ≠ 0
  rne : ∀ r y, lkG T.rs r = some y → y.ofs.length ≠ 0
  sc : ((mp CD.came T.cs).map fun p => p.2).Pairwise fun a b => a < b
  tc : ∀ x ∈ (mp CD.came T.cs).map fun p => p.2, x ≤ T.came
  sr : ((mp RD.came T.rs).map fun p => p.2).Pairwise fun a b => a < b
  tr : ∀ x ∈ (mp RD.came T.rs).map fun p => p.2, x ≤ T.came
  sum : T.n = sumG CD.bys T.cs
def barC (x : CD) : Nat × Nat × Str × AV × Nat := (x.id, x.m, x.cls, x.vals, x.came)
def barR (x : RD) : Nat × Nat × Int × AV × AV × Nat := (x.id, x.m, x.core, x.els, x.env, x.came)
structure Less (T T' : TD) (D : SK → BK → Prop) : Prop where
  w : TW T'
  p : T'.p = T.p
  cm : T'.cm = T.cm
  rm : T'.rm = T.rm
  came : T'.came = T.came
  has : ∀ k r, hasB T' k r ↔ hasB T k r ∧ ¬ D k r
  sc : (mp barC T'.cs).Sublist (mp barC T.cs)
  sr : (mp barR T'.rs).Sublist (mp barR T.rs)
theorem Less.refl {T : TD} (W : TW T) : Less T T fun _ _ => False := ⟨W, rfl, rfl, rfl, rfl, fun k r => ⟨fun h => ⟨h, id⟩, fun h => h.1⟩, List.Sublist.refl _, List.Sublist.refl _⟩
theorem Less.trans {T T' T'' : TD} {D D' : SK → BK → Prop} (a : Less T T' D) (b : Less T' T'' D') : Less T T'' fun k r => D k r ∨ D' k r :=
  ⟨b.w, b.p.trans a.p, b.cm.trans a.cm, b.rm.trans a.rm, b.came.trans a.came, fun k r => by rw [b.has, a.has, not_or, and_assoc], b.sc.trans a.sc, b.sr.trans a.sr⟩
theorem Less.iff {T T' : TD} {D D' : SK → BK → Prop} (a : Less T T' D) (h : ∀ k r, hasB T k r → (D k r ↔ D' k r)) : Less T T' D' :=
  ⟨a.w, a.p, a.cm, a.rm, a.came, fun k r => by rw [a.has]; exact ⟨fun ⟨x, y⟩ => ⟨x, fun z => y ((h k r x).2 z)⟩, fun ⟨x, y⟩ => ⟨x, fun z => y ((h k r x).1 z)⟩⟩, a.sc, a.sr⟩
theorem drop_less {T : TD} {k : SK} {r : BK} {x : CD} {y : RD} (W : TW T) (hx : lkG T.cs k = some x) (hb : lkG x.bys r = some ()) (hy : lkG T.rs r = some y) (hk : lkG y.ofs k = some ()) : Less T (dropT T k r) fun k' r' => k' = k ∧ r' = r := by
  have hC : ∀ k' r', hasB (dropT T k r) k' r' ↔ hasB T k' r' ∧ ¬ (k' = k ∧ r' = r) := fun k' r' => dropG_has (set := setC) W.ck hx (fun _ _ => rfl) (W.bn k x hx) k' r'
  have hR : ∀ k' r', hasR (dropT T k r) k' r' ↔ hasR T k' r' ∧ ¬ (r' = r ∧ k' = k) := fun k' r' => dropG_has (set := setR) W.rk hy (fun _ _ => rfl) (W.on r y hy) r' k'
  have s1 : (mp barC (dropT T k r).cs).Sublist (mp barC T.cs) := dropG_sub barC fun _ _ => rfl
  have s2 : (mp barR (dropT T k r).rs).Sublist (mp barR T.rs) := dropG_sub barR fun _ _ => rfl
  have c1 : ((mp CD.came (dropT T k r).cs).map fun p => p.2).Sublist ((mp CD.came T.cs).map fun p => p.2) := (dropG_sub (set := setC) CD.came fun _ _ => rfl).map _
  have c2 : ((mp RD.came (dropT T k r).rs).map fun p => p.2).Sublist ((mp RD.came T.rs).map fun p => p.2) := (dropG_sub (set := setR) RD.came fun _ _ => rfl).map _
  refine ⟨⟨dropG_nodup W.ck, dropG_nodup W.rk, ?_, ?_, fun k' r' => ?_, ?_, ?_, W.sc.sublist c1, fun z hz => W.tc z (c1.subset hz), W.sr.sublist c2, fun z hz => W.tr z (c2.subset hz), ?_⟩, rfl, rfl, rfl, rfl, hC, s1, s2⟩
  · exact dropG_all (set := setC) (fun x => (x.bys.map fun p => p.1).Nodup) W.ck hx W.bn fun _ => dlG_nodup (W.bn k x hx)
  · exact dropG_all (set := setR) (fun x => (x.ofs.map fun p => p.1).Nodup) W.rk hy W.on fun _ => dlG_nodup (W.on r y hy)
  · rw [hC, hR, W.bij]
    exact ⟨fun ⟨a, b⟩ => ⟨a, fun e => b ⟨e.2, e.1⟩⟩, fun ⟨a, b⟩ => ⟨a, fun e => b ⟨e.2, e.1⟩⟩⟩
  · exact dropG_all (set := setC) (fun x => x.bys.length ≠ 0) W.ck hx W.cne id
  · exact dropG_all (set := setR) (fun x => x.ofs.length ≠ 0) W.rk hy W.rne id
  · have := dropG_sum (set := setC) hx (fun _ _ => rfl) hb
    show T.n - 1 = sumG CD.bys (dropC T.cs k r)
    have h2 := W.sum
    have : sumG CD.bys (dropC T.cs k r) + 1 = sumG CD.bys T.cs := this
    omega
end Go.Proofs.Ytbamgdknkhhikaa
namespace Go.Proofs.Ytbamgdknkhhikaa
open Go.Ab
set_option linter.unusedSimpArgs false
set_option linter.unusedVariables false
theorem one_mem {κ : Type} [DecidableEq κ] {l : List (κ × Unit)} {k : κ} {v : AV} (hn : (l.map fun p => p.1).Nodup) (h : (k, v) ∈ one l) : lkG l k = some () := by
  obtain ⟨x, hx, e⟩ := List.mem_map.1 h
  simp only [Prod.mk.injEq] at e
  obtain ⟨rfl, _⟩ := e
  exact lkG_of_mem hn hx
section
variable {τ : Nat → Tag} {h : AHeap} {T : TD} {K : Kont} {n : Nat} {k : SK} {x : CD} {cls : Str} {vals : AV} {bad : Bool}
theorem l19 {it a3 : Nat} {r0 : AV} (O0 : TO τ h T) (W0 : TW T) (hx : lkG T.cs k = some x) (hn : T.n < 1000000)
    (hs : ∀ h1, h1.Ok → Fr (W8 τ) h h1 → ∀ K' : Kont, (∀ h2, Ext h1 h2 → h2.Ok → K' (sk k) h2 = true) → callN E (n + 1) (.func 38) [.agg [.str cls, vals]] h1 K' = true)
    (hit : h.sz ≤ it) (ha3 : h.sz ≤ a3)
    (k1 : ∀ h' T', TO τ h' T' → Fr (W8 τ) h h' → Less T T' (fun k' _ => k' = k) → T'.n + x.bys.length = T.n → K r0 h' = true) :
    ∀ m h1 l T1, l.length < m → TO τ h1 T1 → Fr (W8 τ) h h1 → Less T T1 (fun k' r' => k' = k ∧ lkG l r' = none) → (l ≠ [] → lkG T1.cs k = some (setC x l)) → (l.map fun p => p.1).Nodup → KIterD bk2 h1 it x.m (one l) → Var h1 a3 [.str cls, vals] →
      T1.n + x.bys.length = T.n + l.length → l.length ≤ x.bys.length → l19_18 (callN E (n + 1)) (n + 1) m (.ptr T.p 0 0 0) (.ptr a3 0 0 0) r0 (.itr it) h1 K = true := by
  intro m
  induction m with
  | zero => intro h1 l T1 hm; omega
  | succ m ih =>
    intro h1 l T1 hm O F L hl hnd IT V3 hsum hle
    have C0 := O0.c k x (lkG_mem hx)
    have xl := C0.map.lt O0.ok
    have tit := O0.hi it hit
    have ta3 := O0.hi a3 ha3
    unfold l19_18 b19_18
    refine IT.next bks O.ok (by omega) (fun e0 => ?_) (fun r v h2 hr b2 o2 z2 IC ent => ?_)
    · refine z_ext0 ?_; refine z_cF ?_
      have : l = [] := by simpa [one, mp] using e0
      subst this
      refine k1 h1 T1 O F (L.iff fun k' r' _ => ⟨fun e => e.1, fun e => ⟨e, rfl⟩⟩) (by simpa using hsum)
    · have hb := one_mem hnd hr
      have hne : l ≠ [] := fun e => by rw [e] at hb; cases hb
      have hx1 := hl hne
      have hlen := dlG_len hb
      refine z_ext0 ?_; refine z_cT ?_; refine z_of ent ?_; refine z_ext0 ?_
      have F2 := fr_acc O0.ok F (Fr.of_but (X := fun j => j = it) rfl b2) fun j e => .inr (by rw [e]; exact hit)
      have O2 := O.fr (Fr.of_but (X := fun j => j = it) rfl b2) o2 fun j e => by rw [e, tit]; exact id
      have V3 := b2.var V3 (fun e => by
        obtain ⟨es, c, s, _, _, q⟩ := IT
        have V3' : h1.row a3 = _ := V3
        rw [AHeap.row_some] at V3'
        rw [e] at V3'
        rw [q] at V3'; cases V3')
      obtain ⟨h3, c1, c2, e3, o3, z3⟩ := alloc_v (z := [AV.int .i64 0, .str []]) o2 (by decide) rfl
      refine z_p c1 ?_
      obtain ⟨h4, w1, w2, w3, o4, w5⟩ := c2.wrs o3 (n := 2) (v := bk2 r) rfl rfl rfl
      refine z_u w1 ?_
      have w2 : Var h4 h2.sz [.int .i64 r.1, .str r.2] := w2
      have it2 : it < h2.sz := by obtain ⟨es, c, s, _, _, q⟩ := IC; exact o2.lt q
      have x2 : x.m < h2.sz := IC.map.lt o2
      have a2 : a3 < h2.sz := V3.lt o2
      have F4 : Fr (fun j => j = h2.sz) h2 h4 := (Fr.of_ext e3).trans (Fr.of_but rfl w3)
      have O4 := O2.fr F4 o4 fun j e => by rw [e, O2.hi _ (Nat.le_refl _)]; exact id
      have IC := F4.kiterC IC (by omega) (by omega)
      have V3 := F4.var V3 (by omega)
      have F4 := fr_acc O0.ok F2 F4 fun j e => .inr (by rw [e]; exact F2.sz)
      have A3 : loadA h4 true 2 (.ptr a3 0 0 0) = some (.agg [.str cls, vals]) := V3.all rfl
      have A5 : ∀ {h'}, Ext h4 h' → loadA h' true 2 (.ptr h2.sz 0 0 0) = some (bk2 r) := fun e => (w2.ext e).all rfl
      refine z_of A3 ?_; refine z_of (A5 (Ext.refl _)) ?_
      refine hs h4 o4 F4 _ fun h5 e5 o5 => ?_
      refine z_same (A5 e5) (same_agg (sames_cons (same_int _ _) (sames_cons (same_str _) sames_nil))) ?_
      have O5 := O4.ext e5 o5
      have IC := (Fr.of_ext (X := fun _ => False) e5).kiterC IC id id
      have V3 := V3.ext e5
      have F5 := fr_ext F4 e5
      have hB : hasB T1 k r := ⟨_, hx1, hb⟩
      obtain ⟨y, hy, hk⟩ := (L.w.bij k r).1 hB
      have hn1 : 1 ≤ T1.n := by rw [L.w.sum]; have := lk_le_sum (get := CD.bys) hx1; have : l.length ≤ sumG CD.bys T1.cs := this; omega
      have hn2 : T1.n < 1000000 := by omega
      have hp := L.p
      rw [← hp]
      refine c48 O5 hx1 hb hy hk hn1 hn2 fun h6 O6 F6 D1 D2 => ?_
      have L6 := L.trans (drop_less L.w hx1 hb hy hk)
      have hit6 : h6.get it = h5.get it := by
        obtain ⟨es, c, s, _, _, q⟩ := IC
        rw [q]
        exact F6.keep it _ (by show ¬ (τ it).own; rw [tit]; exact id) q
      rw [hp]
      refine ih h6 (dlG l r) (dropT T1 k r) (by omega) O6 (fr_acc O0.ok F5 F6 fun j e => .inl e) (L6.iff fun k' r' hh => ?_) (fun e => ?_) (dlG_nodup hnd) ?_ (F6.var V3 (by show ¬ (τ a3).own; rw [ta3]; exact id)) (by show T1.n - 1 + _ = _; omega) (by omega)
      · rw [lkG_dl hnd]
        constructor
        · rintro (⟨e1, e2⟩ | ⟨e1, e2⟩)
          · exact ⟨e1, (by by_cases q : r' = r; (rw [if_pos q]); (rw [if_neg q]; exact e2))⟩
          · exact ⟨e1, by rw [if_pos e2]⟩
        · rintro ⟨e1, e2⟩
          by_cases e : r' = r
          · exact .inr ⟨e1, e⟩
          · rw [if_neg e] at e2; exact .inl ⟨e1, e2⟩
      · have := dropG_lk (get := CD.bys) (set := setC) L.w.ck hx1 (r := r) k
        rw [if_pos rfl, if_neg (by show ¬ (dlG l r).length = 0; exact fun q => e (List.length_eq_zero_iff.1 q))] at this
        exact this
      · have := IC.del bks D1 hit6
        rw [one, dlG_mp, ← dl_G]
        exact this
theorem c19 (O : TO τ h T) (W : TW T) (hn : T.n < 1000000) (hf : T.n < n) (hv : vals.leaf = true)
    (hs : ∀ h1, h1.Ok → Fr (W8 τ) h h1 → ∀ K' : Kont, (∀ h2, Ext h1 h2 → h2.Ok → K' (sk k) h2 = true) → callN E (n + 1) (.func 38) [.agg [.str cls, vals]] h1 K' = true)
    (hb : ∀ h1, h1.Ok → Ext h h1 → ∀ K' : Kont, (∀ h2, Ext h1 h2 → h2.Ok → K' (.bool bad) h2 = true) → callN E (n + 1) (.func 35) [vals] h1 K' = true)
    (k0 : ∀ h', Ext h h' → h'.Ok → lkG T.cs k = none ∨ bad = true → K (.int .i64 0) h' = true)
    (k1 : ∀ x h' T', lkG T.cs k = some x → bad = false → TO τ h' T' → Fr (W8 τ) h h' → Less T T' (fun k' _ => k' = k) → T'.n + x.bys.length = T.n → K (.int .i64 (x.bys.length : Int)) h' = true) :
    callN E (n + 2) (.func 19) [.ptr T.p 0 0 0, .agg [.str cls, vals]] h K = true := by
  apply d19
  unfold s19
  obtain ⟨h1, b1, V1, e1, o1, z1⟩ := box_v (n := 2) (v := .agg [.str cls, vals]) O.ok rfl (by decide) (by simp [AV.cells, allLeaf, hv]; rfl)
  have V1 : Var h1 h.sz [.str cls, vals] := V1
  refine z_p b1 ?_
  have O1 := O.ext e1 o1
  have A1 : loadA h1 true 2 (.ptr h.sz 0 0 0) = some (.agg [.str cls, vals]) := V1.all rfl
  refine z_nil ?_; refine z_fadr ?_; refine z_of O1.l0 ?_; refine z_of A1 ?_
  refine hs h1 o1 (Fr.of_ext e1) _ fun h2 e2 o2 => ?_
  have O2 := O1.ext e2 o2
  have V2 := V1.ext e2
  refine z_same O2.l0 (same_map _) ?_
  cases hx : lkG T.cs k with
  | none =>
    refine z_of (O2.lkc0 hx) ?_; refine z_eqn ?_; refine z_gtf ?_; refine z_gtf ?_; refine z_rtf ?_; refine z_kt ?_; refine z_cT ?_
    exact k0 h2 (ext_two e1 e2) o2 (.inl hx)
  | some x =>
    have V21 : loadA h2 false 1 (.ptr h.sz 0 0 1) = some vals := V2.get rfl
    refine z_of (O2.lkc hx) ?_; refine z_eqp ?_; refine z_gff ?_; refine z_fadr ?_; refine z_gff ?_; refine z_of V21 ?_; refine z_rff ?_
    refine hb h2 o2 (ext_two e1 e2) _ fun h3 e3 o3 => ?_
    have O3 := O2.ext e3 o3
    have E3 := ext_two (ext_two e1 e2) e3
    cases bad with
    | true =>
      refine z_kf ?_; refine z_cT ?_
      exact k0 h3 E3 o3 (.inr rfl)
    | false =>
      refine z_kf ?_; refine z_cF ?_; refine z_some ?_; refine z_fadr ?_
      have C := O3.c k x (lkG_mem hx)
      refine z_of C.l3 ?_; refine z_of C.map.len ?_; refine z_nil ?_; refine z_fadr ?_; refine z_of C.l3 ?_
      obtain ⟨h4, r1, e4, o4, z4, IT⟩ := C.map.rangeD o3
      refine z_p r1 ?_
      rw [one_len]
      have hxs := lk_le_sum (get := CD.bys) hx
      have hw := W.sum
      exact l19 O W hx hn hs (Nat.le_trans e1.1 (Nat.le_trans e2.1 e3.1)) (Nat.le_refl _) (fun h' T' a b c d => k1 x h' T' hx rfl a b c d) (n + 1) h4 x.bys T (by omega) (O3.ext e4 o4) (Fr.of_ext (ext_two E3 e4))
        ((Less.refl W).iff fun k' r' hh => ⟨fun e => e.elim, fun ⟨e1, e2⟩ => by
          obtain ⟨x', q1, q2⟩ := hh
          rw [e1, hx] at q1; cases q1
          rw [e2] at q2; cases q2⟩) (fun _ => hx) (W.bn k x hx) IT ((V2.ext e3).ext e4) rfl (Nat.le_refl _)
end
end Go.Proofs.Ytbamgdknkhhikaa
namespace Go.Proofs.Ytbamgdknkhhikaa
open Go.Ab
set_option linter.unusedSimpArgs false
set_option linter.unusedVariables false
theorem build2 {z1 z2 a b : AV} (h1 : a.leaf = true) (h2 : b.leaf = true) : buildV [z1, z2] [(0, 1, a), (1, 1, b)] = some (.agg [a, b]) := by
  have c1 := cells_leaf h1
  have c2 := cells_leaf h2
  simp only [buildV, fillV, c1, c2, List.length_cons, List.length_nil, allLeaf, h1, h2, lay]
  rfl
theorem c52 {n a b : Nat} {h : AHeap} {x y : Int} {K : Kont} (e1 : loadA h false 1 (.ptr a 0 0 2) = some (.int .i64 x)) (e2 : loadA h false 1 (.ptr b 0 0 2) = some (.int .i64 y)) (hx : 0 ≤ x ∧ x < 1000000) (hy : 0 ≤ y ∧ y < 1000000) (k : K (.int .i64 (x - y)) h = true) :
    callN E (n + 1) (.func 52) [.ptr a 0 0 0, .ptr b 0 0 0] h K = true := by
  apply d52
  unfold s52
  refine z_nil ?_; refine z_fadr ?_; refine z_of e1 ?_; refine z_nil ?_; refine z_fadr ?_; refine z_of e2 ?_; refine z_of (sub64 (a := x) (b := y) (by omega) (by omega)) ?_
  exact k
theorem nodup_len {α : Type} [DecidableEq α] : ∀ {a b : List α}, a.Nodup → (∀ x ∈ a, x ∈ b) → a.length ≤ b.length
  | [], _, _, _ => Nat.zero_le _
  | x :: t, b, hn, hs => by
    rw [List.nodup_cons] at hn
    have hx := hs x List.mem_cons_self
    have h1 := nodup_len (b := b.erase x) hn.2 fun y hy => (List.mem_erase_of_ne (fun e => hn.1 (by rw [← e]; exact hy))).2 (hs y (List.mem_cons_of_mem _ hy))
    have h2 := List.length_erase_of_mem hx
    have h3 : 0 < b.length := List.length_pos_of_mem hx
    simp only [List.length_cons]; omega
theorem kiter_nodup {κ : Type} [DecidableEq κ] {kk : KK} {ek : κ → AV} {h : AHeap} {it id : Nat} {l done : List (κ × AV)} (K : Keys kk ek) (IT : KIter ek h it id l done) : (done.map fun p => p.1).Nodup := by
  obtain ⟨es, c, de, m1, q1, q2, q3, q4⟩ := IT
  rw [List.nodup_iff_pairwise_ne, List.pairwise_map]
  have : ∀ {de : List (AV × AV × Nat)} {dn : List (κ × AV)}, Ents ek de dn → (∀ e ∈ de, e ∈ es) → (de.map fun e => e.2.2).Nodup → dn.Pairwise fun a b => a.1 ≠ b.1 := by
    intro de dn E
    induction E with
    | nil => intro _ _; exact .nil
    | cons t ih =>
      rename_i k v b es' l'
      intro hsub hnd
      simp only [List.map_cons, List.nodup_cons] at hnd
      refine .cons (fun p hp q => ?_) (ih (fun e he => hsub e (List.mem_cons_of_mem _ he)) hnd.2)
      obtain ⟨b', hb'⟩ := t.mem' hp
      have := m1.ents.uniq K m1.keys (hsub _ List.mem_cons_self) (hsub _ (List.mem_cons_of_mem _ hb')) (by show ek k = ek p.1; rw [show k = p.1 from q])
      exact hnd.1 (List.mem_map.2 ⟨_, hb', by rw [← this]⟩)
  exact this q1 q2 q3
def cmv (h : AHeap) (v : AV) : Int :=
  match v with
  | .ptr id _ _ _ => match loadA h false 1 (.ptr id 0 0 2) with
    | some (.int _ x) => x
    | _ => 0
  | _ => 0
def pt (x : SK × CD) : AV := .ptr x.2.id 0 0 0
theorem flat_pt (l : List (SK × CD)) : (l.map fun x => [pt x]) = (l.map pt).map fun v => [v] := by simp [List.map_map, Function.comp_def]
theorem c51 {n b : Nat} {h : AHeap} {v : AV} {ps qs : List (SK × CD)} {K : Kont} (o : h.Ok) (O : Own b h 1 v (ps.map fun x => [pt x])) (hp : ps.Perm qs)
    (hr : ∀ x ∈ qs, Var h x.2.id [.str x.2.cls, x.2.vals, .int .i64 (x.2.came : Int), .map x.2.m] ∧ x.2.id < b ∧ x.2.came < 1000000)
    (hs : (qs.map fun x => x.2.came).Pairwise fun a b => a < b) (hl : ps.length < 1000000)
    (k : ∀ h', Fr (inRow v) h h' → h'.Ok → Own b h' 1 v (qs.map fun x => [pt x]) → K (.tup []) h' = true) :
    callN E (n + 2) (.func 51) [v, .fn (.func 52) [] []] h K = true := by
  show sortP [52] (callN E (n + 1)) (n + 1) [v, .fn (.func 52) [] []] h K = true
  have l2 : ∀ x ∈ qs, loadA h false 1 (.ptr x.2.id 0 0 2) = some (.int .i64 (x.2.came : Int)) := fun x hx => (hr x hx).1.get rfl
  have cv : ∀ x ∈ qs, cmv h (pt x) = (x.2.came : Int) := fun x hx => by simp only [cmv, pt, l2 x hx]
  rcases O with ⟨rfl, he⟩ | ⟨id, r, w1, rfl, w3, w4, w5, w6, w7⟩
  · have hks : ps = [] := by simpa using he
    subst hks
    have : qs = [] := hp.symm.eq_nil
    subst this
    exact k h (Fr.refl _ _) o (.inl ⟨rfl, rfl⟩)
  · rw [List.length_map] at *
    have hne : ∀ x ∈ qs, x.2.id ≠ id := fun x hx => by have := (hr x hx).2.1; omega
    show (bif Nat.beq ps.length 0 then K (.tup []) h else cdec _) = true
    cases hz : Nat.beq ps.length 0 with
    | true =>
      have h0 := nbeq_true.1 hz
      have hks : ps = [] := List.length_eq_zero_iff.1 h0
      subst hks
      have : qs = [] := hp.symm.eq_nil
      subst this
      exact k h (Fr.refl _ _) o (.inr ⟨id, r, w1, rfl, w3, w4, w5, w6, w7⟩)
    | false =>
      rw [cond_false]
      refine cdec_true.2 ⟨List.mem_singleton.2 rfl, r, ps.map pt, fun x y => cmv h x - cmv h y, rfl, List.length_map _, ?_⟩
      have lay_us : ∀ us : List AV, us.length = ps.length → lay r.es 0 (us.map fun v => [v]) = us.map fun v => [v] := fun us hu => by
        have : r.es.length = us.length := by rw [w7, List.length_map, hu]
        simp only [lay, List.take_zero, List.nil_append, List.length_map, Nat.zero_add]
        rw [List.drop_of_length_le (by omega), List.append_nil]
      have pts : ∀ x ∈ ps.map pt, ∃ s ∈ qs, x = pt s := fun x hx => by
        obtain ⟨s, hs, rfl⟩ := List.mem_map.1 hx; exact ⟨s, hp.mem_iff.1 hs, rfl⟩
      refine ⟨AHeap.row_some.1 w3, w4, w6, ?_, by rw [List.length_map]; omega, fun x _ => by omega, fun x _ y _ z _ => by omega, fun x _ y _ z _ => by omega, ?_, ?_⟩
      · rw [w7, List.drop_zero, List.length_map, List.take_of_length_le (by rw [List.length_map]; exact Nat.le_refl _)]; exact flat_pt ps
      · intro us hu _ x hx y hy
        obtain ⟨a, ha, rfl⟩ := pts x hx
        obtain ⟨b, hb, rfl⟩ := pts y hy
        have f : Fr (fun j => j = id) h (putSeg h id r 0 us) := Fr.put (X := fun j => j = id) rfl h _
        have Va := f.var (hr a ha).1 (hne a ha)
        have Vb := f.var (hr b hb).1 (hne b hb)
        refine c52 (x := (a.2.came : Int)) (y := (b.2.came : Int)) (by rw [load_frz Va]; rfl) (by rw [load_frz Vb]; rfl) ⟨by omega, by have := (hr a ha).2.2; omega⟩ ⟨by omega, by have := (hr b hb).2.2; omega⟩ ?_
        rw [cv a ha, cv b hb]
        show ieqb _ _ = true
        rw [ieqb_dec]; exact decide_eq_true rfl
      · intro us hp1 hp2
        have inj : ∀ a ∈ qs, ∀ b ∈ qs, a.2.came = b.2.came → a = b := fun a ha b hb hab => by
          rw [List.pairwise_map] at hs
          rcases List.mem_iff_getElem.1 ha with ⟨i1, h1, rfl⟩
          rcases List.mem_iff_getElem.1 hb with ⟨i2, h2, rfl⟩
          rcases Nat.lt_trichotomy i1 i2 with q | q | q
          · have := List.pairwise_iff_getElem.1 hs i1 i2 h1 h2 q; omega
          · subst q; rfl
          · have := List.pairwise_iff_getElem.1 hs i2 i1 h2 h1 q; omega
        have heq : us = qs.map pt := by
          refine List.Perm.eq_of_pairwise (le := fun a b => ¬ cmv h b - cmv h a < 0) (fun a b ha hb h1 h2 => ?_) hp2 ?_ (hp1.trans (hp.map pt))
          · obtain ⟨s, hs1, rfl⟩ := pts a (hp1.mem_iff.1 ha)
            obtain ⟨t, ht, rfl⟩ := List.mem_map.1 hb
            rw [cv s hs1, cv t ht] at h1 h2
            rw [inj s hs1 t ht (by omega)]
          · rw [List.pairwise_map] at hs ⊢
            refine hs.imp_of_mem fun {a b} ha hb e => ?_
            rw [cv a ha, cv b hb]; omega
        subst heq
        have hlen : qs.length = ps.length := hp.length_eq.symm
        refine k _ ((Fr.put (X := fun j => j = id) rfl h _).mono fun j e => by rw [e]; exact ⟨_, _, _, _, _, rfl⟩) (o.put (o.lt (AHeap.row_some.1 w3)) _) ?_
        refine .inr ⟨id, { r with es := lay r.es 0 ((qs.map pt).map fun v => [v]), m := r.g }, w1, by rw [List.length_map, hlen], AHeap.row_some.2 (get_put_same _ _ _), w4, Nat.le_refl _, w6, ?_⟩
        show lay r.es 0 _ = _
        rw [lay_us _ (by rw [List.length_map, hlen]), flat_pt]
def outE (cs : List (SK × CD)) (vs : List (AV × Nat × Nat)) : List (List AV) := List.zipWith (fun p u => [.str p.2.cls, u.1]) cs vs
structure Outs (G : AHeap → Nat → Nat → SK × CD → AV → Prop) (b : Nat) (h : AHeap) (out : AV) (cs : List (SK × CD)) (vs : List (AV × Nat × Nat)) : Prop where
  own : Own b h 2 out (outE cs vs)
  len : vs.length = cs.length
  g : ∀ (i : Nat) (p : SK × CD) (u : AV × Nat × Nat), cs[i]? = some p → vs[i]? = some u → G h u.2.1 u.2.2 p u.1 ∧ b ≤ u.2.1 ∧ u.2.2 ≤ h.sz ∧ ∀ j, inRow out j → ¬ (u.2.1 ≤ j ∧ j < u.2.2)
  pw : vs.Pairwise fun u w => u.2.2 ≤ w.2.1
theorem outE_len {cs : List (SK × CD)} {vs : List (AV × Nat × Nat)} (e : vs.length = cs.length) : (outE cs vs).length = cs.length := by simp [outE, e]
section
variable {τ : Nat → Tag} {h : AHeap} {T : TD} {K : Kont} {n : Nat} {G : AHeap → Nat → Nat → SK × CD → AV → Prop}
theorem l21 {hs : AHeap} {lv : AV} (O : TO τ h T) (hl : T.cs.length < 1000000) (os : hs.Ok) (es : Ext h hs) (VL : View hs 1 lv (T.cs.map fun x => [pt x]))
    (hg : ∀ k x, (k, x) ∈ T.cs → ∀ h1, h1.Ok → Ext h h1 → ∀ K' : Kont, (∀ h2 v, Ext h1 h2 → h2.Ok → v.leaf = true → G h2 h1.sz h2.sz (k, x) v → K' v h2 = true) → callN E (n + 1) (.func 40) [x.vals] h1 K' = true)
    (gfr : ∀ h1 h2 lo hi a v, G h1 lo hi a v → (∀ j o, lo ≤ j → j < hi → h1.get j = some o → h2.get j = some o) → G h2 lo hi a v)
    (kk : ∀ h' out vs, Ext hs h' → h'.Ok → Outs G hs.sz h' out T.cs vs → K out h' = true) :
    ∀ m i h1 out vs, T.cs.length - i < m → i ≤ T.cs.length → Ext hs h1 → h1.Ok → Outs G hs.sz h1 out (T.cs.take i) vs → l21_27 (callN E (n + 1)) (n + 1) m out lv (.int .i64 (T.cs.length : Int)) (.int .i64 (i : Int)) h1 K = true := by
  have hlim : lim = 4611686018427387904 := rfl
  have hmo : most = 1099511627776 := rfl
  intro m
  induction m with
  | zero => intro i h1 out vs hm; omega
  | succ m ih =>
    intro i h1 out vs hm hi e1 o1 U
    unfold l21_27 b21_27
    refine z_lss ?_
    by_cases hlt : i < T.cs.length
    · refine z_ct (decide_eq_true (by omega)) ?_
      have hp := List.getElem?_eq_getElem hlt
      generalize hpp : T.cs[i] = p at hp
      obtain ⟨k, x⟩ := p
      have hmem : (k, x) ∈ T.cs := List.mem_of_getElem? hp
      obtain ⟨id, g, j, q1, q2⟩ := (VL.ext e1).at1 (i := i) (e := [pt (k, x)]) (by rw [List.getElem?_map, hp]; rfl)
      have C := (O.ext (ext_two es e1) o1).c k x hmem
      have q3 : loadA h1 false 1 (.ptr id g j 0) = some (.ptr x.id 0 0 0) := q2 _ _ _
      refine z_of (q1 _) ?_; refine z_of q3 ?_; refine z_nil ?_; refine z_fadr ?_; refine z_fadr ?_; refine z_of C.l0 ?_; refine z_nil ?_; refine z_fadr ?_; refine z_fadr ?_; refine z_of C.l1 ?_
      refine hg k x hmem h1 o1 (ext_two es e1) _ fun h2 v e2 o2 hv hG => ?_
      have C2 := (O.ext (ext_two (ext_two es e1) e2) o2).c k x hmem
      refine z_same C2.l0 (same_str _) ?_
      refine z_of (build2 rfl hv) ?_
      obtain ⟨w, h3, b1, b2, e3, o3, z3, _⟩ := bslice1_v (sz := 2) (z := [AV.str [], .nilSlc]) (v := .agg [.str x.cls, v]) o2 rfl (by decide) (by decide) rfl rfl (by simp [AV.cells, allLeaf, hv]; rfl)
      refine z_p b1 ?_
      have hUl : (T.cs.take i).length = i := by rw [List.length_take]; omega
      have OW := (U.own.ext e2).ext e3
      have hEl := outE_len U.len
      rw [hUl] at hEl
      have e03 := ext_two (ext_two e1 e2) e3
      obtain ⟨out', h4, a1, a2, a3, a4, a5, a6, a7⟩ := OW.app (bytes := 40) (by decide) e03.1 o3 os e03 (Nat.le_refl _) b2.src (by rw [hEl]; simp; omega) (by rw [hEl]; simp; omega)
      refine z_p a1 ?_
      refine z_of (inc64 (show i < lim by omega)) ?_
      have hvl : vs.length = i := by rw [U.len, hUl]
      refine ih (i + 1) h4 out' (vs ++ [(v, h1.sz, h2.sz)]) (by omega) (by omega) a4 a3 ⟨?_, ?_, ?_, ?_⟩
      · have : outE (T.cs.take (i + 1)) (vs ++ [(v, h1.sz, h2.sz)]) = outE (T.cs.take i) vs ++ [AV.cells (.agg [.str x.cls, v])] := by
          unfold outE
          rw [List.take_succ_eq_append_getElem hlt, List.zipWith_append (by rw [hUl, hvl]), hpp]
          rfl
        rw [this]; exact a2
      · rw [List.length_append, hvl, List.length_take]; simp; omega
      · intro i' p u hp' hu'
        have keep3 : ∀ {lo hi : Nat}, (∀ j, inRow out j → ¬ (lo ≤ j ∧ j < hi)) → hi ≤ h3.sz → (∀ j o, lo ≤ j → j < hi → h3.get j = some o → h4.get j = some o) ∧ ∀ j, inRow out' j → ¬ (lo ≤ j ∧ j < hi) := by
          intro lo hi hd hh
          refine ⟨fun j o h1 h2 h3 => a6 j o h3 fun id g s l c ex e q => hd j ⟨g, s, l, c, ex, by rw [e, q]⟩ ⟨h1, h2⟩, fun j hj hc => ?_⟩
          rcases app_row a1 hj with e | e
          · exact hd j e hc
          · omega
        have z1 : h1.sz ≤ h2.sz := e2.1
        by_cases hlt' : i' < i
        · rw [List.getElem?_append_left (by omega)] at hu'
          rw [List.getElem?_take_of_lt (by omega)] at hp'
          obtain ⟨g1, g2, g3, g4⟩ := U.g i' p u (by rw [List.getElem?_take_of_lt hlt']; exact hp') hu'
          obtain ⟨k1, k2⟩ := keep3 g4 (by omega)
          refine ⟨gfr h1 h4 _ _ _ _ g1 fun j o c1 c2 c3 => k1 j o c1 c2 (e3.2 _ _ (e2.2 _ _ c3)), g2, by omega, k2⟩
        · have : i' = i := by
            have := (List.getElem?_eq_some_iff.1 hu').1
            rw [List.length_append, hvl] at this
            simp at this; omega
          subst this
          rw [List.getElem?_append_right (by omega), hvl, Nat.sub_self] at hu'
          simp at hu'
          subst hu'
          rw [List.getElem?_take_of_lt (by omega), hp] at hp'
          cases hp'
          obtain ⟨k1, k2⟩ := keep3 (lo := h1.sz) (hi := h2.sz) (fun j hj hc => by have := own_lt (own_low U.own) o1 hj; omega) (by omega)
          exact ⟨gfr h2 h4 _ _ _ _ hG fun j o c1 c2 c3 => k1 j o c1 c2 (e3.2 _ _ c3), e1.1, by show h2.sz ≤ h4.sz; omega, k2⟩
      · rw [List.pairwise_append]
        refine ⟨U.pw, by simp, fun u hu w hw => ?_⟩
        simp at hw; subst hw
        obtain ⟨i', hi', rfl⟩ := List.mem_iff_getElem.1 hu
        have := U.g i' T.cs[i'] vs[i'] (by rw [List.getElem?_take_of_lt (by omega)]; exact List.getElem?_eq_getElem _) (List.getElem?_eq_getElem _)
        exact this.2.2.1
    · refine z_cf (decide_eq_false (by omega)) ?_
      rw [List.take_of_length_le (by omega)] at U
      exact kk h1 out vs e1 o1 U
theorem c21 (O : TO τ h T) (W : TW T) (hc : T.came < 1000000) (hl : T.cs.length < 1000000) (hf : T.cs.length < n)
    (hg : ∀ k x, (k, x) ∈ T.cs → ∀ h1, h1.Ok → Ext h h1 → ∀ K' : Kont, (∀ h2 v, Ext h1 h2 → h2.Ok → v.leaf = true → G h2 h1.sz h2.sz (k, x) v → K' v h2 = true) → callN E (n + 2) (.func 40) [x.vals] h1 K' = true)
    (gfr : ∀ h1 h2 lo hi a v, G h1 lo hi a v → (∀ j o, lo ≤ j → j < hi → h1.get j = some o → h2.get j = some o) → G h2 lo hi a v)
    (kk : ∀ h' out vs b, h.sz ≤ b → Ext h h' → h'.Ok → Outs G b h' out T.cs vs → K out h' = true) :
    callN E (n + 3) (.func 21) [.ptr T.p 0 0 0] h K = true := by
  have hmo : most = 1099511627776 := rfl
  apply d21
  unfold s21
  refine z_nil ?_; refine z_fadr ?_; refine z_of O.l0 ?_
  obtain ⟨h1, r1, e1, o1, z1, IT⟩ := O.cs.range' O.ok
  refine z_p r1 ?_
  suffices H : ∀ m h2 lv (done : List (SK × CD)), T.cs.length - done.length < m → done.length ≤ T.cs.length → Ext h h2 → h2.Ok → h.sz < h2.sz → KIter sk h2 h.sz T.cm (mp (fun x => .ptr x.id 0 0 0) T.cs) (mp (fun x => .ptr x.id 0 0 0) done) → (∀ x ∈ done, x ∈ T.cs) → Own (h.sz + 1) h2 1 lv (done.map fun x => [pt x]) →
      l21_8 (callN E (n + 2)) (n + 2) m lv (.itr h.sz) h2 K = true from H (n + 2) h1 .nilSlc [] (by simp; omega) (Nat.zero_le _) e1 o1 (by omega) IT (by simp) (Own.nil _ _ _)
  intro m
  induction m with
  | zero => intro h2 lv done hm; omega
  | succ m ih =>
    intro h2 lv done hm hd e2 o2 z2 IT hin OL
    unfold l21_8 b21_8
    have cml := O.cs.lt O.ok
    refine IT.next sks o2 (by omega) (fun hP => ?_) (fun k v h3 hv hnd b3 o3 z3 IT3 ent => ?_)
    · refine z_ext0 ?_; refine z_cF ?_
      have hinj : ∀ {a b : SK × CD}, a ∈ T.cs → b ∈ T.cs → a.1 = b.1 → a = b := fun {a b} ha hb e => by
        have h1 := lkG_of_mem (k := a.1) (u := a.2) W.ck ha
        have h2 := lkG_of_mem (k := b.1) (u := b.2) W.ck hb
        rw [e, h2] at h1
        injection h1 with h1
        exact Prod.ext e h1.symm
      have hPk : (done.map fun x => x.1).Perm (T.cs.map fun x => x.1) := by
        have := hP.map fun p => p.1
        rwa [mp_keys, mp_keys] at this
      have hP : done.Perm T.cs := by
        have nd1 : done.Nodup := by
          have := hPk.nodup_iff.2 W.ck
          rw [List.nodup_iff_pairwise_ne, List.pairwise_map] at this
          rw [List.nodup_iff_pairwise_ne]
          exact this.imp fun q e => q (by rw [e])
        have nd2 : T.cs.Nodup := by
          have := W.ck
          rw [List.nodup_iff_pairwise_ne, List.pairwise_map] at this
          rw [List.nodup_iff_pairwise_ne]
          exact this.imp fun q e => q (by rw [e])
        refine (List.perm_ext_iff_of_nodup nd1 nd2).2 fun p => ⟨hin p, fun hp => ?_⟩
        have : p.1 ∈ done.map fun x => x.1 := hPk.mem_iff.2 (List.mem_map.2 ⟨p, hp, rfl⟩)
        obtain ⟨q, hq, e⟩ := List.mem_map.1 this
        rw [← hinj (hin q hq) hp e]; exact hq
      unfold p21_19
      have O2 := O.ext e2 o2
      refine c51 o2 OL hP (fun x hx => ⟨(O2.c x.1 x.2 hx).row, by have := ((O.c x.1 x.2 hx).row.lt O.ok); omega, by
        have := W.tc x.2.came (by simp only [mp, List.map_map, List.mem_map]; exact ⟨x, hx, rfl⟩)
        omega⟩) (by have := W.sc; simpa [mp, List.map_map, Function.comp_def] using this) (by omega) fun h3 f3 o3 OL3 => ?_
      have e3 : Ext h h3 := f3.ext e2 O.ok fun j hj => by have := own_row OL hj; omega
      have VL := OL3.view
      have hlen : lenA h3 1 lv = some (.int .i64 (T.cs.length : Int)) := by have := VL.len; rwa [List.length_map] at this
      refine z_of hlen ?_
      refine l21 (n := n + 1) O hl o3 e3 VL hg gfr (fun h' out vs q1 q2 q3 => kk h' out vs h3.sz e3.1 (ext_two e3 q1) q2 q3) (n + 2) 0 h3 .nilSlc [] (by omega) (Nat.zero_le _) (Ext.refl _) o3 ⟨Own.nil _ _ _, rfl, by simp, by simp⟩
    · obtain ⟨y, hy, hye⟩ := List.mem_map.1 hv
      obtain ⟨k', x⟩ := y
      simp only [Prod.mk.injEq] at hye
      obtain ⟨rfl, rfl⟩ := hye
      refine z_ext0 ?_; refine z_cT ?_; refine z_of ent ?_; refine z_ext1 ?_
      have e3 : Ext h h3 := b3.ext e2 O.ok (Nat.le_refl _)
      obtain ⟨w, h4, c1, c2, e4, o4, z4, _⟩ := bslice1_v (sz := 1) (z := [AV.nilPtr]) (v := .ptr x.id 0 0 0) o3 rfl (by decide) (by decide) rfl rfl rfl
      refine z_p c1 ?_
      have OL3 : Own (h.sz + 1) h3 1 lv (done.map fun x => [pt x]) := by
        have := own_fr (own_low OL) (Fr.of_but (X := fun j => j = h.sz) rfl b3) (fun j hj e => by have := own_row OL hj; omega)
        rcases this with q | ⟨id, r, w1, w2, w3⟩
        · exact .inl q
        · exact .inr ⟨id, r, own_row OL (by rw [w2]; exact ⟨_, _, _, _, _, rfl⟩), w2, w3⟩
      obtain ⟨lv', h5, a1, a2, a3, a4, a5, a6, a7⟩ := (OL3.ext e4).app (bytes := 8) (h0 := h) (by decide) (by omega) o4 O.ok (ext_two e3 e4) (by omega) c2.src (by rw [List.length_map]; simp; omega) (by rw [List.length_map]; simp; omega)
      refine z_p a1 ?_
      have nin : (k', x) ∉ done := fun q => hnd (List.mem_map.2 ⟨_, q, rfl⟩)
      have hdl : done.length < T.cs.length := by
        have : ((mp (fun x : CD => AV.ptr x.id 0 0 0) (done ++ [(k', x)])).map fun p => p.1).Nodup := by
          have e : mp (fun x : CD => AV.ptr x.id 0 0 0) (done ++ [(k', x)]) = mp (fun x : CD => AV.ptr x.id 0 0 0) done ++ [(k', .ptr x.id 0 0 0)] := by simp [mp]
          rw [e]; exact kiter_nodup sks IT3
        rw [mp_keys] at this
        have := nodup_len this (b := T.cs.map fun p => p.1) fun a ha => by
          obtain ⟨q, hq, rfl⟩ := List.mem_map.1 ha
          refine List.mem_map.2 ⟨q, ?_, rfl⟩
          rcases List.mem_append.1 hq with hq | hq
          · exact hin q hq
          · simp at hq; subst hq; exact hy
        rw [List.length_map, List.length_map, List.length_append] at this
        simp at this; omega
      have g5 : ∀ j o, h3.get j = some o → ¬ inRow lv j → h5.get j = some o := fun j o q nq => a6 j o (e4.2 _ _ q) fun id g s l c ex e q => nq ⟨g, s, l, c, ex, by rw [e, q]⟩
      have f35 : Fr (inRow lv) h3 h5 := ⟨by omega, fun j o nq q => g5 j o q nq⟩
      refine ih h5 lv' (done ++ [(k', x)]) (by rw [List.length_append]; simp; omega) (by rw [List.length_append]; simp; omega) a4 a3 (by omega) ?_ ?_ ?_
      · have : mp (fun x : CD => AV.ptr x.id 0 0 0) (done ++ [(k', x)]) = mp (fun x : CD => AV.ptr x.id 0 0 0) done ++ [(k', .ptr x.id 0 0 0)] := by simp [mp]
        rw [this]
        exact f35.kiter IT3 (fun q => by have := own_row OL q; omega) (fun q => by have := own_row OL q; omega)
      · intro a ha
        rcases List.mem_append.1 ha with ha | ha
        · exact hin a ha
        · simp at ha; subst ha; exact hy
      · rw [List.map_append]; exact a2
theorem c8 {h : AHeap} (o : h.Ok) (kk : ∀ h' T τ, TO τ h' T → TW T → Ext h h' → T.cs = [] → T.rs = [] → T.came = 0 → T.n = 0 → (∀ j, j < h.sz → τ j = .out) → h.sz ≤ T.p → K (.ptr T.p 0 0 0) h' = true) : callN E (n + 1) (.func 8) [] h K = true := by
  apply d8
  unfold s8
  obtain ⟨h1, a1, M1, e1, o1, z1⟩ := mkmap_v sk o
  refine z_p a1 ?_
  obtain ⟨h2, a2, M2, e2, o2, z2⟩ := mkmap_v bk2 o1
  refine z_p a2 ?_
  refine z_of (v := .agg [.map h.sz, .map h1.sz, .int .i64 0, .int .i64 0]) rfl ?_
  obtain ⟨h3, a3, V3, e3, o3, z3⟩ := box_v (n := 4) (v := .agg [.map h.sz, .map h1.sz, .int .i64 0, .int .i64 0]) o2 rfl (by decide) rfl
  refine z_p a3 ?_
  have V3 : Var h3 h2.sz [.map h.sz, .map h1.sz, .int .i64 0, .int .i64 0] := V3
  refine kk h3 ⟨h2.sz, h.sz, h1.sz, [], [], 0, 0⟩ (fun j => if j = h2.sz then .p else if j = h.sz then .cm else if j = h1.sz then .rm else .out) ⟨o3, fun j hj => ?_, by simp, ?_, ?_, V3, ?_, ?_, by simp, by simp⟩ ?_ (ext_two (ext_two e1 e2) e3) rfl rfl rfl rfl (fun j hj => ?_) (by show h.sz ≤ h2.sz; omega)
  · rw [if_neg (by omega), if_neg (by omega), if_neg (by omega)]
  · have n1 : ¬ h.sz = h2.sz := by omega
    simp only [n1, if_false, if_true]
  · have n1 : ¬ h1.sz = h2.sz := by omega
    have n2 : ¬ h1.sz = h.sz := by omega
    simp only [n1, n2, if_false, if_true]
  · exact (Fr.of_ext (X := fun _ => False) (ext_two e2 e3)).kmap M1 id
  · exact (Fr.of_ext (X := fun _ => False) e3).kmap M2 id
  · exact ⟨by simp, by simp, fun _ _ h => (by cases h), fun _ _ h => (by cases h), fun _ _ => ⟨fun ⟨_, h, _⟩ => (by cases h), fun ⟨_, h, _⟩ => (by cases h)⟩, fun _ _ h => (by cases h), fun _ _ h => (by cases h), by simp [mp], by simp [mp], by simp [mp], by simp [mp], rfl⟩
  · rw [if_neg (by omega), if_neg (by omega), if_neg (by omega)]
end
end Go.Proofs.Ytbamgdknkhhikaa
namespace Go.Proofs.Ytbamgdknkhhikaa
open Go.Ab
set_option linter.unusedSimpArgs false
set_option linter.unusedVariables false
section
variable {κ β γ δ : Type} [DecidableEq κ] [DecidableEq γ] {get : β → List (γ × Unit)} {set : β → List (γ × Unit) → β} {l : List (κ × β)} {k : κ} {r : γ} {x new : β}
def putG (get : β → List (γ × Unit)) (set : β → List (γ × Unit) → β) (l : List (κ × β)) (k : κ) (r : γ) (new : β) : List (κ × β) :=
  upG l k (set ((lkG l k).getD new) (upG (get ((lkG l k).getD new)) r ()))
theorem upG_len (l : List (γ × Unit)) (r : γ) : (upG l r ()).length = l.length + (if lkG l r = none then 1 else 0) := by
  cases h : lkG l r with
  | none => rw [upG_none h, if_pos rfl]; simp
  | some u => rw [upG_length h, if_neg (by simp)]; rfl
theorem putG_lk (j : κ) : lkG (putG get set l k r new) j = if j = k then some (set ((lkG l k).getD new) (upG (get ((lkG l k).getD new)) r ())) else lkG l j := lkG_up
theorem putG_nodup (hn : (l.map fun p => p.1).Nodup) : ((putG get set l k r new).map fun p => p.1).Nodup := upG_nodup hn
theorem hasG_some (hx : lkG l k = some x) : hasG get l k r ↔ lkG (get x) r = some () := ⟨fun ⟨y, h1, h2⟩ => by rw [hx] at h1; cases h1; exact h2, fun h => ⟨x, hx, h⟩⟩
theorem hasG_none (hx : lkG l k = none) : ¬ hasG get l k r := fun ⟨y, h1, _⟩ => by rw [hx] at h1; cases h1
theorem putG_has (hs : ∀ x d, get (set x d) = d) (h0 : get new = []) (j : κ) (s : γ) : hasG get (putG get set l k r new) j s ↔ hasG get l j s ∨ (j = k ∧ s = r) := by
  by_cases e : j = k
  · subst e
    have h1 : lkG (putG get set l j r new) j = some _ := (putG_lk j).trans (if_pos rfl)
    rw [hasG_some h1, hs, lkG_up]
    by_cases e2 : s = r
    · rw [if_pos e2]; exact ⟨fun _ => .inr ⟨rfl, e2⟩, fun _ => rfl⟩
    · rw [if_neg e2]
      cases hx : lkG l j with
      | none =>
        simp only [Option.getD, h0]
        exact ⟨fun h => (by cases h), fun h => h.elim (fun h => (hasG_none hx h).elim) fun h => (e2 h.2).elim⟩
      | some x =>
        simp only [Option.getD]
        rw [hasG_some hx]
        exact ⟨.inl, fun h => h.elim id fun h => (e2 h.2).elim⟩
  · have h1 : lkG (putG get set l k r new) j = lkG l j := (putG_lk j).trans (if_neg e)
    unfold hasG
    rw [h1]
    exact ⟨.inl, fun h => h.elim id fun h => (e h.1).elim⟩
theorem putG_all (P : β → Prop) (h0 : ∀ j y, lkG l j = some y → P y) (h1 : P (set ((lkG l k).getD new) (upG (get ((lkG l k).getD new)) r ()))) : ∀ j y, lkG (putG get set l k r new) j = some y → P y := by
  intro j y hy
  rw [putG_lk] at hy
  by_cases e : j = k
  · rw [if_pos e] at hy; cases hy; exact h1
  · rw [if_neg e] at hy; exact h0 j y hy
theorem putG_ne (hs : ∀ x d, get (set x d) = d) : (get (set ((lkG l k).getD new) (upG (get ((lkG l k).getD new)) r ()))).length ≠ 0 := by
  rw [hs, upG_len]
  cases h : lkG (get ((lkG l k).getD new)) r with
  | none => simp
  | some u =>
    have := lkG_mem h
    have := List.length_pos_of_mem this
    omega
open Classical in
theorem putG_sum (hs : ∀ x d, get (set x d) = d) (h0 : get new = []) : sumG get (putG get set l k r new) = sumG get l + (if hasG get l k r then 0 else 1) := by
  cases hx : lkG l k with
  | none =>
    rw [if_neg (hasG_none hx)]
    unfold putG
    rw [hx, upG_none hx, sumG_app]
    simp [sumG, hs, h0, upG]
  | some x =>
    have h1 := sumG_up (get := get) (v := set x (upG (get x) r ())) hx
    rw [hs, upG_len] at h1
    unfold putG
    rw [hx]
    show sumG get (upG l k (set x (upG (get x) r ()))) = _
    by_cases h : hasG get l k r
    · have h2 := (hasG_some hx).1 h
      rw [if_pos h]
      rw [h2, if_neg (by simp)] at h1; omega
    · have h2 : lkG (get x) r = none := by
        cases q : lkG (get x) r with
        | none => rfl
        | some u => exact (h ((hasG_some hx).2 q)).elim
      rw [if_neg h]
      rw [h2, if_pos rfl] at h1; omega
theorem putG_some (f : β → δ) (hf : ∀ x d, f (set x d) = f x) (hx : lkG l k = some x) : mp f (putG get set l k r new) = mp f l := by
  unfold putG; rw [hx]; exact upG_sub f hx (hf _ _)
theorem putG_none (f : β → δ) (hf : ∀ x d, f (set x d) = f x) (hx : lkG l k = none) : mp f (putG get set l k r new) = mp f l ++ [(k, f new)] := by
  unfold putG; rw [hx, upG_none hx]
  simp [mp, hf]
theorem putG_rise (f : β → Nat) (hf : ∀ x d, f (set x d) = f x) {n : Nat} (h1 : ((mp f l).map fun p => p.2).Pairwise fun a b => a < b) (h2 : ∀ x ∈ (mp f l).map fun p => p.2, x ≤ n) (h3 : n < f new) {m : Nat} (h4 : n ≤ m) (h5 : lkG l k = none → f new ≤ m) :
    (((mp f (putG get set l k r new)).map fun p => p.2).Pairwise fun a b => a < b) ∧ ∀ x ∈ (mp f (putG get set l k r new)).map fun p => p.2, x ≤ m := by
  cases hx : lkG l k with
  | some x =>
    rw [putG_some f hf hx]
    exact ⟨h1, fun x hx => Nat.le_trans (h2 x hx) h4⟩
  | none =>
    rw [putG_none f hf hx, List.map_append]
    refine ⟨List.pairwise_append.2 ⟨h1, by simp, fun a ha b hb => ?_⟩, fun x q => ?_⟩
    · simp only [List.map_cons, List.map_nil, List.mem_singleton] at hb
      subst hb
      exact Nat.lt_of_le_of_lt (h2 a ha) h3
    · rcases List.mem_append.1 q with q | q
      · exact Nat.le_trans (h2 x q) h4
      · simp only [List.map_cons, List.map_nil, List.mem_singleton] at q
        subst q
        exact h5 hx
end
def upC {κ β : Type} [DecidableEq κ] (n : Nat) (l : List (κ × β)) (k : κ) : Nat := n + if (lkG l k).isNone then 1 else 0
theorem upC_le {κ β : Type} [DecidableEq κ] {n : Nat} {l : List (κ × β)} {k : κ} : n ≤ upC n l k ∧ upC n l k ≤ n + 1 := by unfold upC; split <;> omega
def justT (T : TD) (k : SK) (r : BK) (x0 : CD) (y0 : RD) : TD :=
  { T with cs := putG CD.bys setC T.cs k r x0, rs := putG RD.ofs setR T.rs r k y0, came := upC (upC T.came T.cs k) T.rs r, n := T.n + if (lkG ((lkG T.cs k).getD x0).bys r).isNone then 1 else 0 }
structure Fresh (T : TD) (k : SK) (r : BK) (x0 : CD) (y0 : RD) : Prop where
  b : x0.bys = []
  o : y0.ofs = []
  c : x0.came = T.came + 1
  d : y0.came = upC T.came T.cs k + 1
section
variable {T : TD} {k : SK} {r : BK} {x0 : CD} {y0 : RD}
theorem just_n (F : Fresh T k r x0 y0) : (if (lkG ((lkG T.cs k).getD x0).bys r).isNone then 1 else 0) = (open Classical in if hasB T k r then 0 else 1) := by
  cases hx : lkG T.cs k with
  | none => rw [if_neg (hasG_none hx)]; simp only [Option.getD, F.b]; rfl
  | some x =>
    simp only [Option.getD]
    have iN : ∀ {o : Option Unit} {v}, o = v → (if o.isNone then 1 else 0 : Nat) = if v.isNone then 1 else 0 := fun e => by subst e; rfl
    by_cases h : hasB T k r
    · rw [if_pos h, iN ((hasG_some hx).1 h)]; rfl
    · rw [if_neg h]
      have : lkG x.bys r = none := by
        cases q : lkG x.bys r with
        | none => rfl
        | some u => exact (h ((hasG_some hx).2 q)).elim
      rw [iN this]; rfl
theorem just_hasB (F : Fresh T k r x0 y0) (k' : SK) (r' : BK) : hasB (justT T k r x0 y0) k' r' ↔ hasB T k' r' ∨ (k' = k ∧ r' = r) := putG_has (set := setC) (fun _ _ => rfl) F.b k' r'
theorem just_hasR (F : Fresh T k r x0 y0) (k' : SK) (r' : BK) : hasR (justT T k r x0 y0) k' r' ↔ hasR T k' r' ∨ (r' = r ∧ k' = k) := putG_has (set := setR) (fun _ _ => rfl) F.o r' k'
theorem just_w (W : TW T) (F : Fresh T k r x0 y0) : TW (justT T k r x0 y0) := by
  have bd : ∀ z : CD, (z.bys.map fun p => p.1).Nodup → ((setC z (upG z.bys r ())).bys.map fun p => p.1).Nodup := fun z hz => upG_nodup hz
  have od : ∀ z : RD, (z.ofs.map fun p => p.1).Nodup → ((setR z (upG z.ofs k ())).ofs.map fun p => p.1).Nodup := fun z hz => upG_nodup hz
  have c1 := putG_rise (get := CD.bys) (set := setC) (k := k) (r := r) (new := x0) CD.came (fun _ _ => rfl) (m := (justT T k r x0 y0).came) W.sc W.tc (by rw [F.c]; omega)
    (by have := (upC_le (n := T.came) (l := T.cs) (k := k)).1; have := (upC_le (n := upC T.came T.cs k) (l := T.rs) (k := r)).1; show _ ≤ upC (upC T.came T.cs k) T.rs r; omega)
    (fun h => by have := (upC_le (n := upC T.came T.cs k) (l := T.rs) (k := r)).1; rw [F.c]; show _ ≤ upC (upC T.came T.cs k) T.rs r; have : upC T.came T.cs k = T.came + 1 := by simp [upC, h]
                 omega)
  have c2 := putG_rise (get := RD.ofs) (set := setR) (k := r) (r := k) (new := y0) RD.came (fun _ _ => rfl) (n := upC T.came T.cs k) (m := (justT T k r x0 y0).came) W.sr (fun x hx => by have := W.tr x hx; have := (upC_le (n := T.came) (l := T.cs) (k := k)).1; omega) (by rw [F.d]; omega)
    (by have := (upC_le (n := upC T.came T.cs k) (l := T.rs) (k := r)).1; exact this)
    (fun h => by rw [F.d]; show _ ≤ upC (upC T.came T.cs k) T.rs r; have : upC (upC T.came T.cs k) T.rs r = upC T.came T.cs k + 1 := by simp [upC, h]
                 omega)
  refine ⟨putG_nodup W.ck, putG_nodup W.rk, ?_, ?_, fun k' r' => ?_, ?_, ?_, c1.1, c1.2, c2.1, c2.2, ?_⟩
  · refine putG_all (fun z : CD => (z.bys.map fun p => p.1).Nodup) W.bn (bd _ ?_)
    cases h : lkG T.cs k with
    | none => simp only [Option.getD, F.b]; exact List.nodup_nil
    | some x => exact W.bn k x h
  · refine putG_all (fun z : RD => (z.ofs.map fun p => p.1).Nodup) W.on (od _ ?_)
    cases h : lkG T.rs r with
    | none => simp only [Option.getD, F.o]; exact List.nodup_nil
    | some x => exact W.on r x h
  · rw [just_hasB F, just_hasR F, W.bij]
    exact ⟨fun h => h.imp id fun h => ⟨h.2, h.1⟩, fun h => h.imp id fun h => ⟨h.2, h.1⟩⟩
  · exact putG_all (fun z : CD => z.bys.length ≠ 0) W.cne (putG_ne fun _ _ => rfl)
  · exact putG_all (fun z : RD => z.ofs.length ≠ 0) W.rne (putG_ne fun _ _ => rfl)
  · show T.n + _ = sumG CD.bys (putG CD.bys setC T.cs k r x0)
    rw [putG_sum (fun _ _ => rfl) F.b, W.sum, just_n F]
theorem just_n_le : (justT T k r x0 y0).n ≤ T.n + 1 := by show T.n + _ ≤ _; split <;> omega
theorem just_came_le : (justT T k r x0 y0).came ≤ T.came + 2 := by
  have := (upC_le (n := T.came) (l := T.cs) (k := k)).2; have := (upC_le (n := upC T.came T.cs k) (l := T.rs) (k := r)).2; show upC (upC T.came T.cs k) T.rs r ≤ _; omega
end
end Go.Proofs.Ytbamgdknkhhikaa
namespace Go.Proofs.Ytbamgdknkhhikaa
open Go.Ab
set_option linter.unusedSimpArgs false
set_option linter.unusedVariables false
theorem alloc0_v {h : AHeap} (o : h.Ok) : ∃ h', allocV h [] = some (.ptr h.sz 0 0 0, h') ∧ h'.row h.sz = none ∧ Ext h h' ∧ h'.Ok ∧ h'.sz = h.sz + 1 := by
  refine ⟨h.push .gone, rfl, ?_, ext_push o _, o.push _, by simp⟩
  cases e : (h.push .gone).row h.sz with
  | none => rfl
  | some r => rw [AHeap.row_some, get_push_same] at e; cases e
theorem store0_v {h : AHeap} {id : Nat} (e : h.row id = none) : storeA h 0 (.ptr id 0 0 0) (.agg []) = some h := by
  simp only [storeA, e]; rfl
theorem build0 : buildV [] [] = some (.agg []) := rfl
theorem upd_one {κ : Type} [DecidableEq κ] {kk : KK} {ek : κ → AV} {h : AHeap} {id : Nat} {l : List (κ × Unit)} (M : KMap ek h id (one l)) (K : Keys kk ek) (k : κ) :
    ∃ h', mupdA h kk (.map id) (ek k) (.agg []) = some h' ∧ But id h h' ∧ h'.sz = h.sz ∧ (h.Ok → h'.Ok) ∧ KMap ek h' id (one (upG l k ())) := by
  obtain ⟨h', h1, h2, h3, h4, h5⟩ := M.upd K k (.agg [])
  refine ⟨h', h1, h2, h3, h4, ?_⟩
  rw [one, upG_mp, ← up_G]; exact h5
theorem look_one {κ : Type} [DecidableEq κ] {kk : KK} {ek : κ → AV} {h : AHeap} {id : Nat} {l : List (κ × Unit)} (M : KMap ek h id (one l)) (K : Keys kk ek) (k : κ) :
    lookA h kk true (.agg []) (.map id) (ek k) = some (.tup [.agg [], .bool (lkG l k).isSome]) := by
  rw [M.look2 K, lk_G, one, lkG_mp]
  cases lkG l k <;> rfl
def tagC (τ : Nat → Tag) (a b : Nat) (k : SK) (j : Nat) : Tag := if j = a then .c k else if j = b then .b k else τ j
def tagR (τ : Nat → Tag) (a b : Nat) (k : BK) (j : Nat) : Tag := if j = a then .r k else if j = b then .o k else τ j
theorem tagC_ne {τ : Nat → Tag} {a b j : Nat} {k : SK} (h1 : j ≠ a) (h2 : j ≠ b) : tagC τ a b k j = τ j := by unfold tagC; rw [if_neg h1, if_neg h2]
theorem tagR_ne {τ : Nat → Tag} {a b j : Nat} {k : BK} (h1 : j ≠ a) (h2 : j ≠ b) : tagR τ a b k j = τ j := by unfold tagR; rw [if_neg h1, if_neg h2]
section
variable {τ : Nat → Tag} {h h' : AHeap} {T : TD}
theorem TO.addc (O : TO τ h T) {k : SK} {x : CD} (hk : lkG T.cs k = none) (t1 : τ x.id = .out) (t2 : τ x.m = .out) (ne : x.id ≠ x.m)
    (R : Var h x.id [.str x.cls, x.vals, .int .i64 (x.came : Int), .map x.m]) (M : KMap bk2 h x.m (one [])) (hb : x.bys = []) (sm : AV.same x.vals x.vals = true)
    (f : Fr (fun j => j = T.cm) h h') (o : h'.Ok) (M' : KMap sk h' T.cm (up (mp (fun x => .ptr x.id 0 0 0) T.cs) k (.ptr x.id 0 0 0))) :
    TO (tagC τ x.id x.m k) h' { T with cs := upG T.cs k x } := by
  have no : ∀ {j t}, τ j = t → t ≠ .cm → ¬ j = T.cm := fun e w x => w (by rw [← e, x]; exact O.tc)
  have no' : ∀ {t : Tag}, t ≠ .cm → ∀ j, j = T.cm → τ j ≠ t := fun w j x e => w (by rw [← e, x]; exact O.tc)
  have i1 := R.lt O.ok
  have i2 := M.lt O.ok
  have keep : ∀ j, τ j ≠ .out → tagC τ x.id x.m k j = τ j := fun j hj => tagC_ne (fun e => hj (by rw [e]; exact t1)) (fun e => hj (by rw [e]; exact t2))
  refine ⟨o, fun j hj => ?_, ?_, ?_, ?_, f.var O.var (no O.tp fun e => by cases e), ?_, f.kmap O.rs (no O.tr fun e => by cases e), fun k' y hy => ?_, fun k' y hy => (O.r k' y hy).fr f (no' fun e => by cases e) (no' fun e => by cases e) keep⟩
  · have := f.sz
    rw [tagC_ne (by omega) (by omega)]; exact O.hi j (by omega)
  · have := keep T.p (by rw [O.tp]; exact fun e => by cases e); rw [this]; exact O.tp
  · have := keep T.cm (by rw [O.tc]; exact fun e => by cases e); rw [this]; exact O.tc
  · have := keep T.rm (by rw [O.tr]; exact fun e => by cases e); rw [this]; exact O.tr
  · rw [up_G, ← upG_mp (fun x : CD => AV.ptr x.id 0 0 0)] at M'; exact M'
  · rcases upG_mem hy with e | hy
    · cases e
      exact ⟨by unfold tagC; rw [if_pos rfl], by unfold tagC; rw [if_neg (fun e => ne e.symm), if_pos rfl], f.var R (no t1 fun e => by cases e), by rw [hb]; exact f.kmap M (no t2 fun e => by cases e), sm⟩
    · exact (O.c k' y hy).fr f (no' fun e => by cases e) (no' fun e => by cases e) keep
theorem TO.addr (O : TO τ h T) {k : BK} {x : RD} (hk : lkG T.rs k = none) (t1 : τ x.id = .out) (t2 : τ x.m = .out) (ne : x.id ≠ x.m)
    (R : Var h x.id [.int .i64 x.core, x.els, x.env, .int .i64 (x.came : Int), .map x.m]) (M : KMap sk h x.m (one [])) (hb : x.ofs = [])
    (f : Fr (fun j => j = T.rm) h h') (o : h'.Ok) (M' : KMap bk2 h' T.rm (up (mp (fun x => .ptr x.id 0 0 0) T.rs) k (.ptr x.id 0 0 0))) :
    TO (tagR τ x.id x.m k) h' { T with rs := upG T.rs k x } := by
  have no : ∀ {j t}, τ j = t → t ≠ .rm → ¬ j = T.rm := fun e w x => w (by rw [← e, x]; exact O.tr)
  have no' : ∀ {t : Tag}, t ≠ .rm → ∀ j, j = T.rm → τ j ≠ t := fun w j x e => w (by rw [← e, x]; exact O.tr)
  have i1 := R.lt O.ok
  have i2 := M.lt O.ok
  have keep : ∀ j, τ j ≠ .out → tagR τ x.id x.m k j = τ j := fun j hj => tagR_ne (fun e => hj (by rw [e]; exact t1)) (fun e => hj (by rw [e]; exact t2))
  refine ⟨o, fun j hj => ?_, ?_, ?_, ?_, f.var O.var (no O.tp fun e => by cases e), f.kmap O.cs (no O.tc fun e => by cases e), ?_, fun k' y hy => (O.c k' y hy).fr f (no' fun e => by cases e) (no' fun e => by cases e) keep, fun k' y hy => ?_⟩
  · have := f.sz
    rw [tagR_ne (by omega) (by omega)]; exact O.hi j (by omega)
  · have := keep T.p (by rw [O.tp]; exact fun e => by cases e); rw [this]; exact O.tp
  · have := keep T.cm (by rw [O.tc]; exact fun e => by cases e); rw [this]; exact O.tc
  · have := keep T.rm (by rw [O.tr]; exact fun e => by cases e); rw [this]; exact O.tr
  · rw [up_G, ← upG_mp (fun x : RD => AV.ptr x.id 0 0 0)] at M'; exact M'
  · rcases upG_mem hy with e | hy
    · cases e
      exact ⟨by unfold tagR; rw [if_pos rfl], by unfold tagR; rw [if_neg (fun e => ne e.symm), if_pos rfl], f.var R (no t1 fun e => by cases e), by rw [hb]; exact f.kmap M (no t2 fun e => by cases e)⟩
    · exact (O.r k' y hy).fr f (no' fun e => by cases e) (no' fun e => by cases e) keep
end
section
variable {τ : Nat → Tag} {h : AHeap} {T : TD} {K : Kont} {n : Nat} {k : SK} {r : BK} {x : CD} {y : RD} {a7 a8 : Nat}
theorem p36 (O : TO τ h T) (hx : lkG T.cs k = some x) (hy : lkG T.rs r = some y) (V7 : Var h a7 [.str k.1, .str k.2]) (V8 : Var h a8 [.int .i64 r.1, .str r.2]) (t7 : τ a7 = .out) (t8 : τ a8 = .out)
    (kk : ∀ h', TO τ h' { T with cs := upG T.cs k (setC x (upG x.bys r ())), rs := upG T.rs r (setR y (upG y.ofs k ())) } → Fr (W8 τ) h h' → K (.int .i64 0) h' = true) :
    p10_36 (callN E (n + 1)) (n + 1) (.ptr T.p 0 0 0) (.ptr a7 0 0 0) (.ptr a8 0 0 0) h K = true := by
  unfold p10_36
  have C := O.c k x (lkG_mem hx)
  have A7 : loadA h true 2 (.ptr a7 0 0 0) = some (sk k) := V7.all rfl
  have A8 : loadA h true 2 (.ptr a8 0 0 0) = some (bk2 r) := V8.all rfl
  refine z_nil ?_; refine z_fadr ?_; refine z_of O.l0 ?_; refine z_of A7 ?_; refine z_of (O.lkc hx) ?_; refine z_nil ?_; refine z_fadr ?_; refine z_of C.l3 ?_; refine z_of A8 ?_; refine z_of build0 ?_
  obtain ⟨h1, q1, q2, q3, q4, q5⟩ := upd_one C.map bks r
  refine z_u q1 ?_
  have o1 := q4 O.ok
  have O1 := O.bys hx (Fr.of_but rfl q2) o1 q5
  have n7 : a7 ≠ x.m := fun e => by have := C.tm; rw [← e, t7] at this; cases this
  have n8 : a8 ≠ x.m := fun e => by have := C.tm; rw [← e, t8] at this; cases this
  have V7 := q2.var V7 n7
  have V8 := q2.var V8 n8
  have A7 : loadA h1 true 2 (.ptr a7 0 0 0) = some (sk k) := V7.all rfl
  have A8 : loadA h1 true 2 (.ptr a8 0 0 0) = some (bk2 r) := V8.all rfl
  have R := O1.r r y (lkG_mem hy)
  have lr : lookA h1 (KK.st [K0.int, K0.str]) false (AV.nilPtr) (.map T.rm) (bk2 r) = some (.ptr y.id 0 0 0) := O1.lkr hy
  have l1 : loadA h1 false 1 (.ptr T.p 0 0 1) = some (.map T.rm) := O1.l1
  refine z_nil ?_; refine z_fadr ?_; refine z_of l1 ?_; refine z_of A8 ?_; refine z_of lr ?_; refine z_nil ?_; refine z_fadr ?_; refine z_of R.l4 ?_; refine z_of A7 ?_; refine z_of build0 ?_
  obtain ⟨h2, w1, w2, w3, w4, w5⟩ := upd_one R.map sks k
  refine z_u w1 ?_
  exact kk h2 (O1.ofs hy (Fr.of_but rfl w2) (w4 o1) w5) ((Fr.of_but (by show (τ x.m).own; rw [C.tm]; trivial) q2).trans (Fr.of_but (by show (τ y.m).own; rw [R.tm]; trivial) w2))
theorem p28 (O : TO τ h T) (hx : lkG T.cs k = some x) (hy : lkG T.rs r = some y) (V7 : Var h a7 [.str k.1, .str k.2]) (V8 : Var h a8 [.int .i64 r.1, .str r.2]) (t7 : τ a7 = .out) (t8 : τ a8 = .out) (hn : T.n < 1000000)
    (kk : ∀ h', TO τ h' { T with n := T.n + (if (lkG x.bys r).isNone then 1 else 0), cs := upG T.cs k (setC x (upG x.bys r ())), rs := upG T.rs r (setR y (upG y.ofs k ())) } → Fr (W8 τ) h h' → K (.int .i64 0) h' = true) :
    p10_28 (callN E (n + 1)) (n + 1) (.ptr T.p 0 0 0) (.ptr a7 0 0 0) (.ptr a8 0 0 0) h K = true := by
  unfold p10_28
  have C := O.c k x (lkG_mem hx)
  have A7 : loadA h true 2 (.ptr a7 0 0 0) = some (sk k) := V7.all rfl
  have A8 : loadA h true 2 (.ptr a8 0 0 0) = some (bk2 r) := V8.all rfl
  refine z_nil ?_; refine z_fadr ?_; refine z_of O.l0 ?_; refine z_of A7 ?_; refine z_of (O.lkc hx) ?_; refine z_nil ?_; refine z_fadr ?_; refine z_of C.l3 ?_; refine z_of A8 ?_; refine z_of (look_one C.map bks r) ?_; refine z_ext0 ?_; refine z_ext1 ?_
  obtain ⟨h1, b1, b2, e1, o1, z1⟩ := alloc0_v O.ok
  refine z_p b1 ?_
  have O1 := O.ext e1 o1
  have V7 := V7.ext e1
  have V8 := V8.ext e1
  have C1 := O1.c k x (lkG_mem hx)
  have A7 : loadA h1 true 2 (.ptr a7 0 0 0) = some (sk k) := V7.all rfl
  have A8 : loadA h1 true 2 (.ptr a8 0 0 0) = some (bk2 r) := V8.all rfl
  refine z_same O1.l0 (same_map _) ?_
  refine z_same A7 (same_agg (sames_cons (same_str _) (sames_cons (same_str _) sames_nil))) ?_
  refine z_same (O1.lkc hx) (same_ptr _ _ _ _) ?_
  refine z_same C1.l3 (same_map _) ?_
  refine z_same A8 (same_agg (sames_cons (same_int _ _) (sames_cons (same_str _) sames_nil))) ?_
  refine z_same (look_one C1.map bks r) (same_tup (sames_cons (same_agg sames_nil) (sames_cons (same_bool _) sames_nil))) ?_
  refine z_u (store0_v b2) ?_
  cases hr : lkG x.bys r with
  | some u =>
    rw [hr] at kk
    refine z_some ?_
    exact p36 (n := n) O1 hx hy V7 V8 t7 t8 fun h' O' F => kk h' O' ((Fr.of_ext e1).trans F)
  | none =>
    rw [hr] at kk
    refine z_some ?_
    refine z_of O1.l3 ?_; refine z_of (add64 (a := (T.n : Int)) (b := 1) (by omega) (by omega)) ?_; refine z_nil ?_; refine z_fadr ?_
    have V := O1.var
    obtain ⟨h2, w1, w2, w3, o2, w5⟩ := V.wr o1 (off := 3) (v := .int .i64 ((T.n : Int) + 1)) (show 3 < 4 by decide) rfl
    refine z_u w1 ?_
    have hn1 : (T.n : Int) + 1 = ((T.n + 1 : Nat) : Int) := by omega
    rw [hn1] at w2
    have O2 : TO τ h2 { T with n := T.n + 1 } := O1.put (ca := T.came) (n := T.n + 1) (Fr.of_but rfl w3) o2 w2
    have n7 : a7 ≠ T.p := fun e => by have := O.tp; rw [← e, t7] at this; cases this
    have n8 : a8 ≠ T.p := fun e => by have := O.tp; rw [← e, t8] at this; cases this
    refine p36 (n := n) (T := { T with n := T.n + 1 }) O2 hx hy (w3.var V7 n7) (w3.var V8 n8) t7 t8 fun h' O' F => kk h' O' (((Fr.of_ext e1).trans (Fr.of_but (by show (τ T.p).own; rw [O.tp]; trivial) w3)).trans F)
end
def Kept (τ : Nat → Tag) (h h' : AHeap) (G : AHeap → Nat → Nat → Prop) : Prop := ∃ lo hi, G h' lo hi ∧ h.sz ≤ lo ∧ hi ≤ h'.sz ∧ ∀ j, lo ≤ j → j < hi → τ j = .out
theorem build5 {a b c d e : AV} (h1 : a.leaf = true) (h2 : b.leaf = true) (h3 : c.leaf = true) (h4 : d.leaf = true) (h5 : e.leaf = true) :
    buildV [AV.int IntKind.i64 0, AV.nilSlc, AV.nilSlc, AV.int IntKind.i64 0, AV.nilMap] [(0, 3, .agg [a, b, c]), (3, 1, d), (4, 1, e)] = some (.agg [a, b, c, d, e]) := by
  have c4 := cells_leaf h4
  have c5 := cells_leaf h5
  have c0 : AV.cells (.agg [a, b, c]) = [a, b, c] := rfl
  simp only [buildV, fillV, c0, c4, c5, List.length_cons, List.length_nil, allLeaf, h1, h2, h3, h4, h5, lay]
  rfl
theorem build4 {a b d e : AV} (h1 : a.leaf = true) (h2 : b.leaf = true) (h4 : d.leaf = true) (h5 : e.leaf = true) :
    buildV [AV.str [], AV.nilSlc, AV.int IntKind.i64 0, AV.nilMap] [(0, 2, .agg [a, b]), (2, 1, d), (3, 1, e)] = some (.agg [a, b, d, e]) := by
  have c4 := cells_leaf h4
  have c5 := cells_leaf h5
  have c0 : AV.cells (.agg [a, b]) = [a, b] := rfl
  simp only [buildV, fillV, c0, c4, c5, List.length_cons, List.length_nil, allLeaf, h1, h2, h4, h5, lay]
  rfl
theorem build_by {a b : AV} (h1 : a.leaf = true) (h2 : b.leaf = true) : buildV [AV.int IntKind.i64 0, AV.str []] [(0, 1, a), (1, 1, b)] = some (.agg [a, b]) := build2 h1 h2
section
variable {τ : Nat → Tag} {h : AHeap} {T : TD} {K : Kont} {n : Nat} {k : SK} {r : BK} {x : CD} {y : RD} {a5 a7 a8 : Nat} {core : Int} {els env : AV} {GM : AHeap → Nat → Nat → AV → AV → Prop}
theorem p20 (O : TO τ h T) (hx : lkG T.cs k = some x) (V5 : Var h a5 [.int .i64 core, els, env]) (V7 : Var h a7 [.str k.1, .str k.2]) (V8 : Var h a8 [.int .i64 r.1, .str r.2]) (t5 : τ a5 = .out) (t7 : τ a7 = .out) (t8 : τ a8 = .out) (hn : T.n < 1000000) (hc : T.came < 1000000)
    (se : AV.same els els = true) (sv : AV.same env env = true)
    (ht : ∀ h1, h1.Ok → Fr (W8 τ) h h1 → ∀ K' : Kont, (∀ h2 els' env', Ext h1 h2 → h2.Ok → els'.leaf = true → env'.leaf = true → GM h2 h1.sz h2.sz els' env' → K' (.agg [.int .i64 core, els', env']) h2 = true) → callN E (n + 1) (.func 41) [.agg [.int .i64 core, els, env]] h1 K' = true)
    (gfr : ∀ h1 h2 lo hi a b, GM h1 lo hi a b → (∀ j o, lo ≤ j → j < hi → h1.get j = some o → h2.get j = some o) → GM h2 lo hi a b)
    (kk : ∀ h' τ' y, TO τ' h' { T with came := upC T.came T.rs r, n := T.n + (if (lkG x.bys r).isNone then 1 else 0), cs := upG T.cs k (setC x (upG x.bys r ())), rs := putG RD.ofs setR T.rs r k y } → y.ofs = [] → y.came = T.came + 1 →
      (lkG T.rs r = none → y.core = core ∧ Kept τ' h h' fun h lo hi => GM h lo hi y.els y.env) → (∀ j, j < h.sz → τ' j = τ j) → (∀ j, W8 τ' j → j < h'.sz) → Fr (W8 τ) h h' → K (.int .i64 0) h' = true) :
    p10_20 (callN E (n + 1)) (n + 1) (.ptr T.p 0 0 0) (.ptr a5 0 0 0) (.ptr a7 0 0 0) (.ptr a8 0 0 0) h K = true := by
  have lt' : ∀ {τ' : Nat → Tag} {h' : AHeap} {T' : TD}, TO τ' h' T' → ∀ j, W8 τ' j → j < h'.sz := fun {τ' h' T'} O' j w => by
    by_cases q : j < h'.sz
    · exact q
    · have w : (τ' j).own := w
      rw [O'.hi j (by omega)] at w; exact w.elim
  unfold p10_20
  have A8 : loadA h true 2 (.ptr a8 0 0 0) = some (bk2 r) := V8.all rfl
  cases hy : lkG T.rs r with
  | some y =>
    refine z_nil ?_; refine z_fadr ?_; refine z_of O.l1 ?_; refine z_of A8 ?_; refine z_of (O.lkr hy) ?_; refine z_eqp ?_; refine z_cF ?_
    refine p28 O hx hy V7 V8 t7 t8 hn fun h' O' F => ?_
    have e1 : upC T.came T.rs r = T.came := by unfold upC; rw [hy]; rfl
    have e2 : putG RD.ofs setR T.rs r k ⟨0, 0, 0, .nilSlc, .nilSlc, T.came + 1, []⟩ = upG T.rs r (setR y (upG y.ofs k ())) := by unfold putG; rw [hy]; rfl
    refine kk h' τ ⟨0, 0, 0, .nilSlc, .nilSlc, T.came + 1, []⟩ (by rw [e1, e2]; exact O') rfl rfl (fun q => by rw [hy] at q; cases q) (fun _ _ => rfl) (lt' O') F
  | none =>
    refine z_nil ?_; refine z_fadr ?_; refine z_of O.l1 ?_; refine z_of A8 ?_; refine z_of (O.lkr0 hy) ?_; refine z_eqn ?_; refine z_cT ?_; refine z_nil ?_; refine z_fadr ?_
    refine z_of O.l2 ?_; refine z_of (add64 (a := (T.came : Int)) (b := 1) (by omega) (by omega)) ?_; refine z_nil ?_; refine z_fadr ?_
    have V := O.var
    obtain ⟨h1, w1, w2, w3, o1, w5⟩ := V.wr O.ok (off := 2) (v := .int .i64 ((T.came : Int) + 1)) (show 2 < 4 by decide) rfl
    refine z_u w1 ?_
    have hn1 : (T.came : Int) + 1 = ((T.came + 1 : Nat) : Int) := by omega
    rw [hn1] at w2
    have O1 : TO τ h1 { T with came := T.came + 1 } := O.put (ca := T.came + 1) (n := T.n) (Fr.of_but rfl w3) o1 w2
    have ne : ∀ {a}, τ a = .out → a ≠ T.p := fun t e => by have := O.tp; rw [← e, t] at this; cases this
    have V5 := w3.var V5 (ne t5)
    have V7 := w3.var V7 (ne t7)
    have V8 := w3.var V8 (ne t8)
    have A5 : ∀ {h'}, Ext h1 h' → loadA h' true 3 (.ptr a5 0 0 0) = some (.agg [.int .i64 core, els, env]) := fun e => (V5.ext e).all rfl
    have A8 : ∀ {h'}, Ext h1 h' → loadA h' true 2 (.ptr a8 0 0 0) = some (bk2 r) := fun e => (V8.ext e).all rfl
    have L1 : ∀ {h'}, Ext h1 h' → loadA h' false 1 (.ptr T.p 0 0 1) = some (.map T.rm) := fun e => (w2.ext e).get rfl
    have L2 : ∀ {h'}, Ext h1 h' → loadA h' false 1 (.ptr T.p 0 0 2) = some (.int .i64 ((T.came + 1 : Nat) : Int)) := fun e => (w2.ext e).get rfl
    have sA5 : AV.same (.agg [.int .i64 core, els, env]) (.agg [.int .i64 core, els, env]) = true := same_agg (sames_cons (same_int _ _) (sames_cons se (sames_cons sv sames_nil)))
    have sA8 : AV.same (bk2 r) (bk2 r) = true := same_agg (sames_cons (same_int _ _) (sames_cons (same_str _) sames_nil))
    have e0 := Ext.refl h1
    refine z_nil ?_; refine z_fadr ?_; refine z_of (L1 e0) ?_; refine z_of (A8 e0) ?_; refine z_of (A5 e0) ?_; refine z_nil ?_; refine z_fadr ?_; refine z_of (L2 e0) ?_
    obtain ⟨h2, m1, M, e2, o2, z2⟩ := mkmap_v sk o1
    refine z_p m1 ?_
    refine z_same (L1 e2) (same_map _) ?_
    refine z_same (A8 e2) sA8 ?_
    refine z_same (A5 e2) sA5 ?_
    refine z_same (L2 e2) (same_int _ _) ?_
    have F1 : Fr (W8 τ) h h1 := Fr.of_but (by show (τ T.p).own; rw [O.tp]; trivial) w3
    refine ht h2 o2 (fr_ext F1 e2) _ fun h3 els' env' e3 o3 le lv hG => ?_
    have e3' := ext_two e2 e3
    refine z_same (L1 e3') (same_map _) ?_
    refine z_same (A8 e3') sA8 ?_
    refine z_same (L2 e3') (same_int _ _) ?_
    refine z_of (build5 rfl le lv rfl rfl) ?_
    obtain ⟨h4, b1, V4, e4, o4, z4⟩ := box_v (n := 5) (v := .agg [.int .i64 core, els', env', .int .i64 ((T.came + 1 : Nat) : Int), .map h1.sz]) o3 rfl (by decide) (by simp only [AV.cells, allLeaf, le, lv]; rfl)
    have V4 : Var h4 h3.sz [.int .i64 core, els', env', .int .i64 ((T.came + 1 : Nat) : Int), .map h1.sz] := V4
    refine z_p b1 ?_
    have e4' := ext_two e3' e4
    refine z_same (L1 e4') (same_map _) ?_
    refine z_same (A8 e4') sA8 ?_
    refine z_same (A5 e4') sA5 ?_
    refine z_same (L2 e4') (same_int _ _) ?_
    have O4 := O1.ext e4' o4
    obtain ⟨h5, u1, u2, u3, u4, u5⟩ := O4.rs.upd bks r (.ptr h3.sz 0 0 0)
    refine z_u u1 ?_
    have hs1 : h.sz = h1.sz := w5.symm
    have hs2 : h1.sz < h3.sz := by have := e3.1; omega
    have O5 : TO (tagR τ h3.sz h1.sz r) h5 { T with came := T.came + 1, rs := upG T.rs r ⟨h3.sz, h1.sz, core, els', env', T.came + 1, []⟩ } := O4.addr (k := r) (x := ⟨h3.sz, h1.sz, core, els', env', T.came + 1, []⟩) hy (O.hi h3.sz (by omega)) (O.hi h1.sz (by omega)) (by show h3.sz ≠ h1.sz; omega) V4 ((Fr.of_ext (X := fun _ => False) (ext_two e3 e4)).kmap M id) rfl (Fr.of_but rfl u2) (u4 o4) u5
    have F5 : Fr (W8 τ) h h5 := (fr_ext F1 e4').trans (Fr.of_but (by show (τ T.rm).own; rw [O.tr]; trivial) u2)
    have tout : ∀ {a}, τ a = .out → a < h.sz → tagR τ h3.sz h1.sz r a = .out := fun {a} t l => by rw [tagR_ne (by omega) (by omega)]; exact t
    have vr : ∀ {a c}, Var h1 a c → τ a = .out → Var h5 a c := fun {a c} V t => u2.var (V.ext e4') (fun e => by have := O.tr; rw [← e, t] at this; cases this)
    have l5 : a5 < h.sz := by have := V5.lt o1; omega
    have l7 : a7 < h.sz := by have := V7.lt o1; omega
    have l8 : a8 < h.sz := by have := V8.lt o1; omega
    have ky : lkG (upG T.rs r ⟨h3.sz, h1.sz, core, els', env', T.came + 1, []⟩) r = some ⟨h3.sz, h1.sz, core, els', env', T.came + 1, []⟩ := by rw [lkG_up, if_pos rfl]
    have p28' := p28 (n := n) (K := K) O5 hx ky (vr V7 t7) (vr V8 t8) (tout t7 l7) (tout t8 l8) hn
    refine p28' fun h' O' F => ?_
    have e1 : upC T.came T.rs r = T.came + 1 := by unfold upC; rw [hy]; rfl
    have e2' : putG RD.ofs setR T.rs r k ⟨h3.sz, h1.sz, core, els', env', T.came + 1, []⟩ = upG (upG T.rs r ⟨h3.sz, h1.sz, core, els', env', T.came + 1, []⟩) r (setR ⟨h3.sz, h1.sz, core, els', env', T.came + 1, []⟩ (upG [] k ())) := by unfold putG; rw [hy, upG_up]; rfl
    refine kk h' (tagR τ h3.sz h1.sz r) ⟨h3.sz, h1.sz, core, els', env', T.came + 1, []⟩ (by rw [e1, e2']; exact O') rfl rfl (fun _ => ⟨rfl, h2.sz, h3.sz, ?_, by omega, by have := F.sz; omega, fun j j1 j2 => by rw [tagR_ne (by omega) (by omega)]; exact O.hi j (by omega)⟩) (fun j hj => tagR_ne (by omega) (by omega)) (lt' O') ?_
    · refine gfr h3 h' _ _ _ _ hG fun j o j1 j2 g => ?_
      have ho : ¬ W8 (tagR τ h3.sz h1.sz r) j := by
        show ¬ (tagR τ h3.sz h1.sz r j).own
        rw [tagR_ne (by omega) (by omega), O.hi j (by omega)]; exact id
      refine F.keep j o ho (u2.keep j o (fun e => ?_) (e4.2 j o g))
      have := O.tr
      rw [← show j = T.rm from e, O.hi j (by omega)] at this; cases this
    · refine fr_acc O.ok F5 F fun j w => ?_
      by_cases q : j < h.sz
      · left
        have w : (tagR τ h3.sz h1.sz r j).own := w
        rw [tagR_ne (by omega) (by omega)] at w; exact w
      · right; omega
end
end Go.Proofs.Ytbamgdknkhhikaa
namespace Go.Proofs.Ytbamgdknkhhikaa
open Go.Ab
set_option linter.unusedSimpArgs false
set_option linter.unusedVariables false
section
variable {τ : Nat → Tag} {h : AHeap} {T : TD} {K : Kont} {n : Nat} {k : SK} {r : BK} {cls : Str} {core : Int} {vals els env : AV} {b1 b2 : Bool} {G : AHeap → Nat → Nat → AV → Prop} {GM : AHeap → Nat → Nat → AV → AV → Prop}
def Says (h : AHeap) (n f : Nat) (args : List AV) (v : AV) : Prop := ∀ h1, h1.Ok → Ext h h1 → ∀ K' : Kont, (∀ h2, Ext h1 h2 → h2.Ok → K' v h2 = true) → callN E n (.func f) args h1 K' = true
theorem c10 (O : TO τ h T) (hn : T.n < 1000000) (hc : T.came < 999999) (lv : vals.leaf = true) (le : els.leaf = true) (ln : env.leaf = true) (sv : AV.same vals vals = true) (se : AV.same els els = true) (sn : AV.same env env = true)
    (hb : Says h (n + 1) 35 [vals] (.bool b1)) (hb2 : Says h (n + 1) 36 [els, .fn (.func 37) [] []] (.bool b2))
    (hs : b1 = false → Says h (n + 1) 38 [.agg [.str cls, vals]] (sk k))
    (hk : b1 = false → b2 = false → Says h (n + 1) 39 [.agg [.int .i64 r.1, els, env]] (.str r.2))
    (hv : ∀ h1, h1.Ok → Fr (W8 τ) h h1 → ∀ K' : Kont, (∀ h2 v, Ext h1 h2 → h2.Ok → v.leaf = true → AV.same v v = true → G h2 h1.sz h2.sz v → K' v h2 = true) → callN E (n + 1) (.func 40) [vals] h1 K' = true)
    (ht : ∀ h1, h1.Ok → Fr (W8 τ) h h1 → ∀ K' : Kont, (∀ h2 els' env', Ext h1 h2 → h2.Ok → els'.leaf = true → env'.leaf = true → GM h2 h1.sz h2.sz els' env' → K' (.agg [.int .i64 r.1, els', env']) h2 = true) → callN E (n + 1) (.func 41) [.agg [.int .i64 r.1, els, env]] h1 K' = true)
    (gv : ∀ h1 h2 lo hi a, G h1 lo hi a → (∀ j o, lo ≤ j → j < hi → h1.get j = some o → h2.get j = some o) → G h2 lo hi a)
    (gm : ∀ h1 h2 lo hi a b, GM h1 lo hi a b → (∀ j o, lo ≤ j → j < hi → h1.get j = some o → h2.get j = some o) → GM h2 lo hi a b)
    (k0 : cls = [] ∨ b1 = true ∨ b2 = true → ∀ h', Ext h h' → h'.Ok → K (.int .i64 1) h' = true)
    (k1 : cls ≠ [] → b1 = false → b2 = false → ∀ h' τ' x y, TO τ' h' (justT T k r x y) → Fresh T k r x y →
      (lkG T.cs k = none → x.cls = cls ∧ Kept τ' h h' fun h lo hi => G h lo hi x.vals) → (lkG T.rs r = none → y.core = r.1 ∧ Kept τ' h h' fun h lo hi => GM h lo hi y.els y.env) → (∀ j, j < h.sz → τ' j = τ j) → Fr (W8 τ) h h' → K (.int .i64 0) h' = true) :
    callN E (n + 2) (.func 10) [.ptr T.p 0 0 0, .agg [.str cls, vals], .agg [.int .i64 r.1, els, env]] h K = true := by
  apply d10
  unfold s10
  obtain ⟨h1, q1, V1, e1, o1, z1⟩ := box_v (n := 2) (v := .agg [.str cls, vals]) O.ok rfl (by decide) (by simp only [AV.cells, allLeaf, lv]; rfl)
  have V1 : Var h1 h.sz [.str cls, vals] := V1
  refine z_p q1 ?_
  obtain ⟨h2, q2, V2, e2, o2, z2⟩ := box_v (n := 3) (v := .agg [.int .i64 r.1, els, env]) o1 rfl (by decide) (by simp only [AV.cells, allLeaf, le, ln]; rfl)
  have V2 : Var h2 h1.sz [.int .i64 r.1, els, env] := V2
  refine z_p q2 ?_
  have e02 := ext_two e1 e2
  have V1 := V1.ext e2
  have A1 : ∀ {h'}, Ext h2 h' → loadA h' true 2 (.ptr h.sz 0 0 0) = some (.agg [.str cls, vals]) := fun e => (V1.ext e).all rfl
  have A2 : ∀ {h'}, Ext h2 h' → loadA h' true 3 (.ptr h1.sz 0 0 0) = some (.agg [.int .i64 r.1, els, env]) := fun e => (V2.ext e).all rfl
  have A10 : ∀ {h'}, Ext h2 h' → loadA h' false 1 (.ptr h.sz 0 0 0) = some (.str cls) := fun e => (V1.ext e).get rfl
  have A11 : ∀ {h'}, Ext h2 h' → loadA h' false 1 (.ptr h.sz 0 0 1) = some vals := fun e => (V1.ext e).get rfl
  have A20 : ∀ {h'}, Ext h2 h' → loadA h' false 1 (.ptr h1.sz 0 0 0) = some (.int .i64 r.1) := fun e => (V2.ext e).get rfl
  have A21 : ∀ {h'}, Ext h2 h' → loadA h' false 1 (.ptr h1.sz 0 0 1) = some els := fun e => (V2.ext e).get rfl
  have s1 : AV.same (.agg [.str cls, vals]) (.agg [.str cls, vals]) = true := same_agg (sames_cons (same_str _) (sames_cons sv sames_nil))
  have s2 : AV.same (.agg [.int .i64 r.1, els, env]) (.agg [.int .i64 r.1, els, env]) = true := same_agg (sames_cons (same_int _ _) (sames_cons se (sames_cons sn sames_nil)))
  refine z_fadr ?_; refine z_of (A10 (Ext.refl _)) ?_; refine z_seq ?_
  by_cases hcls : cls = []
  · rw [decide_eq_true hcls]
    refine z_gtf ?_; refine z_gtf ?_; refine z_rtf ?_; refine z_kt ?_; refine z_gtf ?_; refine z_gtf ?_; refine z_rtf ?_; refine z_kt ?_; refine z_cT ?_
    exact k0 (.inl hcls) h2 e02 o2
  rw [decide_eq_false hcls]
  refine z_gff ?_; refine z_fadr ?_; refine z_gff ?_; refine z_of (A11 (Ext.refl _)) ?_; refine z_rff ?_
  refine hb h2 o2 e02 _ fun h3 e3 o3 => ?_
  cases hb1 : b1 with
  | true =>
    refine z_kf ?_; refine z_gtf ?_; refine z_gtf ?_; refine z_rtf ?_; refine z_kt ?_; refine z_cT ?_
    exact k0 (.inr (.inl hb1)) h3 (ext_two e02 e3) o3
  | false =>
  refine z_kf ?_; refine z_gff ?_; refine z_fadr ?_; refine z_gff ?_; refine z_of (A21 e3) ?_; refine z_rff ?_
  refine hb2 h3 o3 (ext_two e02 e3) _ fun h4 e4 o4 => ?_
  have e24 := ext_two e3 e4
  cases hb2' : b2 with
  | true =>
    refine z_kf ?_; refine z_cT ?_
    exact k0 (.inr (.inr hb2')) h4 (ext_two e02 e24) o4
  | false =>
  refine z_kf ?_; refine z_cF ?_; refine z_of (A1 e24) ?_; refine z_fadr ?_; refine z_of (A20 e24) ?_; refine z_of (A2 e24) ?_
  obtain ⟨h5, c1, V7, e5, o5, z5⟩ := alloc_v (z := [AV.str [], AV.str []]) o4 (by decide) rfl
  refine z_p c1 ?_
  have e25 := ext_two e24 e5
  refine z_same (A1 e25) s1 ?_
  refine z_same (A20 e25) (same_int _ _) ?_
  refine z_same (A2 e25) s2 ?_
  obtain ⟨h6, c2, V8, e6, o6, z6⟩ := alloc_v (z := [AV.int .i64 0, AV.str []]) o5 (by decide) rfl
  refine z_p c2 ?_
  have e26 := ext_two e25 e6
  refine z_same (A1 e26) s1 ?_
  refine z_same (A20 e26) (same_int _ _) ?_
  refine z_same (A2 e26) s2 ?_
  refine hs hb1 h6 o6 (ext_two e02 e26) _ fun h7 e7 o7 => ?_
  have e27 := ext_two e26 e7
  refine z_same (A20 e27) (same_int _ _) ?_
  refine z_same (A2 e27) s2 ?_
  refine hk hb1 hb2' h7 o7 (ext_two e02 e27) _ fun h8 e8 o8 => ?_
  have e28 := ext_two e27 e8
  refine z_same (A20 e28) (same_int _ _) ?_
  refine z_of (build_by rfl rfl) ?_
  have V7 := ((V7.ext e6).ext e7).ext e8
  have V8 := (V8.ext e7).ext e8
  obtain ⟨h9, w1, W7, w3, o9, w5⟩ := V7.wrs o8 (n := 2) (v := sk k) rfl rfl rfl
  refine z_u w1 ?_
  have W7 : Var h9 h4.sz [.str k.1, .str k.2] := W7
  have ls2 : h1.sz < h2.sz := by omega
  have ls4 : h2.sz ≤ h4.sz := e24.1
  have ls6 : h4.sz < h6.sz := by omega
  have B20 : loadA h9 false 1 (.ptr h1.sz 0 0 0) = some (.int .i64 r.1) := (w3.var (V2.ext e28) (by omega)).get rfl
  refine z_same B20 (same_int _ _) ?_
  have V8 := w3.var V8 (show h5.sz ≠ h4.sz by omega)
  obtain ⟨h10, x1, W8', x3, o10, x5⟩ := V8.wrs o9 (n := 2) (v := bk2 r) rfl rfl rfl
  have hbk : AV.agg [.int .i64 r.1, .str r.2] = bk2 r := rfl
  rw [hbk]
  refine z_u x1 ?_
  have W8' : Var h10 h5.sz [.int .i64 r.1, .str r.2] := W8'
  have W7 := x3.var W7 (show h4.sz ≠ h5.sz by omega)
  have e08 := ext_two e02 e28
  have e10 : Ext h h10 := x3.ext (w3.ext e08 O.ok (by have := e02.1; omega)) O.ok (by have := e02.1; omega)
  have b10 : ∀ {j c}, Var h2 j c → j < h2.sz → Var h10 j c := fun V l => x3.var (w3.var (V.ext e28) (by omega)) (by omega)
  have V1 := b10 V1 (by omega)
  have V2 := b10 V2 (by omega)
  have O10 := O.ext e10 o10
  have A7 : loadA h10 true 2 (.ptr h4.sz 0 0 0) = some (sk k) := W7.all rfl
  have t1 : ∀ {j}, h.sz ≤ j → τ j = .out := fun l => O.hi _ l
  have F10 : Fr (W8 τ) h h10 := Fr.of_ext e10
  have hz1 : h.sz < h2.sz := by omega
  have l10 : h2.sz ≤ h10.sz := by have := e28.1; have := w5; have := x5; omega
  have big : h5.sz < h10.sz := by have := e7.1; have := e8.1; omega
  cases hx : lkG T.cs k with
  | some x =>
    refine z_nil ?_; refine z_fadr ?_; refine z_of O10.l0 ?_; refine z_of A7 ?_; refine z_of (O10.lkc hx) ?_; refine z_eqp ?_; refine z_cF ?_
    refine p20 (GM := GM) O10 hx V2 W7 W8' (t1 (by omega)) (t1 (by omega)) (t1 (by omega)) hn (by omega) se sn (fun hh oo FF => ht hh oo (F10.trans FF)) gm fun h' τ' y O' p1 p2 p3 p4 p5 p6 => ?_
    have E1 : justT T k r ⟨0, 0, [], .nilSlc, T.came + 1, []⟩ y = { T with came := upC T.came T.rs r, n := T.n + (if (lkG x.bys r).isNone then 1 else 0), cs := upG T.cs k (setC x (upG x.bys r ())), rs := putG RD.ofs setR T.rs r k y } := by
      have e1 : upC T.came T.cs k = T.came := by unfold upC; rw [hx]; rfl
      unfold justT putG
      rw [hx, e1]; rfl
    refine k1 hcls hb1 hb2' h' τ' ⟨0, 0, [], .nilSlc, T.came + 1, []⟩ y (by rw [E1]; exact O') ⟨rfl, p1, rfl, ?_⟩ (fun q => by rw [hx] at q; cases q) (fun q => ?_) (fun j hj => p4 j (by have := e10.1; omega)) (F10.trans p6)
    · have e1 : upC T.came T.cs k = T.came := by unfold upC; rw [hx]; rfl
      rw [e1]; exact p2
    · obtain ⟨c1, lo, hi, c2, c3, c4, c5⟩ := p3 q
      exact ⟨c1, lo, hi, c2, by have := e10.1; omega, c4, c5⟩
  | none =>
    refine z_nil ?_; refine z_fadr ?_; refine z_of O10.l0 ?_; refine z_of A7 ?_; refine z_of (O10.lkc0 hx) ?_; refine z_eqn ?_; refine z_cT ?_; refine z_nil ?_; refine z_fadr ?_
    refine z_of O10.l2 ?_; refine z_of (add64 (a := (T.came : Int)) (b := 1) (by omega) (by omega)) ?_; refine z_nil ?_; refine z_fadr ?_
    have V := O10.var
    obtain ⟨h11, y1, y2, y3, o11, y5⟩ := V.wr o10 (off := 2) (v := .int .i64 ((T.came : Int) + 1)) (show 2 < 4 by decide) rfl
    refine z_u y1 ?_
    have hn1 : (T.came : Int) + 1 = ((T.came + 1 : Nat) : Int) := by omega
    rw [hn1] at y2
    have O11 : TO τ h11 { T with came := T.came + 1 } := O10.put (ca := T.came + 1) (n := T.n) (Fr.of_but rfl y3) o11 y2
    have pl := O.plt
    have V1 := y3.var V1 (show h.sz ≠ T.p by omega)
    have V2 := y3.var V2 (show h1.sz ≠ T.p by omega)
    have W7 := y3.var W7 (show h4.sz ≠ T.p by omega)
    have W8' := y3.var W8' (show h5.sz ≠ T.p by omega)
    have B10 : ∀ {h'}, Ext h11 h' → loadA h' false 1 (.ptr h.sz 0 0 0) = some (.str cls) := fun e => (V1.ext e).get rfl
    have B11 : ∀ {h'}, Ext h11 h' → loadA h' false 1 (.ptr h.sz 0 0 1) = some vals := fun e => (V1.ext e).get rfl
    have A7 : ∀ {h'}, Ext h11 h' → loadA h' true 2 (.ptr h4.sz 0 0 0) = some (sk k) := fun e => (W7.ext e).all rfl
    have L0 : ∀ {h'}, Ext h11 h' → loadA h' false 1 (.ptr T.p 0 0 0) = some (.map T.cm) := fun e => (y2.ext e).get rfl
    have L2 : ∀ {h'}, Ext h11 h' → loadA h' false 1 (.ptr T.p 0 0 2) = some (.int .i64 ((T.came + 1 : Nat) : Int)) := fun e => (y2.ext e).get rfl
    have sA7 : AV.same (sk k) (sk k) = true := same_agg (sames_cons (same_str _) (sames_cons (same_str _) sames_nil))
    have f0 := Ext.refl h11
    refine z_nil ?_; refine z_fadr ?_; refine z_of (L0 f0) ?_; refine z_of (A7 f0) ?_; refine z_fadr ?_; refine z_of (B10 f0) ?_; refine z_fadr ?_; refine z_of (B11 f0) ?_; refine z_nil ?_; refine z_fadr ?_; refine z_of (L2 f0) ?_
    obtain ⟨h12, m1, M, f2, o12, z12⟩ := mkmap_v bk2 o11
    refine z_p m1 ?_
    refine z_same (L0 f2) (same_map _) ?_
    refine z_same (A7 f2) sA7 ?_
    refine z_same (B10 f2) (same_str _) ?_
    refine z_same (B11 f2) sv ?_
    refine z_same (L2 f2) (same_int _ _) ?_
    have F11 : Fr (W8 τ) h h11 := F10.trans (Fr.of_but (by show (τ T.p).own; rw [O.tp]; trivial) y3)
    refine hv h12 o12 (fr_ext F11 f2) _ fun h13 v f3 o13 lv' sv' hG => ?_
    have f3' := ext_two f2 f3
    refine z_same (L0 f3') (same_map _) ?_
    refine z_same (A7 f3') sA7 ?_
    refine z_same (B10 f3') (same_str _) ?_
    refine z_same (L2 f3') (same_int _ _) ?_
    refine z_of (build2 rfl lv') ?_
    refine z_of (build4 rfl lv' rfl rfl) ?_
    obtain ⟨h14, g1, V14, f4, o14, z14⟩ := box_v (n := 4) (v := .agg [.str cls, v, .int .i64 ((T.came + 1 : Nat) : Int), .map h11.sz]) o13 rfl (by decide) (by simp only [AV.cells, allLeaf, lv']; rfl)
    have V14 : Var h14 h13.sz [.str cls, v, .int .i64 ((T.came + 1 : Nat) : Int), .map h11.sz] := V14
    refine z_p g1 ?_
    have f4' := ext_two f3' f4
    refine z_same (L0 f4') (same_map _) ?_
    refine z_same (A7 f4') sA7 ?_
    refine z_same (B10 f4') (same_str _) ?_
    refine z_same (B11 f4') sv ?_
    refine z_same (L2 f4') (same_int _ _) ?_
    have O14 := O11.ext f4' o14
    obtain ⟨h15, u1, u2, u3, u4, u5⟩ := O14.cs.upd sks k (.ptr h13.sz 0 0 0)
    refine z_u u1 ?_
    have hs1 : h10.sz = h11.sz := y5.symm
    have hs2 : h11.sz < h13.sz := by have := f3.1; omega
    have O15 : TO (tagC τ h13.sz h11.sz k) h15 { T with came := T.came + 1, cs := upG T.cs k ⟨h13.sz, h11.sz, cls, v, T.came + 1, []⟩ } := O14.addc (k := k) (x := ⟨h13.sz, h11.sz, cls, v, T.came + 1, []⟩) hx (O.hi h13.sz (by omega)) (O.hi h11.sz (by omega)) (by show h13.sz ≠ h11.sz; omega) V14 ((Fr.of_ext (X := fun _ => False) (ext_two f3 f4)).kmap M id) rfl sv' (Fr.of_but rfl u2) (u4 o14) u5
    have F15 : Fr (W8 τ) h h15 := (fr_ext F11 f4').trans (Fr.of_but (by show (τ T.cm).own; rw [O.tc]; trivial) u2)
    have tout : ∀ {a}, h.sz ≤ a → a < h10.sz → tagC τ h13.sz h11.sz k a = .out := fun {a} t l => by rw [tagC_ne (by omega) (by omega)]; exact O.hi a t
    have cml : T.cm < h.sz := O.cs.lt O.ok
    have vr : ∀ {a c}, Var h11 a c → h.sz ≤ a → Var h15 a c := fun {a c} V t => u2.var (V.ext f4') (show a ≠ T.cm by omega)
    have kx : lkG (upG T.cs k ⟨h13.sz, h11.sz, cls, v, T.came + 1, []⟩) k = some ⟨h13.sz, h11.sz, cls, v, T.came + 1, []⟩ := by rw [lkG_up, if_pos rfl]
    have Fh : ∀ {h''}, Fr (W8 (tagC τ h13.sz h11.sz k)) h15 h'' → Fr (W8 τ) h h'' := fun {h''} F => by
      refine fr_acc O.ok F15 F fun j w => ?_
      by_cases q : j < h.sz
      · left
        have w : (tagC τ h13.sz h11.sz k j).own := w
        rw [tagC_ne (by omega) (by omega)] at w; exact w
      · right; omega
    have h15s : h15.sz = h14.sz := u3
    refine p20 (GM := GM) (n := n) (K := K) (T := { T with came := T.came + 1, cs := upG T.cs k ⟨h13.sz, h11.sz, cls, v, T.came + 1, []⟩ }) O15 kx (vr V2 (by omega)) (vr W7 (by omega)) (vr W8' (by omega)) (tout (by omega) (by omega)) (tout (by omega) (by omega)) (tout (by omega) (by omega)) hn (show T.came + 1 < 1000000 by omega) se sn (fun hh oo FF => ht hh oo (Fh FF)) gm fun h' τ' y O' p1 p2 p3 p4 p5 p6 => ?_
    have ec : upC T.came T.cs k = T.came + 1 := by unfold upC; rw [hx]; rfl
    have E1 : justT T k r ⟨h13.sz, h11.sz, cls, v, T.came + 1, []⟩ y = { T with came := upC (T.came + 1) T.rs r, n := T.n + (if (lkG ([] : List (BK × Unit)) r).isNone then 1 else 0), cs := upG (upG T.cs k ⟨h13.sz, h11.sz, cls, v, T.came + 1, []⟩) k (setC ⟨h13.sz, h11.sz, cls, v, T.came + 1, []⟩ (upG [] r ())), rs := putG RD.ofs setR T.rs r k y } := by
      unfold justT
      have : putG CD.bys setC T.cs k r ⟨h13.sz, h11.sz, cls, v, T.came + 1, []⟩ = upG (upG T.cs k ⟨h13.sz, h11.sz, cls, v, T.came + 1, []⟩) k (setC ⟨h13.sz, h11.sz, cls, v, T.came + 1, []⟩ (upG [] r ())) := by unfold putG; rw [hx, upG_up]; rfl
      rw [hx, ec, this]; rfl
    have tag' : ∀ j, j < h13.sz → h.sz ≤ j → j ≠ h11.sz → τ' j = .out := fun j j1 j2 j3 => by
      rw [p4 j (by omega), tagC_ne (by omega) j3]; exact O.hi j j2
    refine k1 hcls hb1 hb2' h' τ' ⟨h13.sz, h11.sz, cls, v, T.came + 1, []⟩ y (by rw [E1]; exact O') ⟨rfl, p1, rfl, by rw [ec]; exact p2⟩ (fun _ => ⟨rfl, h12.sz, h13.sz, ?_, by omega, by have := p6.sz; omega, fun j j1 j2 => tag' j j2 (by omega) (by omega)⟩) (fun q => ?_) (fun j hj => ?_) (Fh p6)
    · refine gv h13 h' _ _ _ hG fun j o j1 j2 g => ?_
      have ho : ¬ W8 (tagC τ h13.sz h11.sz k) j := by
        show ¬ (tagC τ h13.sz h11.sz k j).own
        rw [tagC_ne (by omega) (by omega), O.hi j (by omega)]; exact id
      exact p6.keep j o ho (u2.keep j o (show j ≠ T.cm by omega) (f4.2 j o g))
    · obtain ⟨c1, lo, hi, c2, c3, c4, c5⟩ := p3 q
      exact ⟨c1, lo, hi, c2, by omega, c4, c5⟩
    · rw [p4 j (by omega), tagC_ne (by omega) (by omega)]
end
end Go.Proofs.Ytbamgdknkhhikaa
namespace Go.Proofs.Ytbamgdknkhhikaa
open Go.Ab
set_option linter.unusedSimpArgs false
set_option linter.unusedVariables false
section
variable {h : AHeap} {K : Kont} {n : Nat} {cls : Str} {core : Int}
theorem res1 {a v : AV} {m : Nat} {K : Kont} {h : AHeap} (e : loadA h true m a = some v) (s : K v h = true) : optR (resV h [(a, some (true, m))]) h K = true := by
  have : resV h [(a, some (true, m))] = some [v] := by simp only [resV, e]
  rw [this]; exact s
end
end Go.Proofs.Ytbamgdknkhhikaa
