/-
  The functions as functions of Lean (printed by wip/tools/gen2.py).
-/
import Derived.Test.YtgmdelacokkenaaGreatDoorAbDn
namespace Go.Proofs.YtgmdelacokkenaaGreatDoor
open Go.Ab
set_option linter.unusedVariables false

/-! ### 5 proctor/proctorlaw9.when -/
noncomputable def p5_4001 (call : CallFn) (n : Nat) (x10 : AV) (h : AHeap) (K : Kont) : Bool :=
  extK 0 x10 fun v4 => extK 1 x10 fun v5 => extK 2 x10 fun v6 => allocK h [.nilSlc, .nilSlc, .nilSlc] 3 fun v7 h => storeNK h 3 v7 v4 fun h => fadrK 1 v7 fun v9 => loadK h v9 fun v10 => lenK v10 fun v11 => eqlK v11 (.int .i64 0) fun v12 => condK v12 (K .nilSlc h) (fadrK 1 v7 fun v13 => loadK h v13 fun v14 => iadrK h 8 v14 (.int .i64 0) fun v15 => fadrK 6 v15 fun v16 => loadK h v16 fun v17 => K v17 h)
noncomputable def s5 (call : CallFn) (n : Nat) (x0 : AV) (h : AHeap) (K : Kont) : Bool :=
  addK (.str [114, 117, 108, 101, 32, 34, 114, 34, 32, 119, 104, 101, 110, 32]) x0 fun v1 => addK v1 (.str [32, 116, 104, 101, 110, 32, 101, 110, 100]) fun v2 => call (.func 12) [v2] h <| pz K fun v3 h => p5_4001 call n v3 h K

/-! ### 6 proctor/proctorlaw9.wakes -/
noncomputable def p6_6003 (call : CallFn) (n : Nat) (x37 x39 : AV) (h : AHeap) (K : Kont) : Bool :=
  gK x37 true (notK x39) fun v31 => pickK x37 v31 (.bool false) fun v32 => K v32 h
noncomputable def p6_6002 (call : CallFn) (n : Nat) (x37 x38 : AV) (h : AHeap) (K : Kont) : Bool :=
  gP x37 true (fun k => call (.func 13) [x38] h (pz K k)) h fun v30 h => p6_6003 call n x37 v30 h K
noncomputable def p6_6001 (call : CallFn) (n : Nat) (x31 x35 : AV) (h : AHeap) (K : Kont) : Bool :=
  pickK x31 x35 (.bool false) fun v28 => gP v28 true (fun k => call (.func 5) [(.str [40, 81, 40, 41, 32, 111, 114, 32, 82, 40, 41, 41])] h (pz K k)) h fun v29 h => p6_6002 call n v28 v29 h K
noncomputable def p6_4002 (call : CallFn) (n : Nat) (x5 : AV) (h : AHeap) (K : Kont) : Bool :=
  extK 0 x5 fun v3 => extK 1 x5 fun v4 => eqlK v4 (.int .i64 0) fun v5 => gK v5 true (optK (some v3)) fun v6 => gK v5 true (lenK v6) fun v7 => gK v5 true (eqlK v7 (.int .i64 4)) fun v8 => pickK v5 v8 (.bool false) fun v9 => gK v9 true (optK (some v3)) fun v10 => gK v9 true (iadrK h 1 v10 (.int .i64 3)) fun v11 => gK v9 true (loadK h v11) fun v12 => gK v9 true (lenK v12) fun v13 => gK v9 true (eqlK v13 (.int .i64 3)) fun v14 => pickK v9 v14 (.bool false) fun v15 => gK v15 true (optK (some v3)) fun v16 => gK v15 true (iadrK h 1 v16 (.int .i64 1)) fun v17 => gK v15 true (loadK h v17) fun v18 => gK v15 true (iadrK h 19 v18 (.int .i64 2)) fun v19 => gK v15 true (fadrK 2 v19) fun v20 => gK v15 true (loadK h v20) fun v21 => gK v15 true (eqlK v21 (.str [84])) fun v22 => pickK v15 v22 (.bool false) fun v23 => gK v23 true (optK (some v3)) fun v24 => gK v23 true (iadrK h 1 v24 (.int .i64 0)) fun v25 => gK v23 true (loadK h v25) fun v26 => gP v23 true (fun k => call (.func 13) [v26] h (pz K k)) h fun v27 h => p6_6001 call n v23 v27 h K
noncomputable def p6_4001 (call : CallFn) (n : Nat) (x4 : AV) (h : AHeap) (K : Kont) : Bool :=
  call (.func 4) [x4] h <| pz K fun v2 h => p6_4002 call n v2 h K
noncomputable def s6 (call : CallFn) (n : Nat) (h : AHeap) (K : Kont) : Bool :=
  call (.func 5) [(.str [80, 40, 41, 32, 40, 81, 40, 41, 32, 111, 114, 32, 82, 40, 41, 41, 32, 40, 83, 40, 41, 32, 111, 114, 32, 84, 40, 41, 41])] h <| pz K fun v1 h => p6_4001 call n v1 h K

/-! ### 8 proctor/desugar.need -/
noncomputable def s8 (call : CallFn) (n : Nat) (x0 : AV) (h : AHeap) (K : Kont) : Bool :=
  notK x0 fun v1 => condK v1 (buildK [] [] fun v2 => optK (mkifA 30 v2) fun v3 => pncK K v3 h) (K (.tup []) h)

/-! ### 9 proctor/desugar.shallow -/
noncomputable def p9_12001 (call : CallFn) (n : Nat) (x14 : AV) (h : AHeap) (K : Kont) : Bool :=
  notK x14 fun v9 => K v9 h
noncomputable def s9 (call : CallFn) (n : Nat) (x0 x1 : AV) (h : AHeap) (K : Kont) : Bool :=
  boxK h x1 fun v1 h => lenK x0 fun v2 => gtrK v2 (.int .i64 0) fun v3 => gK v3 true (loadK h v1) fun v4 => gK v3 true (gtrK v4 (.int .i64 30)) fun v5 => pickK v3 v5 (.bool false) fun v6 => condK v6 (K (.bool false) h) (optK (some (.fn (.func 15) [] [v1])) fun v7 => call (.func 14) [x0, v7] h <| pz K fun v8 h => p9_12001 call n v8 h K)

/-! ### 10 proctor/desugar.alternatives -/
noncomputable def p10_27 (call : CallFn) (n : Nat) (x3 : AV) (h : AHeap) (K : Kont) : Bool :=
  allocK h [.nilSlc] 1 fun v25 h => allocK h [.nilFn] 1 fun v26 h => optK (some (.fn (.func 19) [] [x3, v26])) fun v27 => storeK h v26 v27 fun h => loadK h v26 fun v29 => optK (some (.fn (.func 21) [] [v25])) fun v30 => callV call v29 [(.int .i64 0), .nilSlc, v30] h <| pz K fun v31 h => loadK h v25 fun v32 => K v32 h
noncomputable def b10_10 (call : CallFn) (n : Nat) (B10 : F5) (x3 x4 x9 x10 x11 : AV) (h : AHeap) (K : Kont) : Bool :=
  lssK x11 x10 fun v3 => condK v3 (iadrK h 19 x9 x11 fun v4 => loadGK h 19 v4 fun v5 => allocK h [.int .i64 0, .str [], .str [], .nilSlc, .nilSlc, .nilSlc, .nilSlc, .nilSlc, .int .i64 0, .str [], .int .i64 0, .bool false, .int .i64 0, .str [], .nilSlc, .nilSlc, .str [], .str [], .nilSlc] 19 fun v6 h => storeNK h 19 v6 v5 fun h => loadK h x3 fun v8 => loadGK h 19 v6 fun v9 => call (.func 18) [v9] h <| pz K fun v10 h => loadK h x3 <| sameK v8 <| optPK (bsliceV h 1 1 [.nilSlc] [(0, v10)]) fun v11 h => loadK h x3 <| sameK v8 <| loadGK h 19 v6 <| sameK v9 <| appK h 1 24 v8 v11 fun v12 h => storeK h x3 v12 fun h => loadK h x3 fun v14 => loadK h x3 fun v15 => lenK v15 fun v16 => subK v16 (.int .i64 1) fun v17 => iadrK h 1 v14 v17 fun v18 => loadK h v18 fun v19 => lenK v19 fun v20 => optK (binA .mul x4 v20) fun v21 => leqK v21 (.int .i64 512) fun v22 => call (.func 8) [v22] h <| pz K fun v23 h => addK x11 (.int .i64 1) fun v24 => B10 x3 v21 x9 x10 v24 h) (p10_27 call n x3 h K)
noncomputable def l10_10 (call : CallFn) (n : Nat) : Nat → AV → AV → AV → AV → AV → AHeap → Kont → Bool :=
  @Nat.rec (fun _ => AV → AV → AV → AV → AV → AHeap → Kont → Bool) (fun _ _ _ _ _ _ _ => false) (fun _ ih x3 x4 x9 x10 x11 h K => b10_10 call n (fun x3 x4 x9 x10 x11 h => ih x3 x4 x9 x10 x11 h K) x3 x4 x9 x10 x11 h K)
noncomputable def s10 (call : CallFn) (n : Nat) (x0 : AV) (h : AHeap) (K : Kont) : Bool :=
  allocK h [.nilSlc] 1 fun v1 h => lenK x0 fun v2 => l10_10 call n n v1 (.int .i64 1) x0 v2 (.int .i64 0) h K

/-! ### 11 proctor/desugar.all -/
noncomputable def p11_20001 (call : CallFn) (n : Nat) (B8 : F4) (x6 x7 x8 x12 x14 : AV) (h : AHeap) (K : Kont) : Bool :=
  optPK (bsliceV h 1 19 [.int .i64 0, .str [], .str [], .nilSlc, .nilSlc, .nilSlc, .nilSlc, .nilSlc, .int .i64 0, .str [], .int .i64 0, .bool false, .int .i64 0, .str [], .nilSlc, .nilSlc, .str [], .str [], .nilSlc] [(0, x14)]) fun v9 h => appK h 19 328 x12 v9 fun v10 h => addK x8 (.int .i64 1) fun v11 => B8 v10 x6 x7 v11 h
noncomputable def b11_8 (call : CallFn) (n : Nat) (B8 : F4) (x3 x6 x7 x8 : AV) (h : AHeap) (K : Kont) : Bool :=
  lssK x8 x7 fun v2 => condK v2 (iadrK h 19 x6 x8 fun v3 => loadGK h 19 v3 fun v4 => allocK h [.int .i64 0, .str [], .str [], .nilSlc, .nilSlc, .nilSlc, .nilSlc, .nilSlc, .int .i64 0, .str [], .int .i64 0, .bool false, .int .i64 0, .str [], .nilSlc, .nilSlc, .str [], .str [], .nilSlc] 19 fun v5 h => storeNK h 19 v5 v4 fun h => loadGK h 19 v5 fun v7 => call (.func 23) [v7] h <| pz K fun v8 h => p11_20001 call n B8 x6 x7 x8 x3 v8 h K) (K x3 h)
noncomputable def l11_8 (call : CallFn) (n : Nat) : Nat → AV → AV → AV → AV → AHeap → Kont → Bool :=
  @Nat.rec (fun _ => AV → AV → AV → AV → AHeap → Kont → Bool) (fun _ _ _ _ _ _ => false) (fun _ ih x3 x6 x7 x8 h K => b11_8 call n (fun x3 x6 x7 x8 h => ih x3 x6 x7 x8 h K) x3 x6 x7 x8 h K)
noncomputable def s11 (call : CallFn) (n : Nat) (x0 : AV) (h : AHeap) (K : Kont) : Bool :=
  lenK x0 fun v1 => l11_8 call n n .nilSlc x0 v1 (.int .i64 0) h K

/-! ### 12 proctor/parse.Parse -/
noncomputable def p12_6001 (call : CallFn) (n : Nat) (x2 x5 x11 : AV) (h : AHeap) (K : Kont) : Bool :=
  extK 0 x11 fun v5 => extK 1 x11 fun v6 => neqK v6 (.int .i64 0) fun v7 => condK v7 (buildK [.nilSlc, .nilSlc, .nilSlc] [] fun v8 => storeNK h 3 x2 v8 fun h => optR (resV h [(x2, some (true, 3)), (v5, none), (v6, none)]) h K) (loadGK h 3 x5 fun v10 => storeNK h 3 x2 v10 fun h => optR (resV h [(x2, some (true, 3)), ((.int .i64 0), none), ((.int .i64 0), none)]) h K)
noncomputable def s12 (call : CallFn) (n : Nat) (x0 : AV) (h : AHeap) (K : Kont) : Bool :=
  allocK h [.nilSlc, .nilSlc, .nilSlc] 3 fun v1 h => allocK h [.nilSlc, .nilSlc, .nilSlc] 3 fun v2 h => optK (some (.fn (.func 25) [] [v2])) fun v3 => call (.func 24) [x0, v3] h <| pz K fun v4 h => p12_6001 call n v1 v2 v4 h K

/-! ### 13 proctor/desugar.Core -/
noncomputable def s13 (call : CallFn) (n : Nat) (x0 : AV) (h : AHeap) (K : Kont) : Bool :=
  call (.func 27) [x0] h <| pz K fun v1 h => K v1 h

/-! ### 14 slices.ContainsFunc[[]proctor/api.Cond,proctor/api.Cond] -/
noncomputable def p14_4001 (call : CallFn) (n : Nat) (x7 : AV) (h : AHeap) (K : Kont) : Bool :=
  geqK x7 (.int .i64 0) fun v2 => K v2 h
noncomputable def s14 (call : CallFn) (n : Nat) (x0 x1 : AV) (h : AHeap) (K : Kont) : Bool :=
  call (.func 28) [x0, x1] h <| pz K fun v1 h => p14_4001 call n v1 h K

/-! ### 15 proctor/desugar.shallow$1 -/
noncomputable def p15_4003 (call : CallFn) (n : Nat) (x18 x22 : AV) (h : AHeap) (K : Kont) : Bool :=
  pickK x18 (.bool true) x22 fun v19 => K v19 h
noncomputable def p15_4002 (call : CallFn) (n : Nat) (x1 x2 x10 x15 : AV) (h : AHeap) (K : Kont) : Bool :=
  gK x10 false (notK x15) fun v13 => pickK x10 (.bool true) v13 fun v14 => gK v14 false (fadrK 7 x2) fun v15 => gK v14 false (loadK h v15) fun v16 => gK v14 false (optK (some (.fn (.func 17) [] [x1]))) fun v17 => gP v14 false (fun k => call (.func 16) [v16, v17] h (pz K k)) h fun v18 h => p15_4003 call n v14 v18 h K
noncomputable def p15_4001 (call : CallFn) (n : Nat) (x1 x2 x8 : AV) (h : AHeap) (K : Kont) : Bool :=
  notK x8 fun v7 => gK v7 false (fadrK 6 x2) fun v8 => gK v7 false (loadK h v8) fun v9 => gK v7 false (loadK h x1) fun v10 => gK v7 false (addK v10 (.int .i64 1)) fun v11 => gP v7 false (fun k => call (.func 9) [v9, v11] h (pz K k)) h fun v12 h => p15_4002 call n x1 x2 v7 v12 h K
noncomputable def s15 (call : CallFn) (n : Nat) (x0 x1 : AV) (h : AHeap) (K : Kont) : Bool :=
  optPK (boxA h (none) 19 x0) fun v1 h => fadrK 5 v1 fun v2 => loadK h v2 fun v3 => loadK h x1 fun v4 => addK v4 (.int .i64 1) fun v5 => call (.func 9) [v3, v5] h <| pz K fun v6 h => p15_4001 call n x1 v1 v6 h K

/-! ### 16 slices.ContainsFunc[[][]proctor/api.Cond,[]proctor/api.Cond] -/
noncomputable def p16_4001 (call : CallFn) (n : Nat) (x7 : AV) (h : AHeap) (K : Kont) : Bool :=
  geqK x7 (.int .i64 0) fun v2 => K v2 h
noncomputable def s16 (call : CallFn) (n : Nat) (x0 x1 : AV) (h : AHeap) (K : Kont) : Bool :=
  call (.func 29) [x0, x1] h <| pz K fun v1 h => p16_4001 call n v1 h K

/-! ### 17 proctor/desugar.shallow$1$1 -/
noncomputable def p17_4001 (call : CallFn) (n : Nat) (x7 : AV) (h : AHeap) (K : Kont) : Bool :=
  notK x7 fun v4 => K v4 h
noncomputable def s17 (call : CallFn) (n : Nat) (x0 x1 : AV) (h : AHeap) (K : Kont) : Bool :=
  loadK h x1 fun v1 => addK v1 (.int .i64 1) fun v2 => call (.func 9) [x0, v2] h <| pz K fun v3 h => p17_4001 call n v3 h K

/-! ### 18 proctor/desugar.choices -/
noncomputable def p18_11002 (call : CallFn) (n : Nat) (x19 : AV) (h : AHeap) (K : Kont) : Bool :=
  optPK (bsliceV h 1 1 [.nilSlc] [(0, x19)]) fun v9 h => K v9 h
noncomputable def p18_11001 (call : CallFn) (n : Nat) (x18 : AV) (h : AHeap) (K : Kont) : Bool :=
  call (.func 30) [x18] h <| pz K fun v8 h => p18_11002 call n v8 h K
noncomputable def p18_27002 (call : CallFn) (n : Nat) (x37 : AV) (h : AHeap) (K : Kont) : Bool :=
  optPK (bsliceV h 1 19 [.int .i64 0, .str [], .str [], .nilSlc, .nilSlc, .nilSlc, .nilSlc, .nilSlc, .int .i64 0, .str [], .int .i64 0, .bool false, .int .i64 0, .str [], .nilSlc, .nilSlc, .str [], .str [], .nilSlc] [(0, x37)]) fun v23 h => optPK (bsliceV h 1 1 [.nilSlc] [(0, v23)]) fun v24 h => K v24 h
noncomputable def p18_27001 (call : CallFn) (n : Nat) (x36 : AV) (h : AHeap) (K : Kont) : Bool :=
  call (.func 31) [x36] h <| pz K fun v22 h => p18_27002 call n v22 h K
noncomputable def p18_51002 (call : CallFn) (n : Nat) (B39 : F5) (x4 x48 x49 x50 x54 x58 : AV) (h : AHeap) (K : Kont) : Bool :=
  optPK (bsliceV h 1 19 [.int .i64 0, .str [], .str [], .nilSlc, .nilSlc, .nilSlc, .nilSlc, .nilSlc, .int .i64 0, .str [], .int .i64 0, .bool false, .int .i64 0, .str [], .nilSlc, .nilSlc, .str [], .str [], .nilSlc] [(0, x58)]) fun v39 h => appK h 19 328 x54 v39 fun v40 h => addK x50 (.int .i64 1) fun v41 => B39 x4 v40 x48 x49 v41 h
noncomputable def p18_51001 (call : CallFn) (n : Nat) (B39 : F5) (x4 x48 x49 x50 x54 x57 : AV) (h : AHeap) (K : Kont) : Bool :=
  call (.func 31) [x57] h <| pz K fun v38 h => p18_51002 call n B39 x4 x48 x49 x50 x54 v38 h K
noncomputable def p18_52 (call : CallFn) (n : Nat) (x5 : AV) (h : AHeap) (K : Kont) : Bool :=
  optPK (bsliceV h 1 1 [.nilSlc] [(0, x5)]) fun v42 h => K v42 h
noncomputable def b18_39 (call : CallFn) (n : Nat) (B39 : F5) (x4 x5 x48 x49 x50 : AV) (h : AHeap) (K : Kont) : Bool :=
  lssK x50 x49 fun v34 => condK v34 (iadrK h 1 x48 x50 fun v35 => loadK h v35 fun v36 => call (.func 20) [v36, x4] h <| pz K fun v37 h => p18_51001 call n B39 x4 x48 x49 x50 x5 v37 h K) (p18_52 call n x5 h K)
noncomputable def l18_39 (call : CallFn) (n : Nat) : Nat → AV → AV → AV → AV → AV → AHeap → Kont → Bool :=
  @Nat.rec (fun _ => AV → AV → AV → AV → AV → AHeap → Kont → Bool) (fun _ _ _ _ _ _ _ => false) (fun _ ih x4 x5 x48 x49 x50 h K => b18_39 call n (fun x4 x5 x48 x49 x50 h => ih x4 x5 x48 x49 x50 h K) x4 x5 x48 x49 x50 h K)
noncomputable def p18_38001 (call : CallFn) (n : Nat) (x4 x5 x48 : AV) (h : AHeap) (K : Kont) : Bool :=
  lenK x48 fun v33 => l18_39 call n n x4 x5 x48 v33 (.int .i64 0) h K
noncomputable def p18_33001 (call : CallFn) (n : Nat) (x1 x44 : AV) (h : AHeap) (K : Kont) : Bool :=
  call (.func 30) [x44] h <| pz K fun v29 h => fadrK 5 x1 fun v30 => loadK h v30 fun v31 => call (.func 10) [v31] h <| pz K fun v32 h => p18_38001 call n v29 .nilSlc v32 h K
noncomputable def p18_91 (call : CallFn) (n : Nat) (x1 : AV) (h : AHeap) (K : Kont) : Bool :=
  loadGK h 19 x1 fun v54 => optPK (bsliceV h 1 19 [.int .i64 0, .str [], .str [], .nilSlc, .nilSlc, .nilSlc, .nilSlc, .nilSlc, .int .i64 0, .str [], .int .i64 0, .bool false, .int .i64 0, .str [], .nilSlc, .nilSlc, .str [], .str [], .nilSlc] [(0, v54)]) fun v55 h => optPK (bsliceV h 1 1 [.nilSlc] [(0, v55)]) fun v56 h => K v56 h
noncomputable def p18_85001 (call : CallFn) (n : Nat) (B72 : F4) (x80 x81 x82 x86 x88 : AV) (h : AHeap) (K : Kont) : Bool :=
  appK h 1 24 x86 x88 fun v65 h => lenK v65 fun v66 => leqK v66 (.int .i64 512) fun v67 => call (.func 8) [v67] h <| pz K fun v68 h => addK x82 (.int .i64 1) fun v69 => B72 v65 x80 x81 v69 h
noncomputable def b18_72 (call : CallFn) (n : Nat) (B72 : F4) (x9 x80 x81 x82 : AV) (h : AHeap) (K : Kont) : Bool :=
  lssK x82 x81 fun v61 => condK v61 (iadrK h 1 x80 x82 fun v62 => loadK h v62 fun v63 => call (.func 10) [v63] h <| pz K fun v64 h => p18_85001 call n B72 x80 x81 x82 x9 v64 h K) (K x9 h)
noncomputable def l18_72 (call : CallFn) (n : Nat) : Nat → AV → AV → AV → AV → AHeap → Kont → Bool :=
  @Nat.rec (fun _ => AV → AV → AV → AV → AHeap → Kont → Bool) (fun _ _ _ _ _ _ => false) (fun _ ih x9 x80 x81 x82 h K => b18_72 call n (fun x9 x80 x81 x82 h => ih x9 x80 x81 x82 h K) x9 x80 x81 x82 h K)
set_option maxRecDepth 100000 in
noncomputable def s18 (call : CallFn) (n : Nat) (x0 : AV) (h : AHeap) (K : Kont) : Bool :=
  optPK (boxA h (none) 19 x0) fun v1 h => fadrK 0 v1 fun v2 => loadK h v2 fun v3 => eqlK v3 (.int .i64 2) fun v4 => condK v4 (fadrK 5 v1 fun v5 => loadK h v5 fun v6 => call (.func 10) [v6] h <| pz K fun v7 h => p18_11001 call n v7 h K) (eqlK v3 (.int .i64 3) fun v10 => condK v10 (fadrK 5 v1 fun v11 => loadK h v11 fun v12 => call (.func 10) [v12] h <| pz K fun v13 h => lenK v13 fun v14 => eqlK v14 (.int .i64 1) fun v15 => condK v15 (iadrK h 1 v13 (.int .i64 0) fun v16 => loadK h v16 fun v17 => buildK [.int .i64 0, .str [], .str [], .nilSlc, .nilSlc, .nilSlc, .nilSlc, .nilSlc, .int .i64 0, .str [], .int .i64 0, .bool false, .int .i64 0, .str [], .nilSlc, .nilSlc, .str [], .str [], .nilSlc] [(0, 1, (.int .i64 3)), (5, 1, v17)] fun v18 => optPK (bsliceV h 1 19 [.int .i64 0, .str [], .str [], .nilSlc, .nilSlc, .nilSlc, .nilSlc, .nilSlc, .int .i64 0, .str [], .int .i64 0, .bool false, .int .i64 0, .str [], .nilSlc, .nilSlc, .str [], .str [], .nilSlc] [(0, v18)]) fun v19 h => optPK (bsliceV h 1 1 [.nilSlc] [(0, v19)]) fun v20 h => K v20 h) (call (.func 30) [v13] h <| pz K fun v21 h => p18_27001 call n v21 h K)) (eqlK v3 (.int .i64 4) fun v25 => condK v25 (fadrK 6 v1 fun v26 => loadK h v26 fun v27 => call (.func 10) [v27] h <| pz K fun v28 h => p18_33001 call n v1 v28 h K) (eqlK v3 (.int .i64 7) fun v43 => condK v43 (fadrK 5 v1 fun v44 => loadK h v44 fun v45 => call (.func 10) [v45] h <| pz K fun v46 h => lenK v46 fun v47 => eqlK v47 (.int .i64 1) fun v48 => call (.func 8) [v48] h <| pz K fun v49 h => iadrK h 1 v46 (.int .i64 0) fun v50 => loadK h v50 fun v51 => fadrK 5 v1 fun v52 => storeK h v52 v51 fun h => p18_91 call n v1 h K) (eqlK v3 (.int .i64 5) fun v57 => condK v57 (fadrK 7 v1 fun v58 => loadK h v58 fun v59 => lenK v59 fun v60 => l18_72 call n n .nilSlc v59 v60 (.int .i64 0) h K) (p18_91 call n v1 h K)))))

/-! ### 19 proctor/desugar.alternatives$1 -/
noncomputable def b19_11 (call : CallFn) (n : Nat) (B11 : F7) (x0 x1 x2 x4 x20 x21 x22 : AV) (h : AHeap) (K : Kont) : Bool :=
  lssK x22 x21 fun v9 => condK v9 (iadrK h 1 x20 x22 fun v10 => loadK h v10 fun v11 => loadK h x4 fun v12 => addK x0 (.int .i64 1) fun v13 => call (.func 20) [x1, v11] h <| pz K fun v14 h => loadK h x4 <| sameK v12 <| callV call v12 [v13, v14, x2] h <| pz K fun v15 h => addK x22 (.int .i64 1) fun v16 => B11 x0 x1 x2 x4 x20 x21 v16 h) (K (.tup []) h)
noncomputable def l19_11 (call : CallFn) (n : Nat) : Nat → AV → AV → AV → AV → AV → AV → AV → AHeap → Kont → Bool :=
  @Nat.rec (fun _ => AV → AV → AV → AV → AV → AV → AV → AHeap → Kont → Bool) (fun _ _ _ _ _ _ _ _ _ => false) (fun _ ih x0 x1 x2 x4 x20 x21 x22 h K => b19_11 call n (fun x0 x1 x2 x4 x20 x21 x22 h => ih x0 x1 x2 x4 x20 x21 x22 h K) x0 x1 x2 x4 x20 x21 x22 h K)
noncomputable def p19_8 (call : CallFn) (n : Nat) (x0 x1 x2 x3 x4 : AV) (h : AHeap) (K : Kont) : Bool :=
  loadK h x3 fun v5 => iadrK h 1 v5 x0 fun v6 => loadK h v6 fun v7 => lenK v7 fun v8 => l19_11 call n n x0 x1 x2 x4 v7 v8 (.int .i64 0) h K
noncomputable def s19 (call : CallFn) (n : Nat) (x0 x1 x2 x3 x4 : AV) (h : AHeap) (K : Kont) : Bool :=
  loadK h x3 fun v1 => lenK v1 fun v2 => eqlK x0 v2 fun v3 => condK v3 (callV call x2 [x1] h <| pz K fun v4 h => K (.tup []) h) (p19_8 call n x0 x1 x2 x3 x4 h K)

/-! ### 20 proctor/desugar.joined[proctor/api.Cond] -/
noncomputable def p20_4001 (call : CallFn) (n : Nat) (x1 x6 : AV) (h : AHeap) (K : Kont) : Bool :=
  appK h 19 328 x6 x1 fun v2 h => K v2 h
noncomputable def s20 (call : CallFn) (n : Nat) (x0 x1 : AV) (h : AHeap) (K : Kont) : Bool :=
  call (.func 32) [x0] h <| pz K fun v1 h => p20_4001 call n x1 v1 h K

/-! ### 21 proctor/desugar.alternatives$2 -/
noncomputable def p21_2001 (call : CallFn) (n : Nat) (x0 x1 x4 : AV) (h : AHeap) (K : Kont) : Bool :=
  leqK x4 (.int .i64 64) fun v2 => call (.func 8) [v2] h <| pz K fun v3 h => loadK h x1 fun v4 => optPK (bsliceV h 1 1 [.nilSlc] [(0, x0)]) fun v5 h => appK h 1 24 v4 v5 fun v6 h => storeK h x1 v6 fun h => K (.tup []) h
noncomputable def s21 (call : CallFn) (n : Nat) (x0 x1 : AV) (h : AHeap) (K : Kont) : Bool :=
  call (.func 22) [x0] h <| pz K fun v1 h => p21_2001 call n x0 x1 v1 h K

/-! ### 22 proctor/desugar.count -/
noncomputable def p22_36001 (call : CallFn) (n : Nat) (B8 : F4) (B24 : F7) (x8 x9 x10 x25 x26 x27 x31 x33 : AV) (h : AHeap) (K : Kont) : Bool :=
  addK x31 x33 fun v23 => addK x27 (.int .i64 1) fun v24 => B24 v23 x8 x9 x10 x25 x26 v24 h
noncomputable def p22_37 (call : CallFn) (n : Nat) (B8 : F4) (x3 x8 x9 x10 : AV) (h : AHeap) (K : Kont) : Bool :=
  addK x10 (.int .i64 1) fun v25 => B8 x3 x8 x9 v25 h
noncomputable def b22_24 (call : CallFn) (n : Nat) (B8 : F4) (B24 : F7) (x3 x8 x9 x10 x25 x26 x27 : AV) (h : AHeap) (K : Kont) : Bool :=
  lssK x27 x26 fun v19 => condK v19 (iadrK h 1 x25 x27 fun v20 => loadK h v20 fun v21 => call (.func 22) [v21] h <| pz K fun v22 h => p22_36001 call n B8 B24 x8 x9 x10 x25 x26 x27 x3 v22 h K) (p22_37 call n B8 x3 x8 x9 x10 h K)
noncomputable def l22_24 (call : CallFn) (n : Nat) (B8 : F4) : Nat → AV → AV → AV → AV → AV → AV → AV → AHeap → Kont → Bool :=
  @Nat.rec (fun _ => AV → AV → AV → AV → AV → AV → AV → AHeap → Kont → Bool) (fun _ _ _ _ _ _ _ _ _ => false) (fun _ ih x3 x8 x9 x10 x25 x26 x27 h K => b22_24 call n B8 (fun x3 x8 x9 x10 x25 x26 x27 h => ih x3 x8 x9 x10 x25 x26 x27 h K) x3 x8 x9 x10 x25 x26 x27 h K)
noncomputable def p22_15 (call : CallFn) (n : Nat) (B8 : F4) (x3 x8 x9 x10 : AV) (h : AHeap) (K : Kont) : Bool :=
  iadrK h 19 x8 x10 fun v3 => loadGK h 19 v3 fun v4 => allocK h [.int .i64 0, .str [], .str [], .nilSlc, .nilSlc, .nilSlc, .nilSlc, .nilSlc, .int .i64 0, .str [], .int .i64 0, .bool false, .int .i64 0, .str [], .nilSlc, .nilSlc, .str [], .str [], .nilSlc] 19 fun v5 h => storeNK h 19 v5 v4 fun h => fadrK 5 v5 fun v7 => loadK h v7 fun v8 => fadrK 6 v5 fun v9 => loadK h v9 fun v10 => call (.func 22) [v8] h <| pz K fun v11 h => loadK h v9 <| sameK v10 <| addK (.int .i64 1) v11 fun v12 => call (.func 22) [v10] h <| pz K fun v13 h => addK v12 v13 fun v14 => addK x3 v14 fun v15 => fadrK 7 v5 fun v16 => loadK h v16 fun v17 => lenK v17 fun v18 => l22_24 call n B8 n v15 x8 x9 x10 v17 v18 (.int .i64 0) h K
noncomputable def b22_8 (call : CallFn) (n : Nat) (B8 : F4) (x3 x8 x9 x10 : AV) (h : AHeap) (K : Kont) : Bool :=
  lssK x10 x9 fun v2 => condK v2 (p22_15 call n B8 x3 x8 x9 x10 h K) (K x3 h)
noncomputable def l22_8 (call : CallFn) (n : Nat) : Nat → AV → AV → AV → AV → AHeap → Kont → Bool :=
  @Nat.rec (fun _ => AV → AV → AV → AV → AHeap → Kont → Bool) (fun _ _ _ _ _ _ => false) (fun _ ih x3 x8 x9 x10 h K => b22_8 call n (fun x3 x8 x9 x10 h => ih x3 x8 x9 x10 h K) x3 x8 x9 x10 h K)
noncomputable def s22 (call : CallFn) (n : Nat) (x0 : AV) (h : AHeap) (K : Kont) : Bool :=
  lenK x0 fun v1 => l22_8 call n n (.int .i64 0) x0 v1 (.int .i64 0) h K

/-! ### 23 proctor/desugar.copied -/
noncomputable def p23_61 (call : CallFn) (n : Nat) (x2 x3 : AV) (h : AHeap) (K : Kont) : Bool :=
  loadGK h 19 x3 fun v84 => storeNK h 19 x2 v84 fun h => optR (resV h [(x2, some (true, 19))]) h K
noncomputable def b23_48 (call : CallFn) (n : Nat) (B48 : F5) (x2 x3 x65 x66 x67 : AV) (h : AHeap) (K : Kont) : Bool :=
  lssK x67 x66 fun v73 => condK v73 (iadrK h 1 x65 x67 fun v74 => loadK h v74 fun v75 => fadrK 7 x3 fun v76 => loadK h v76 fun v77 => call (.func 11) [v75] h <| pz K fun v78 h => loadK h v76 <| sameK v77 <| optPK (bsliceV h 1 1 [.nilSlc] [(0, v78)]) fun v79 h => loadK h v76 <| sameK v77 <| appK h 1 24 v77 v79 fun v80 h => fadrK 7 x3 fun v81 => storeK h v81 v80 fun h => addK x67 (.int .i64 1) fun v83 => B48 x2 x3 x65 x66 v83 h) (p23_61 call n x2 x3 h K)
noncomputable def l23_48 (call : CallFn) (n : Nat) : Nat → AV → AV → AV → AV → AV → AHeap → Kont → Bool :=
  @Nat.rec (fun _ => AV → AV → AV → AV → AV → AHeap → Kont → Bool) (fun _ _ _ _ _ _ _ => false) (fun _ ih x2 x3 x65 x66 x67 h K => b23_48 call n (fun x2 x3 x65 x66 x67 h => ih x2 x3 x65 x66 x67 h K) x2 x3 x65 x66 x67 h K)
noncomputable def p23_44 (call : CallFn) (n : Nat) (x1 x2 x3 : AV) (h : AHeap) (K : Kont) : Bool :=
  fadrK 7 x1 fun v70 => loadK h v70 fun v71 => lenK v71 fun v72 => l23_48 call n n x2 x3 v71 v72 (.int .i64 0) h K
noncomputable def b23_31 (call : CallFn) (n : Nat) (B31 : F6) (x1 x2 x3 x46 x47 x48 : AV) (h : AHeap) (K : Kont) : Bool :=
  lssK x48 x47 fun v52 => condK v52 (iadrK h 9 x46 x48 fun v53 => loadGK h 9 v53 fun v54 => allocK h [.str [], .int .i64 0, .str [], .int .i64 0, .bool false, .int .i64 0, .str [], .nilSlc, .nilSlc] 9 fun v55 h => storeNK h 9 v55 v54 fun h => fadrK 18 x3 fun v57 => loadK h v57 fun v58 => fadrK 0 v55 fun v59 => loadK h v59 fun v60 => fadrK 1 v55 fun v61 => loadGK h 8 v61 fun v62 => call (.func 34) [v62] h <| pz K fun v63 h => loadK h v57 <| sameK v58 <| loadK h v59 <| sameK v60 <| buildK [.str [], .int .i64 0, .str [], .int .i64 0, .bool false, .int .i64 0, .str [], .nilSlc, .nilSlc] [(0, 1, v60), (1, 8, v63)] fun v64 => optPK (bsliceV h 1 9 [.str [], .int .i64 0, .str [], .int .i64 0, .bool false, .int .i64 0, .str [], .nilSlc, .nilSlc] [(0, v64)]) fun v65 h => loadK h v57 <| sameK v58 <| loadK h v59 <| sameK v60 <| loadGK h 8 v61 <| sameK v62 <| appK h 9 128 v58 v65 fun v66 h => fadrK 18 x3 fun v67 => storeK h v67 v66 fun h => addK x48 (.int .i64 1) fun v69 => B31 x1 x2 x3 x46 x47 v69 h) (p23_44 call n x1 x2 x3 h K)
noncomputable def l23_31 (call : CallFn) (n : Nat) : Nat → AV → AV → AV → AV → AV → AV → AHeap → Kont → Bool :=
  @Nat.rec (fun _ => AV → AV → AV → AV → AV → AV → AHeap → Kont → Bool) (fun _ _ _ _ _ _ _ _ => false) (fun _ ih x1 x2 x3 x46 x47 x48 h K => b23_31 call n (fun x1 x2 x3 x46 x47 x48 h => ih x1 x2 x3 x46 x47 x48 h K) x1 x2 x3 x46 x47 x48 h K)
noncomputable def p23_27 (call : CallFn) (n : Nat) (x1 x2 x3 : AV) (h : AHeap) (K : Kont) : Bool :=
  fadrK 18 x1 fun v49 => loadK h v49 fun v50 => lenK v50 fun v51 => l23_31 call n n x1 x2 x3 v50 v51 (.int .i64 0) h K
noncomputable def b23_14 (call : CallFn) (n : Nat) (B14 : F6) (x1 x2 x3 x31 x32 x33 : AV) (h : AHeap) (K : Kont) : Bool :=
  lssK x33 x32 fun v35 => condK v35 (iadrK h 8 x31 x33 fun v36 => loadGK h 8 v36 fun v37 => allocK h [.int .i64 0, .str [], .int .i64 0, .bool false, .int .i64 0, .str [], .nilSlc, .nilSlc] 8 fun v38 h => storeNK h 8 v38 v37 fun h => fadrK 4 x3 fun v40 => loadK h v40 fun v41 => loadGK h 8 v38 fun v42 => call (.func 34) [v42] h <| pz K fun v43 h => loadK h v40 <| sameK v41 <| optPK (bsliceV h 1 8 [.int .i64 0, .str [], .int .i64 0, .bool false, .int .i64 0, .str [], .nilSlc, .nilSlc] [(0, v43)]) fun v44 h => loadK h v40 <| sameK v41 <| loadGK h 8 v38 <| sameK v42 <| appK h 8 112 v41 v44 fun v45 h => fadrK 4 x3 fun v46 => storeK h v46 v45 fun h => addK x33 (.int .i64 1) fun v48 => B14 x1 x2 x3 x31 x32 v48 h) (p23_27 call n x1 x2 x3 h K)
noncomputable def l23_14 (call : CallFn) (n : Nat) : Nat → AV → AV → AV → AV → AV → AV → AHeap → Kont → Bool :=
  @Nat.rec (fun _ => AV → AV → AV → AV → AV → AV → AHeap → Kont → Bool) (fun _ _ _ _ _ _ _ _ => false) (fun _ ih x1 x2 x3 x31 x32 x33 h K => b23_14 call n (fun x1 x2 x3 x31 x32 x33 h => ih x1 x2 x3 x31 x32 x33 h K) x1 x2 x3 x31 x32 x33 h K)
noncomputable def s23 (call : CallFn) (n : Nat) (x0 : AV) (h : AHeap) (K : Kont) : Bool :=
  optPK (boxA h (none) 19 x0) fun v1 h => allocK h [.int .i64 0, .str [], .str [], .nilSlc, .nilSlc, .nilSlc, .nilSlc, .nilSlc, .int .i64 0, .str [], .int .i64 0, .bool false, .int .i64 0, .str [], .nilSlc, .nilSlc, .str [], .str [], .nilSlc] 19 fun v2 h => loadGK h 19 v1 fun v3 => allocK h [.int .i64 0, .str [], .str [], .nilSlc, .nilSlc, .nilSlc, .nilSlc, .nilSlc, .int .i64 0, .str [], .int .i64 0, .bool false, .int .i64 0, .str [], .nilSlc, .nilSlc, .str [], .str [], .nilSlc] 19 fun v4 h => storeNK h 19 v4 v3 fun h => fadrK 3 v1 fun v6 => loadK h v6 fun v7 => fadrK 8 v1 fun v8 => loadGK h 8 v8 fun v9 => call (.func 33) [v7] h <| pz K fun v10 h => loadGK h 8 v8 <| sameK v9 <| fadrK 3 v4 fun v11 => call (.func 34) [v9] h <| pz K fun v12 h => storeK h v11 v10 fun h => fadrK 8 v4 fun v14 => storeNK h 8 v14 v12 fun h => fadrK 4 v4 fun v16 => storeK h v16 .nilSlc fun h => fadrK 18 v4 fun v18 => storeK h v18 .nilSlc fun h => fadrK 7 v4 fun v20 => storeK h v20 .nilSlc fun h => fadrK 5 v1 fun v22 => loadK h v22 fun v23 => fadrK 6 v1 fun v24 => loadK h v24 fun v25 => call (.func 11) [v23] h <| pz K fun v26 h => loadK h v24 <| sameK v25 <| fadrK 5 v4 fun v27 => call (.func 11) [v25] h <| pz K fun v28 h => storeK h v27 v26 fun h => fadrK 6 v4 fun v30 => storeK h v30 v28 fun h => fadrK 4 v1 fun v32 => loadK h v32 fun v33 => lenK v33 fun v34 => l23_14 call n n v1 v2 v4 v33 v34 (.int .i64 0) h K

/-! ### 24 proctor/parse.caught -/
noncomputable def p24_14001 (call : CallFn) (n : Nat) (x21 : AV) (h : AHeap) (K : Kont) : Bool :=
  extK 0 x21 fun v8 => extK 1 x21 fun v9 => K (.tup [v8, v9]) h
noncomputable def p24_4001 (call : CallFn) (n : Nat) (x0 x1 x9 : AV) (h : AHeap) (K : Kont) : Bool :=
  extK 0 x9 fun v2 => extK 1 x9 fun v3 => extK 2 x9 fun v4 => neqK v4 (.int .i64 0) fun v5 => condK v5 (K (.tup [v3, v4]) h) (lenSK x0 fun v6 => call (.func 36) [v2, v6, x1] h <| pz K fun v7 h => p24_14001 call n v7 h K)
noncomputable def s24 (call : CallFn) (n : Nat) (x0 x1 : AV) (h : AHeap) (K : Kont) : Bool :=
  call (.func 35) [x0] h <| pz K fun v1 h => p24_4001 call n x0 x1 v1 h K

/-! ### 25 proctor/parse.Parse$1 -/
noncomputable def p25_1001 (call : CallFn) (n : Nat) (x1 x4 : AV) (h : AHeap) (K : Kont) : Bool :=
  storeNK h 3 x1 x4 fun h => K (.tup []) h
noncomputable def s25 (call : CallFn) (n : Nat) (x0 x1 : AV) (h : AHeap) (K : Kont) : Bool :=
  call (.func 26) [x0] h <| pz K fun v1 h => p25_1001 call n x1 v1 h K

/-! ### 26 (*proctor/parse.parser).base -/
noncomputable def p26_26 (call : CallFn) (n : Nat) (x2 x3 : AV) (h : AHeap) (K : Kont) : Bool :=
  loadGK h 3 x3 fun v36 => storeNK h 3 x2 v36 fun h => optR (resV h [(x2, some (true, 3))]) h K
set_option maxRecDepth 100000 in
noncomputable def b26_6 (call : CallFn) (n : Nat) (B6 : F3) (x0 x2 x3 : AV) (h : AHeap) (K : Kont) : Bool :=
  nilckK x0 fun v3 => fadrK 1 v3 fun v4 => loadK h v4 fun v5 => nilckK x0 fun v6 => fadrK 0 v6 fun v7 => loadK h v7 fun v8 => lenK v8 fun v9 => lssK v5 v9 fun v10 => condK v10 (call (.func 37) [x0, (.str [99, 108, 97, 115, 115])] h <| pz K fun v11 h => condK v11 (fadrK 0 x3 fun v12 => loadK h v12 fun v13 => call (.func 38) [x0] h <| pz K fun v14 h => loadK h v12 <| sameK v13 <| optPK (bsliceV h 1 3 [.str [], .str [], .nilSlc] [(0, v14)]) fun v15 h => loadK h v12 <| sameK v13 <| appK h 3 56 v13 v15 fun v16 h => fadrK 0 x3 fun v17 => storeK h v17 v16 fun h => B6 x0 x2 x3 h) (call (.func 37) [x0, (.str [114, 117, 108, 101])] h <| pz K fun v19 h => condK v19 (fadrK 1 x3 fun v20 => loadK h v20 fun v21 => call (.func 39) [x0] h <| pz K fun v22 h => loadK h v20 <| sameK v21 <| optPK (bsliceV h 1 8 [.str [], .int .i64 0, .str [], .str [], .bool false, .bool false, .nilSlc, .nilSlc] [(0, v22)]) fun v23 h => loadK h v20 <| sameK v21 <| appK h 8 112 v21 v23 fun v24 h => fadrK 1 x3 fun v25 => storeK h v25 v24 fun h => B6 x0 x2 x3 h) (optPK (bsliceV h 1 1 [.str []] [(0, (.str [113, 117, 101, 114, 121]))]) fun v27 h => call (.func 40) [x0, v27] h <| pz K fun v28 h => fadrK 2 x3 fun v29 => loadK h v29 fun v30 => call (.func 41) [x0] h <| pz K fun v31 h => loadK h v29 <| sameK v30 <| optPK (bsliceV h 1 3 [.str [], .nilSlc, .nilSlc] [(0, v31)]) fun v32 h => loadK h v29 <| sameK v30 <| appK h 3 64 v30 v32 fun v33 h => fadrK 2 x3 fun v34 => storeK h v34 v33 fun h => B6 x0 x2 x3 h))) (p26_26 call n x2 x3 h K)
noncomputable def l26_6 (call : CallFn) (n : Nat) : Nat → AV → AV → AV → AHeap → Kont → Bool :=
  @Nat.rec (fun _ => AV → AV → AV → AHeap → Kont → Bool) (fun _ _ _ _ _ => false) (fun _ ih x0 x2 x3 h K => b26_6 call n (fun x0 x2 x3 h => ih x0 x2 x3 h K) x0 x2 x3 h K)
noncomputable def s26 (call : CallFn) (n : Nat) (x0 : AV) (h : AHeap) (K : Kont) : Bool :=
  allocK h [.nilSlc, .nilSlc, .nilSlc] 3 fun v1 h => allocK h [.nilSlc, .nilSlc, .nilSlc] 3 fun v2 h => l26_6 call n n x0 v1 v2 h K

/-! ### 27 proctor/desugar.core -/
noncomputable def p27_41001 (call : CallFn) (n : Nat) (B6 : F3) (B28 : F6) (x7 x8 x9 x34 x35 x36 x41 : AV) (h : AHeap) (K : Kont) : Bool :=
  notK x41 fun v31 => condK v31 (K (.bool false) h) (addK x36 (.int .i64 1) fun v32 => B28 x7 x8 x9 x34 x35 v32 h)
noncomputable def p27_47 (call : CallFn) (n : Nat) (B6 : F3) (x7 x8 x9 : AV) (h : AHeap) (K : Kont) : Bool :=
  addK x9 (.int .i64 1) fun v33 => B6 x7 x8 v33 h
noncomputable def b27_28 (call : CallFn) (n : Nat) (B6 : F3) (B28 : F6) (x7 x8 x9 x34 x35 x36 : AV) (h : AHeap) (K : Kont) : Bool :=
  lssK x36 x35 fun v27 => condK v27 (iadrK h 1 x34 x36 fun v28 => loadK h v28 fun v29 => call (.func 27) [v29] h <| pz K fun v30 h => p27_41001 call n B6 B28 x7 x8 x9 x34 x35 x36 v30 h K) (p27_47 call n B6 x7 x8 x9 h K)
noncomputable def l27_28 (call : CallFn) (n : Nat) (B6 : F3) : Nat → AV → AV → AV → AV → AV → AV → AHeap → Kont → Bool :=
  @Nat.rec (fun _ => AV → AV → AV → AV → AV → AV → AHeap → Kont → Bool) (fun _ _ _ _ _ _ _ _ => false) (fun _ ih x7 x8 x9 x34 x35 x36 h K => b27_28 call n B6 (fun x7 x8 x9 x34 x35 x36 h => ih x7 x8 x9 x34 x35 x36 h K) x7 x8 x9 x34 x35 x36 h K)
noncomputable def p27_25 (call : CallFn) (n : Nat) (B6 : F3) (x4 x7 x8 x9 : AV) (h : AHeap) (K : Kont) : Bool :=
  fadrK 7 x4 fun v24 => loadK h v24 fun v25 => lenK v25 fun v26 => l27_28 call n B6 n x7 x8 x9 v25 v26 (.int .i64 0) h K
noncomputable def p27_20002 (call : CallFn) (n : Nat) (B6 : F3) (x4 x7 x8 x9 x27 x30 : AV) (h : AHeap) (K : Kont) : Bool :=
  gK x27 false (notK x30) fun v22 => pickK x27 (.bool true) v22 fun v23 => condK v23 (K (.bool false) h) (p27_25 call n B6 x4 x7 x8 x9 h K)
noncomputable def p27_20001 (call : CallFn) (n : Nat) (B6 : F3) (x4 x7 x8 x9 x21 x24 : AV) (h : AHeap) (K : Kont) : Bool :=
  gK x21 false (notK x24) fun v17 => pickK x21 (.bool true) v17 fun v18 => gK v18 false (fadrK 6 x4) fun v19 => gK v18 false (loadK h v19) fun v20 => gP v18 false (fun k => call (.func 27) [v20] h (pz K k)) h fun v21 h => p27_20002 call n B6 x4 x7 x8 x9 v18 v21 h K
noncomputable def p27_13 (call : CallFn) (n : Nat) (B6 : F3) (x7 x8 x9 : AV) (h : AHeap) (K : Kont) : Bool :=
  iadrK h 19 x7 x9 fun v3 => loadGK h 19 v3 fun v4 => allocK h [.int .i64 0, .str [], .str [], .nilSlc, .nilSlc, .nilSlc, .nilSlc, .nilSlc, .int .i64 0, .str [], .int .i64 0, .bool false, .int .i64 0, .str [], .nilSlc, .nilSlc, .str [], .str [], .nilSlc] 19 fun v5 h => storeNK h 19 v5 v4 fun h => fadrK 0 v5 fun v7 => loadK h v7 fun v8 => eqlK v8 (.int .i64 4) fun v9 => gK v9 false (fadrK 0 v5) fun v10 => gK v9 false (loadK h v10) fun v11 => gK v9 false (eqlK v11 (.int .i64 5)) fun v12 => pickK v9 (.bool true) v12 fun v13 => gK v13 false (fadrK 5 v5) fun v14 => gK v13 false (loadK h v14) fun v15 => gP v13 false (fun k => call (.func 27) [v15] h (pz K k)) h fun v16 h => p27_20001 call n B6 v5 x7 x8 x9 v13 v16 h K
noncomputable def b27_6 (call : CallFn) (n : Nat) (B6 : F3) (x7 x8 x9 : AV) (h : AHeap) (K : Kont) : Bool :=
  lssK x9 x8 fun v2 => condK v2 (p27_13 call n B6 x7 x8 x9 h K) (K (.bool true) h)
noncomputable def l27_6 (call : CallFn) (n : Nat) : Nat → AV → AV → AV → AHeap → Kont → Bool :=
  @Nat.rec (fun _ => AV → AV → AV → AHeap → Kont → Bool) (fun _ _ _ _ _ => false) (fun _ ih x7 x8 x9 h K => b27_6 call n (fun x7 x8 x9 h => ih x7 x8 x9 h K) x7 x8 x9 h K)
noncomputable def s27 (call : CallFn) (n : Nat) (x0 : AV) (h : AHeap) (K : Kont) : Bool :=
  lenK x0 fun v1 => l27_6 call n n x0 v1 (.int .i64 0) h K

/-! ### 28 slices.IndexFunc[[]proctor/api.Cond,proctor/api.Cond] -/
noncomputable def b28_6 (call : CallFn) (n : Nat) (B6 : F4) (x0 x1 x7 x8 : AV) (h : AHeap) (K : Kont) : Bool :=
  lssK x8 x7 fun v2 => condK v2 (iadrK h 19 x0 x8 fun v3 => loadGK h 19 v3 fun v4 => callV call x1 [v4] h <| pz K fun v5 h => condK v5 (K x8 h) (addK x8 (.int .i64 1) fun v6 => B6 x0 x1 x7 v6 h)) (K (.int .i64 (-1)) h)
noncomputable def l28_6 (call : CallFn) (n : Nat) : Nat → AV → AV → AV → AV → AHeap → Kont → Bool :=
  @Nat.rec (fun _ => AV → AV → AV → AV → AHeap → Kont → Bool) (fun _ _ _ _ _ _ => false) (fun _ ih x0 x1 x7 x8 h K => b28_6 call n (fun x0 x1 x7 x8 h => ih x0 x1 x7 x8 h K) x0 x1 x7 x8 h K)
noncomputable def s28 (call : CallFn) (n : Nat) (x0 x1 : AV) (h : AHeap) (K : Kont) : Bool :=
  lenK x0 fun v1 => l28_6 call n n x0 x1 v1 (.int .i64 0) h K

/-! ### 29 slices.IndexFunc[[][]proctor/api.Cond,[]proctor/api.Cond] -/
noncomputable def b29_6 (call : CallFn) (n : Nat) (B6 : F4) (x0 x1 x7 x8 : AV) (h : AHeap) (K : Kont) : Bool :=
  lssK x8 x7 fun v2 => condK v2 (iadrK h 1 x0 x8 fun v3 => loadK h v3 fun v4 => callV call x1 [v4] h <| pz K fun v5 h => condK v5 (K x8 h) (addK x8 (.int .i64 1) fun v6 => B6 x0 x1 x7 v6 h)) (K (.int .i64 (-1)) h)
noncomputable def l29_6 (call : CallFn) (n : Nat) : Nat → AV → AV → AV → AV → AHeap → Kont → Bool :=
  @Nat.rec (fun _ => AV → AV → AV → AV → AHeap → Kont → Bool) (fun _ _ _ _ _ _ => false) (fun _ ih x0 x1 x7 x8 h K => b29_6 call n (fun x0 x1 x7 x8 h => ih x0 x1 x7 x8 h K) x0 x1 x7 x8 h K)
noncomputable def s29 (call : CallFn) (n : Nat) (x0 x1 : AV) (h : AHeap) (K : Kont) : Bool :=
  lenK x0 fun v1 => l29_6 call n n x0 x1 v1 (.int .i64 0) h K

/-! ### 32 slices.Clone[[]proctor/api.Cond,proctor/api.Cond] -/
noncomputable def s32 (call : CallFn) (n : Nat) (x0 : AV) (h : AHeap) (K : Kont) : Bool :=
  optK (eqV h false .slc x0 .nilSlc) fun v1 => condK v1 (K .nilSlc h) (optPK (bsliceV h 0 19 [.int .i64 0, .str [], .str [], .nilSlc, .nilSlc, .nilSlc, .nilSlc, .nilSlc, .int .i64 0, .str [], .int .i64 0, .bool false, .int .i64 0, .str [], .nilSlc, .nilSlc, .str [], .str [], .nilSlc] []) fun v2 h => appK h 19 328 v2 x0 fun v3 h => K v3 h)

/-! ### 33 slices.Clone[[]proctor/api.Bind,proctor/api.Bind] -/
noncomputable def s33 (call : CallFn) (n : Nat) (x0 : AV) (h : AHeap) (K : Kont) : Bool :=
  optK (eqV h false .slc x0 .nilSlc) fun v1 => condK v1 (K .nilSlc h) (optPK (bsliceV h 0 2 [.str [], .str []] []) fun v2 h => appK h 2 32 v2 x0 fun v3 h => K v3 h)

/-! ### 34 proctor/desugar.expr -/
noncomputable def p34_23 (call : CallFn) (n : Nat) (x1 x2 : AV) (h : AHeap) (K : Kont) : Bool :=
  loadGK h 8 x1 fun v27 => storeNK h 8 x2 v27 fun h => optR (resV h [(x2, some (true, 8))]) h K
noncomputable def b34_10 (call : CallFn) (n : Nat) (B10 : F5) (x1 x2 x13 x14 x15 : AV) (h : AHeap) (K : Kont) : Bool :=
  lssK x15 x14 fun v13 => condK v13 (iadrK h 8 x13 x15 fun v14 => loadGK h 8 v14 fun v15 => allocK h [.int .i64 0, .str [], .int .i64 0, .bool false, .int .i64 0, .str [], .nilSlc, .nilSlc] 8 fun v16 h => storeNK h 8 v16 v15 fun h => fadrK 7 x1 fun v18 => loadK h v18 fun v19 => loadGK h 8 v16 fun v20 => call (.func 34) [v20] h <| pz K fun v21 h => loadK h v18 <| sameK v19 <| optPK (bsliceV h 1 8 [.int .i64 0, .str [], .int .i64 0, .bool false, .int .i64 0, .str [], .nilSlc, .nilSlc] [(0, v21)]) fun v22 h => loadK h v18 <| sameK v19 <| loadGK h 8 v16 <| sameK v20 <| appK h 8 112 v19 v22 fun v23 h => fadrK 7 x1 fun v24 => storeK h v24 v23 fun h => addK x15 (.int .i64 1) fun v26 => B10 x1 x2 x13 x14 v26 h) (p34_23 call n x1 x2 h K)
noncomputable def l34_10 (call : CallFn) (n : Nat) : Nat → AV → AV → AV → AV → AV → AHeap → Kont → Bool :=
  @Nat.rec (fun _ => AV → AV → AV → AV → AV → AHeap → Kont → Bool) (fun _ _ _ _ _ _ _ => false) (fun _ ih x1 x2 x13 x14 x15 h K => b34_10 call n (fun x1 x2 x13 x14 x15 h => ih x1 x2 x13 x14 x15 h K) x1 x2 x13 x14 x15 h K)
noncomputable def p34_6001 (call : CallFn) (n : Nat) (x1 x2 x3 x10 : AV) (h : AHeap) (K : Kont) : Bool :=
  fadrK 2 x1 fun v8 => storeNK h 5 v8 x10 fun h => fadrK 7 x1 fun v10 => storeK h v10 .nilSlc fun h => lenK x3 fun v12 => l34_10 call n n x1 x2 x3 v12 (.int .i64 0) h K
noncomputable def s34 (call : CallFn) (n : Nat) (x0 : AV) (h : AHeap) (K : Kont) : Bool :=
  optPK (boxA h (none) 8 x0) fun v1 h => allocK h [.int .i64 0, .str [], .int .i64 0, .bool false, .int .i64 0, .str [], .nilSlc, .nilSlc] 8 fun v2 h => fadrK 7 v1 fun v3 => loadK h v3 fun v4 => fadrK 2 v1 fun v5 => loadGK h 5 v5 fun v6 => call (.func 42) [v6] h <| pz K fun v7 h => p34_6001 call n v1 v2 v4 v7 h K

/-! ### 35 proctor/lex.Lex -/
noncomputable def p35_12001 (call : CallFn) (n : Nat) (x9 : AV) (h : AHeap) (K : Kont) : Bool :=
  extK 0 x9 fun v4 => extK 1 x9 fun v5 => extK 2 x9 fun v6 => K (.tup [v4, v5, v6]) h
noncomputable def s35 (call : CallFn) (n : Nat) (x0 : AV) (h : AHeap) (K : Kont) : Bool :=
  lenSK x0 fun v1 => gtrK v1 (.int .i64 65536) fun v2 => condK v2 (K (.tup [.nilSlc, (.int .i64 0), (.int .i64 21)]) h) (call (.func 43) [x0] h <| pz K fun v3 h => p35_12001 call n v3 h K)

/-! ### 37 (*proctor/parse.parser).take -/
noncomputable def p37_5001 (call : CallFn) (n : Nat) (x0 x7 : AV) (h : AHeap) (K : Kont) : Bool :=
  notK x7 fun v2 => condK v2 (K (.bool false) h) (nilckK x0 fun v3 => fadrK 1 v3 fun v4 => loadK h v4 fun v5 => addK v5 (.int .i64 1) fun v6 => nilckK x0 fun v7 => fadrK 1 v7 fun v8 => storeK h v8 v6 fun h => K (.bool true) h)
noncomputable def s37 (call : CallFn) (n : Nat) (x0 x1 : AV) (h : AHeap) (K : Kont) : Bool :=
  call (.func 47) [x0, (.int .i64 0), x1] h <| pz K fun v1 h => p37_5001 call n x0 v1 h K

/-! ### 39 (*proctor/parse.parser).rule -/
noncomputable def p39_19001 (call : CallFn) (n : Nat) (B6 : F3) (x0 x2 x3 x18 : AV) (h : AHeap) (K : Kont) : Bool :=
  fadrK 1 x3 fun v10 => storeK h v10 x18 fun h => B6 x0 x2 x3 h
noncomputable def p39_23001 (call : CallFn) (n : Nat) (B6 : F3) (x0 x2 x3 x24 : AV) (h : AHeap) (K : Kont) : Bool :=
  fadrK 2 x3 fun v14 => storeK h v14 x24 fun h => B6 x0 x2 x3 h
noncomputable def p39_27001 (call : CallFn) (n : Nat) (B6 : F3) (x0 x2 x3 x30 : AV) (h : AHeap) (K : Kont) : Bool :=
  fadrK 3 x3 fun v18 => storeK h v18 x30 fun h => B6 x0 x2 x3 h
noncomputable def p39_49 (call : CallFn) (n : Nat) (x2 x3 : AV) (h : AHeap) (K : Kont) : Bool :=
  loadGK h 8 x3 fun v42 => storeNK h 8 x2 v42 fun h => optR (resV h [(x2, some (true, 8))]) h K
noncomputable def p39_44001 (call : CallFn) (n : Nat) (B40 : F3) (x0 x2 x3 x44 : AV) (h : AHeap) (K : Kont) : Bool :=
  notK x44 fun v34 => condK v34 (fadrK 7 x3 fun v35 => loadK h v35 fun v36 => call (.func 56) [x0] h <| pz K fun v37 h => loadK h v35 <| sameK v36 <| optPK (bsliceV h 1 12 [.int .i64 0, .str [], .nilSlc, .int .i64 0, .str [], .int .i64 0, .bool false, .int .i64 0, .str [], .nilSlc, .nilSlc, .str []] [(0, v37)]) fun v38 h => loadK h v35 <| sameK v36 <| appK h 12 176 v36 v38 fun v39 h => fadrK 7 x3 fun v40 => storeK h v40 v39 fun h => B40 x0 x2 x3 h) (p39_49 call n x2 x3 h K)
noncomputable def b39_40 (call : CallFn) (n : Nat) (B40 : F3) (x0 x2 x3 : AV) (h : AHeap) (K : Kont) : Bool :=
  call (.func 37) [x0, (.str [101, 110, 100])] h <| pz K fun v33 h => p39_44001 call n B40 x0 x2 x3 v33 h K
noncomputable def l39_40 (call : CallFn) (n : Nat) : Nat → AV → AV → AV → AHeap → Kont → Bool :=
  @Nat.rec (fun _ => AV → AV → AV → AHeap → Kont → Bool) (fun _ _ _ _ _ => false) (fun _ ih x0 x2 x3 h K => b39_40 call n (fun x0 x2 x3 h => ih x0 x2 x3 h K) x0 x2 x3 h K)
noncomputable def p39_36001 (call : CallFn) (n : Nat) (x0 x2 x3 x38 : AV) (h : AHeap) (K : Kont) : Bool :=
  fadrK 6 x3 fun v29 => storeK h v29 x38 fun h => optPK (bsliceV h 1 1 [.str []] [(0, (.str [116, 104, 101, 110]))]) fun v31 h => call (.func 40) [x0, v31] h <| pz K fun v32 h => l39_40 call n n x0 x2 x3 h K
noncomputable def p39_34 (call : CallFn) (n : Nat) (x0 x2 x3 : AV) (h : AHeap) (K : Kont) : Bool :=
  optPK (bsliceV h 1 1 [.str []] [(0, (.str [116, 104, 101, 110]))]) fun v27 h => call (.func 55) [x0, v27] h <| pz K fun v28 h => p39_36001 call n x0 x2 x3 v28 h K
noncomputable def p39_10001 (call : CallFn) (n : Nat) (B6 : F3) (x0 x2 x3 x8 : AV) (h : AHeap) (K : Kont) : Bool :=
  notK x8 fun v7 => condK v7 (call (.func 37) [x0, (.str [115, 97, 108, 105, 101, 110, 99, 101])] h <| pz K fun v8 h => condK v8 (call (.func 54) [x0] h <| pz K fun v9 h => p39_19001 call n B6 x0 x2 x3 v9 h K) (call (.func 37) [x0, (.str [103, 114, 111, 117, 112])] h <| pz K fun v12 h => condK v12 (call (.func 53) [x0] h <| pz K fun v13 h => p39_23001 call n B6 x0 x2 x3 v13 h K) (call (.func 37) [x0, (.str [102, 108, 111, 119])] h <| pz K fun v16 h => condK v16 (call (.func 53) [x0] h <| pz K fun v17 h => p39_27001 call n B6 x0 x2 x3 v17 h K) (call (.func 37) [x0, (.str [110, 111, 108, 111, 111, 112])] h <| pz K fun v20 h => condK v20 (fadrK 4 x3 fun v21 => storeK h v21 (.bool true) fun h => B6 x0 x2 x3 h) (optPK (bsliceV h 1 1 [.str []] [(0, (.str [108, 111, 99, 107]))]) fun v23 h => call (.func 40) [x0, v23] h <| pz K fun v24 h => fadrK 5 x3 fun v25 => storeK h v25 (.bool true) fun h => B6 x0 x2 x3 h))))) (p39_34 call n x0 x2 x3 h K)
noncomputable def b39_6 (call : CallFn) (n : Nat) (B6 : F3) (x0 x2 x3 : AV) (h : AHeap) (K : Kont) : Bool :=
  call (.func 37) [x0, (.str [119, 104, 101, 110])] h <| pz K fun v6 h => p39_10001 call n B6 x0 x2 x3 v6 h K
noncomputable def l39_6 (call : CallFn) (n : Nat) : Nat → AV → AV → AV → AHeap → Kont → Bool :=
  @Nat.rec (fun _ => AV → AV → AV → AHeap → Kont → Bool) (fun _ _ _ _ _ => false) (fun _ ih x0 x2 x3 h K => b39_6 call n (fun x0 x2 x3 h => ih x0 x2 x3 h K) x0 x2 x3 h K)
noncomputable def p39_4001 (call : CallFn) (n : Nat) (x0 x2 x5 : AV) (h : AHeap) (K : Kont) : Bool :=
  buildK [.str [], .int .i64 0, .str [], .str [], .bool false, .bool false, .nilSlc, .nilSlc] [(0, 1, x5)] fun v3 => allocK h [.str [], .int .i64 0, .str [], .str [], .bool false, .bool false, .nilSlc, .nilSlc] 8 fun v4 h => storeNK h 8 v4 v3 fun h => l39_6 call n n x0 x2 v4 h K
noncomputable def s39 (call : CallFn) (n : Nat) (x0 : AV) (h : AHeap) (K : Kont) : Bool :=
  allocK h [.str [], .int .i64 0, .str [], .str [], .bool false, .bool false, .nilSlc, .nilSlc] 8 fun v1 h => call (.func 53) [x0] h <| pz K fun v2 h => p39_4001 call n x0 v1 v2 h K

/-! ### 40 (*proctor/parse.parser).must -/
noncomputable def p40_15001 (call : CallFn) (n : Nat) (B3 : F4) (x0 x6 x7 x8 x12 x15 : AV) (h : AHeap) (K : Kont) : Bool :=
  call (.func 46) [x12, x15] h <| pz K fun v6 h => addK x8 (.int .i64 1) fun v7 => B3 x0 x6 x7 v7 h
noncomputable def b40_3 (call : CallFn) (n : Nat) (B3 : F4) (x0 x6 x7 x8 : AV) (h : AHeap) (K : Kont) : Bool :=
  lssK x8 x7 fun v2 => condK v2 (iadrK h 1 x6 x8 fun v3 => loadK h v3 fun v4 => call (.func 37) [x0, v4] h <| pz K fun v5 h => p40_15001 call n B3 x0 x6 x7 x8 x0 v5 h K) (K (.tup []) h)
noncomputable def l40_3 (call : CallFn) (n : Nat) : Nat → AV → AV → AV → AV → AHeap → Kont → Bool :=
  @Nat.rec (fun _ => AV → AV → AV → AV → AHeap → Kont → Bool) (fun _ _ _ _ _ _ => false) (fun _ ih x0 x6 x7 x8 h K => b40_3 call n (fun x0 x6 x7 x8 h => ih x0 x6 x7 x8 h K) x0 x6 x7 x8 h K)
noncomputable def s40 (call : CallFn) (n : Nat) (x0 x1 : AV) (h : AHeap) (K : Kont) : Bool :=
  lenK x1 fun v1 => l40_3 call n n x0 x1 v1 (.int .i64 0) h K

/-! ### 42 proctor/desugar.cell -/
noncomputable def p42_23 (call : CallFn) (n : Nat) (x1 x2 : AV) (h : AHeap) (K : Kont) : Bool :=
  loadGK h 5 x1 fun v22 => storeNK h 5 x2 v22 fun h => optR (resV h [(x2, some (true, 5))]) h K
noncomputable def b42_10 (call : CallFn) (n : Nat) (B10 : F5) (x1 x2 x9 x10 x11 : AV) (h : AHeap) (K : Kont) : Bool :=
  lssK x11 x10 fun v8 => condK v8 (iadrK h 5 x9 x11 fun v9 => loadGK h 5 v9 fun v10 => allocK h [.int .i64 0, .bool false, .int .i64 0, .str [], .nilSlc] 5 fun v11 h => storeNK h 5 v11 v10 fun h => fadrK 4 x1 fun v13 => loadK h v13 fun v14 => loadGK h 5 v11 fun v15 => call (.func 42) [v15] h <| pz K fun v16 h => loadK h v13 <| sameK v14 <| optPK (bsliceV h 1 5 [.int .i64 0, .bool false, .int .i64 0, .str [], .nilSlc] [(0, v16)]) fun v17 h => loadK h v13 <| sameK v14 <| loadGK h 5 v11 <| sameK v15 <| appK h 5 64 v14 v17 fun v18 h => fadrK 4 x1 fun v19 => storeK h v19 v18 fun h => addK x11 (.int .i64 1) fun v21 => B10 x1 x2 x9 x10 v21 h) (p42_23 call n x1 x2 h K)
noncomputable def l42_10 (call : CallFn) (n : Nat) : Nat → AV → AV → AV → AV → AV → AHeap → Kont → Bool :=
  @Nat.rec (fun _ => AV → AV → AV → AV → AV → AHeap → Kont → Bool) (fun _ _ _ _ _ _ _ => false) (fun _ ih x1 x2 x9 x10 x11 h K => b42_10 call n (fun x1 x2 x9 x10 x11 h => ih x1 x2 x9 x10 x11 h K) x1 x2 x9 x10 x11 h K)
noncomputable def s42 (call : CallFn) (n : Nat) (x0 : AV) (h : AHeap) (K : Kont) : Bool :=
  optPK (boxA h (none) 5 x0) fun v1 h => allocK h [.int .i64 0, .bool false, .int .i64 0, .str [], .nilSlc] 5 fun v2 h => fadrK 4 v1 fun v3 => loadK h v3 fun v4 => fadrK 4 v1 fun v5 => storeK h v5 .nilSlc fun h => lenK v4 fun v7 => l42_10 call n n v1 v2 v4 v7 (.int .i64 0) h K

/-! ### 45 proctor/parse.operators -/
set_option maxRecDepth 100000 in
noncomputable def s45 (call : CallFn) (n : Nat) (h : AHeap) (K : Kont) : Bool :=
  optPK (mkmapV h) fun v1 h => optPK (mkmapV h) fun v2 h => optPK (unit (mupdA h (.leaf .str) v2 (.str [124, 124]) (.int .i64 9))) fun _ h => optPK (unit (mupdA h (.leaf .int) v1 (.int .i64 0) v2)) fun _ h => optPK (mkmapV h) fun v5 h => optPK (unit (mupdA h (.leaf .str) v5 (.str [38, 38]) (.int .i64 8))) fun _ h => optPK (unit (mupdA h (.leaf .int) v1 (.int .i64 1) v5)) fun _ h => optPK (mkmapV h) fun v8 h => optPK (unit (mupdA h (.leaf .str) v8 (.str [61, 61]) (.int .i64 10))) fun _ h => optPK (unit (mupdA h (.leaf .str) v8 (.str [33, 61]) (.int .i64 11))) fun _ h => optPK (unit (mupdA h (.leaf .str) v8 (.str [60]) (.int .i64 12))) fun _ h => optPK (unit (mupdA h (.leaf .str) v8 (.str [60, 61]) (.int .i64 13))) fun _ h => optPK (unit (mupdA h (.leaf .str) v8 (.str [62]) (.int .i64 14))) fun _ h => optPK (unit (mupdA h (.leaf .str) v8 (.str [62, 61]) (.int .i64 15))) fun _ h => optPK (unit (mupdA h (.leaf .int) v1 (.int .i64 2) v8)) fun _ h => optPK (mkmapV h) fun v16 h => optPK (unit (mupdA h (.leaf .str) v16 (.str [43]) (.int .i64 16))) fun _ h => optPK (unit (mupdA h (.leaf .str) v16 (.str [45]) (.int .i64 17))) fun _ h => optPK (unit (mupdA h (.leaf .int) v1 (.int .i64 3) v16)) fun _ h => optPK (mkmapV h) fun v20 h => optPK (unit (mupdA h (.leaf .str) v20 (.str [42]) (.int .i64 18))) fun _ h => optPK (unit (mupdA h (.leaf .str) v20 (.str [47]) (.int .i64 19))) fun _ h => optPK (unit (mupdA h (.leaf .str) v20 (.str [37]) (.int .i64 20))) fun _ h => optPK (unit (mupdA h (.leaf .int) v1 (.int .i64 4) v20)) fun _ h => K v1 h

/-! ### 46 (*proctor/parse.parser).need -/
noncomputable def p46_4001 (call : CallFn) (n : Nat) (x7 : AV) (h : AHeap) (K : Kont) : Bool :=
  call (.func 61) [x7] h <| pz K fun v3 h => K (.tup []) h
noncomputable def s46 (call : CallFn) (n : Nat) (x0 x1 : AV) (h : AHeap) (K : Kont) : Bool :=
  notK x1 fun v1 => condK v1 (call (.func 62) [x0] h <| pz K fun v2 h => p46_4001 call n v2 h K) (K (.tup []) h)

/-! ### 47 (*proctor/parse.parser).is -/
noncomputable def p47_6001 (call : CallFn) (n : Nat) (x15 x19 x23 x25 : AV) (h : AHeap) (K : Kont) : Bool :=
  gK x19 false (pickK x23 x25 (.bool false)) fun v17 => gK x15 true (pickK x19 (.bool true) v17) fun v18 => pickK x15 v18 (.bool false) fun v19 => K v19 h
noncomputable def p47_4001 (call : CallFn) (n : Nat) (x2 x10 : AV) (h : AHeap) (K : Kont) : Bool :=
  allocK h [.int .i64 0, .str [], .int .i64 0, .int .i64 0] 4 fun v2 h => storeNK h 4 v2 x10 fun h => fadrK 1 v2 fun v4 => loadK h v4 fun v5 => eqlK v5 x2 fun v6 => gK v6 true (fadrK 0 v2) fun v7 => gK v6 true (loadK h v7) fun v8 => gK v6 true (eqlK v8 (.int .i64 4)) fun v9 => gK v6 true (optK (some v9)) fun v10 => gK v10 false (fadrK 0 v2) fun v11 => gK v10 false (loadK h v11) fun v12 => gK v10 false (eqlK v12 (.int .i64 0)) fun v13 => gK v10 false (optK (some v13)) fun v14 => gK v14 true (optK (some x2)) fun v15 => gP v14 true (fun k => call (.func 64) [v15] h (pz K k)) h fun v16 h => p47_6001 call n v6 v10 v14 v16 h K
noncomputable def s47 (call : CallFn) (n : Nat) (x0 x1 x2 : AV) (h : AHeap) (K : Kont) : Bool :=
  call (.func 63) [x0, x1] h <| pz K fun v1 h => p47_4001 call n x2 v1 h K

/-! ### 48 (*proctor/parse.parser).name -/
noncomputable def p48_4002 (call : CallFn) (n : Nat) (x0 x3 x6 x8 : AV) (h : AHeap) (K : Kont) : Bool :=
  gK x6 true (fldK 1 x8) fun v4 => gK x6 true (lenSK v4) fun v5 => gK x6 true (leqK v5 (.int .i64 64)) fun v6 => pickK x6 v6 (.bool false) fun v7 => call (.func 46) [x3, v7] h <| pz K fun v8 h => call (.func 65) [x0] h <| pz K fun v9 h => K v9 h
noncomputable def p48_4001 (call : CallFn) (n : Nat) (x0 x3 x5 : AV) (h : AHeap) (K : Kont) : Bool :=
  gK x5 true (optK (some x0)) fun v2 => gP x5 true (fun k => call (.func 63) [v2, (.int .i64 0)] h (pz K k)) h fun v3 h => p48_4002 call n x0 x3 x5 v3 h K
noncomputable def s48 (call : CallFn) (n : Nat) (x0 : AV) (h : AHeap) (K : Kont) : Bool :=
  call (.func 50) [x0, (.int .i64 0)] h <| pz K fun v1 h => p48_4001 call n x0 x0 v1 h K

/-! ### 49 (*proctor/parse.parser).opens -/
noncomputable def s49 (call : CallFn) (n : Nat) (x0 x1 : AV) (h : AHeap) (K : Kont) : Bool :=
  call (.func 62) [x0] h <| pz K fun v1 h => optPK (bsliceV h 1 1 [.str []] [(0, x1)]) fun v2 h => call (.func 40) [x0, v2] h <| pz K fun v3 h => call (.func 66) [x0, v1] h <| pz K fun v4 h => K (.tup []) h

/-! ### 50 (*proctor/parse.parser).named -/
noncomputable def p50_6001 (call : CallFn) (n : Nat) (x12 x15 : AV) (h : AHeap) (K : Kont) : Bool :=
  gK x12 true (notK x15) fun v10 => pickK x12 v10 (.bool false) fun v11 => K v11 h
noncomputable def p50_4001 (call : CallFn) (n : Nat) (x8 : AV) (h : AHeap) (K : Kont) : Bool :=
  allocK h [.int .i64 0, .str [], .int .i64 0, .int .i64 0] 4 fun v2 h => storeNK h 4 v2 x8 fun h => fadrK 0 v2 fun v4 => loadK h v4 fun v5 => eqlK v5 (.int .i64 0) fun v6 => gK v6 true (fadrK 1 v2) fun v7 => gK v6 true (loadK h v7) fun v8 => gP v6 true (fun k => call (.func 64) [v8] h (pz K k)) h fun v9 h => p50_6001 call n v6 v9 h K
noncomputable def s50 (call : CallFn) (n : Nat) (x0 x1 : AV) (h : AHeap) (K : Kont) : Bool :=
  call (.func 63) [x0, x1] h <| pz K fun v1 h => p50_4001 call n v1 h K

/-! ### 52 (*proctor/parse.parser).closes -/
noncomputable def s52 (call : CallFn) (n : Nat) (x0 x1 : AV) (h : AHeap) (K : Kont) : Bool :=
  optPK (bsliceV h 1 1 [.str []] [(0, x1)]) fun v1 h => call (.func 40) [x0, v1] h <| pz K fun v2 h => nilckK x0 fun v3 => fadrK 3 v3 fun v4 => loadK h v4 fun v5 => subK v5 (.int .i64 1) fun v6 => nilckK x0 fun v7 => fadrK 3 v7 fun v8 => storeK h v8 v6 fun h => K (.tup []) h

/-! ### 53 (*proctor/parse.parser).quoted -/
noncomputable def p53_4001 (call : CallFn) (n : Nat) (x0 x3 x5 : AV) (h : AHeap) (K : Kont) : Bool :=
  call (.func 46) [x3, x5] h <| pz K fun v2 h => call (.func 65) [x0] h <| pz K fun v3 h => K v3 h
noncomputable def s53 (call : CallFn) (n : Nat) (x0 : AV) (h : AHeap) (K : Kont) : Bool :=
  call (.func 67) [x0, (.int .i64 3)] h <| pz K fun v1 h => p53_4001 call n x0 x0 v1 h K

/-! ### 55 (*proctor/parse.parser).conds -/
noncomputable def p55_31001 (call : CallFn) (n : Nat) (B5 : F3) (x0 x1 x19 x21 : AV) (h : AHeap) (K : Kont) : Bool :=
  optPK (bsliceV h 1 19 [.int .i64 0, .str [], .str [], .nilSlc, .nilSlc, .nilSlc, .nilSlc, .nilSlc, .int .i64 0, .str [], .int .i64 0, .bool false, .int .i64 0, .str [], .nilSlc, .nilSlc, .str [], .str [], .nilSlc] [(0, x21)]) fun v8 h => appK h 19 328 x19 v8 fun v9 h => B5 x0 x1 v9 h
noncomputable def p55_30 (call : CallFn) (n : Nat) (B5 : F3) (x0 x1 x5 : AV) (h : AHeap) (K : Kont) : Bool :=
  call (.func 69) [x0] h <| pz K fun v7 h => p55_31001 call n B5 x0 x1 x5 v7 h K
noncomputable def b55_11 (call : CallFn) (n : Nat) (B5 : F3) (B11 : F6) (x0 x1 x5 x8 x9 x10 : AV) (h : AHeap) (K : Kont) : Bool :=
  lssK x10 x9 fun v2 => condK v2 (iadrK h 1 x8 x10 fun v3 => loadK h v3 fun v4 => call (.func 47) [x0, (.int .i64 0), v4] h <| pz K fun v5 h => condK v5 (K x5 h) (addK x10 (.int .i64 1) fun v6 => B11 x0 x1 x5 x8 x9 v6 h)) (p55_30 call n B5 x0 x1 x5 h K)
noncomputable def l55_11 (call : CallFn) (n : Nat) (B5 : F3) : Nat → AV → AV → AV → AV → AV → AV → AHeap → Kont → Bool :=
  @Nat.rec (fun _ => AV → AV → AV → AV → AV → AV → AHeap → Kont → Bool) (fun _ _ _ _ _ _ _ _ => false) (fun _ ih x0 x1 x5 x8 x9 x10 h K => b55_11 call n B5 (fun x0 x1 x5 x8 x9 x10 h => ih x0 x1 x5 x8 x9 x10 h K) x0 x1 x5 x8 x9 x10 h K)
noncomputable def b55_5 (call : CallFn) (n : Nat) (B5 : F3) (x0 x1 x5 : AV) (h : AHeap) (K : Kont) : Bool :=
  lenK x1 fun v1 => l55_11 call n B5 n x0 x1 x5 x1 v1 (.int .i64 0) h K
noncomputable def l55_5 (call : CallFn) (n : Nat) : Nat → AV → AV → AV → AHeap → Kont → Bool :=
  @Nat.rec (fun _ => AV → AV → AV → AHeap → Kont → Bool) (fun _ _ _ _ _ => false) (fun _ ih x0 x1 x5 h K => b55_5 call n (fun x0 x1 x5 h => ih x0 x1 x5 h K) x0 x1 x5 h K)
noncomputable def s55 (call : CallFn) (n : Nat) (x0 x1 : AV) (h : AHeap) (K : Kont) : Bool :=
  l55_5 call n n x0 x1 .nilSlc h K

/-! ### 57 (*proctor/parse.parser).list -/
noncomputable def p57_15 (call : CallFn) (n : Nat) (x0 x1 : AV) (h : AHeap) (K : Kont) : Bool :=
  call (.func 52) [x0, x1] h <| pz K fun v14 h => K (.tup []) h
noncomputable def p57_8002 (call : CallFn) (n : Nat) (B4 : F4) (x0 x1 x2 x14 x17 x19 : AV) (h : AHeap) (K : Kont) : Bool :=
  gK x14 false (pickK x17 x19 (.bool false)) fun v11 => pickK x14 (.bool true) v11 fun v12 => condK v12 (callV call x2 [] h <| pz K fun v13 h => B4 x0 x1 x2 (.bool false) h) (p57_15 call n x0 x1 h K)
noncomputable def p57_8001 (call : CallFn) (n : Nat) (B4 : F4) (x0 x1 x2 x6 x8 x11 : AV) (h : AHeap) (K : Kont) : Bool :=
  gK x8 true (notK x11) fun v4 => pickK x8 v4 (.bool false) fun v5 => gK v5 false (optK (some x6)) fun v6 => gK v5 false (notK v6) fun v7 => gK v5 false (optK (some v7)) fun v8 => gK v8 true (optK (some x0)) fun v9 => gP v8 true (fun k => call (.func 37) [v9, (.str [44])] h (pz K k)) h fun v10 h => p57_8002 call n B4 x0 x1 x2 v5 v8 v10 h K
noncomputable def b57_4 (call : CallFn) (n : Nat) (B4 : F4) (x0 x1 x2 x6 : AV) (h : AHeap) (K : Kont) : Bool :=
  gK x6 true (optK (some x0)) fun v1 => gK x6 true (optK (some x1)) fun v2 => gP x6 true (fun k => call (.func 47) [v1, (.int .i64 0), v2] h (pz K k)) h fun v3 h => p57_8001 call n B4 x0 x1 x2 x6 x6 v3 h K
noncomputable def l57_4 (call : CallFn) (n : Nat) : Nat → AV → AV → AV → AV → AHeap → Kont → Bool :=
  @Nat.rec (fun _ => AV → AV → AV → AV → AHeap → Kont → Bool) (fun _ _ _ _ _ _ => false) (fun _ ih x0 x1 x2 x6 h K => b57_4 call n (fun x0 x1 x2 x6 h => ih x0 x1 x2 x6 h K) x0 x1 x2 x6 h K)
noncomputable def s57 (call : CallFn) (n : Nat) (x0 x1 x2 : AV) (h : AHeap) (K : Kont) : Bool :=
  l57_4 call n n x0 x1 x2 (.bool true) h K

/-! ### 60 (*proctor/lex.lexer).all -/
noncomputable def s60 (call : CallFn) (n : Nat) (x0 : AV) (h : AHeap) (K : Kont) : Bool :=
  boxK h x0 fun v1 h => optK (some (.fn (.func 72) [] [v1])) fun v2 => K v2 h

/-! ### 62 (*proctor/parse.parser).place -/
noncomputable def s62 (call : CallFn) (n : Nat) (x0 : AV) (h : AHeap) (K : Kont) : Bool :=
  nilckK x0 fun v1 => fadrK 1 v1 fun v2 => loadK h v2 fun v3 => nilckK x0 fun v4 => fadrK 0 v4 fun v5 => loadK h v5 fun v6 => lenK v6 fun v7 => lssK v3 v7 fun v8 => condK v8 (nilckK x0 fun v9 => fadrK 0 v9 fun v10 => loadK h v10 fun v11 => nilckK x0 fun v12 => fadrK 1 v12 fun v13 => loadK h v13 fun v14 => iadrK h 4 v11 v14 fun v15 => fadrK 2 v15 fun v16 => loadK h v16 fun v17 => K v17 h) (nilckK x0 fun v18 => fadrK 2 v18 fun v19 => loadK h v19 fun v20 => K v20 h)

/-! ### 63 (*proctor/parse.parser).ahead -/
noncomputable def s63 (call : CallFn) (n : Nat) (x0 x1 : AV) (h : AHeap) (K : Kont) : Bool :=
  allocK h [.int .i64 0, .str [], .int .i64 0, .int .i64 0] 4 fun v1 h => nilckK x0 fun v2 => fadrK 1 v2 fun v3 => loadK h v3 fun v4 => addK v4 x1 fun v5 => nilckK x0 fun v6 => fadrK 0 v6 fun v7 => loadK h v7 fun v8 => lenK v8 fun v9 => lssK v5 v9 fun v10 => condK v10 (nilckK x0 fun v11 => fadrK 0 v11 fun v12 => loadK h v12 fun v13 => nilckK x0 fun v14 => fadrK 1 v14 fun v15 => loadK h v15 fun v16 => addK v16 x1 fun v17 => iadrK h 4 v13 v17 fun v18 => loadGK h 4 v18 fun v19 => storeNK h 4 v1 v19 fun h => optR (resV h [(v1, some (true, 4))]) h K) (buildK [.int .i64 0, .str [], .int .i64 0, .int .i64 0] [(0, 1, (.int .i64 (-1)))] fun v21 => storeNK h 4 v1 v21 fun h => optR (resV h [(v1, some (true, 4))]) h K)

/-! ### 64 proctor/lex.Key -/
noncomputable def p64_156 (call : CallFn) (n : Nat) (x4 : AV) (h : AHeap) (K : Kont) : Bool :=
  condK x4 (K (.bool true) h) (K (.bool false) h)
set_option maxRecDepth 100000 in
noncomputable def s64 (call : CallFn) (n : Nat) (x0 : AV) (h : AHeap) (K : Kont) : Bool :=
  eqlK x0 (.str [99, 108, 97, 115, 115]) fun v1 => condK v1 (p64_156 call n v1 h K) (eqlK x0 (.str [101, 120, 116, 101, 110, 100, 115]) fun v2 => condK v2 (p64_156 call n v2 h K) (eqlK x0 (.str [114, 117, 108, 101]) fun v3 => condK v3 (p64_156 call n v3 h K) (eqlK x0 (.str [113, 117, 101, 114, 121]) fun v4 => condK v4 (p64_156 call n v4 h K) (eqlK x0 (.str [119, 104, 101, 110]) fun v5 => condK v5 (p64_156 call n v5 h K) (eqlK x0 (.str [116, 104, 101, 110]) fun v6 => condK v6 (p64_156 call n v6 h K) (eqlK x0 (.str [101, 110, 100]) fun v7 => condK v7 (p64_156 call n v7 h K) (eqlK x0 (.str [115, 97, 108, 105, 101, 110, 99, 101]) fun v8 => condK v8 (p64_156 call n v8 h K) (eqlK x0 (.str [103, 114, 111, 117, 112]) fun v9 => condK v9 (p64_156 call n v9 h K) (eqlK x0 (.str [102, 108, 111, 119]) fun v10 => condK v10 (p64_156 call n v10 h K) (eqlK x0 (.str [110, 111, 108, 111, 111, 112]) fun v11 => condK v11 (p64_156 call n v11 h K) (eqlK x0 (.str [108, 111, 99, 107]) fun v12 => condK v12 (p64_156 call n v12 h K) (eqlK x0 (.str [110, 111, 116]) fun v13 => condK v13 (p64_156 call n v13 h K) (eqlK x0 (.str [101, 120, 105, 115, 116, 115]) fun v14 => condK v14 (p64_156 call n v14 h K) (eqlK x0 (.str [102, 111, 114, 97, 108, 108]) fun v15 => condK v15 (p64_156 call n v15 h K) (eqlK x0 (.str [111, 114]) fun v16 => condK v16 (p64_156 call n v16 h K) (eqlK x0 (.str [102, 114, 111, 109]) fun v17 => condK v17 (p64_156 call n v17 h K) (eqlK x0 (.str [101, 118, 97, 108]) fun v18 => condK v18 (p64_156 call n v18 h K) (eqlK x0 (.str [97, 99, 99]) fun v19 => condK v19 (p64_156 call n v19 h K) (eqlK x0 (.str [111, 118, 101, 114]) fun v20 => condK v20 (p64_156 call n v20 h K) (eqlK x0 (.str [105, 110, 115, 101, 114, 116]) fun v21 => condK v21 (p64_156 call n v21 h K) (eqlK x0 (.str [108, 111, 103, 105, 99, 97, 108]) fun v22 => condK v22 (p64_156 call n v22 h K) (eqlK x0 (.str [117, 112, 100, 97, 116, 101]) fun v23 => condK v23 (p64_156 call n v23 h K) (eqlK x0 (.str [100, 101, 108, 101, 116, 101]) fun v24 => condK v24 (p64_156 call n v24 h K) (eqlK x0 (.str [102, 111, 99, 117, 115]) fun v25 => condK v25 (p64_156 call n v25 h K) (eqlK x0 (.str [112, 114, 105, 110, 116]) fun v26 => condK v26 (p64_156 call n v26 h K) (eqlK x0 (.str [104, 97, 108, 116]) fun v27 => condK v27 (p64_156 call n v27 h K) (eqlK x0 (.str [116, 114, 117, 101]) fun v28 => condK v28 (p64_156 call n v28 h K) (eqlK x0 (.str [102, 97, 108, 115, 101]) fun v29 => condK v29 (p64_156 call n v29 h K) (eqlK x0 (.str [110, 117, 108, 108]) fun v30 => condK v30 (p64_156 call n v30 h K) (eqlK x0 (.str [115, 105, 122, 101]) fun v31 => condK v31 (p64_156 call n v31 h K) (eqlK x0 (.str [104, 97, 115]) fun v32 => condK v32 (p64_156 call n v32 h K) (eqlK x0 (.str [105, 110, 116]) fun v33 => condK v33 (p64_156 call n v33 h K) (eqlK x0 (.str [98, 111, 111, 108]) fun v34 => condK v34 (p64_156 call n v34 h K) (eqlK x0 (.str [116, 101, 120, 116]) fun v35 => condK v35 (p64_156 call n v35 h K) (eqlK x0 (.str [108, 105, 115, 116]) fun v36 => condK v36 (p64_156 call n v36 h K) (eqlK x0 (.str [97, 110, 121]) fun v37 => condK v37 (p64_156 call n v37 h K) (eqlK x0 (.str [114, 101, 102]) fun v38 => p64_156 call n v38 h K)))))))))))))))))))))))))))))))))))))

/-! ### 65 (*proctor/parse.parser).text -/
noncomputable def s65 (call : CallFn) (n : Nat) (x0 : AV) (h : AHeap) (K : Kont) : Bool :=
  nilckK x0 fun v1 => fadrK 1 v1 fun v2 => loadK h v2 fun v3 => addK v3 (.int .i64 1) fun v4 => nilckK x0 fun v5 => fadrK 1 v5 fun v6 => storeK h v6 v4 fun h => nilckK x0 fun v8 => fadrK 0 v8 fun v9 => loadK h v9 fun v10 => nilckK x0 fun v11 => fadrK 1 v11 fun v12 => loadK h v12 fun v13 => subK v13 (.int .i64 1) fun v14 => iadrK h 4 v10 v14 fun v15 => fadrK 1 v15 fun v16 => loadK h v16 fun v17 => K v17 h

/-! ### 66 (*proctor/parse.parser).enter -/
noncomputable def s66 (call : CallFn) (n : Nat) (x0 x1 : AV) (h : AHeap) (K : Kont) : Bool :=
  nilckK x0 fun v1 => fadrK 3 v1 fun v2 => loadK h v2 fun v3 => addK v3 (.int .i64 1) fun v4 => nilckK x0 fun v5 => fadrK 3 v5 fun v6 => storeK h v6 v4 fun h => nilckK x0 fun v8 => fadrK 3 v8 fun v9 => loadK h v9 fun v10 => gtrK v10 (.int .i64 30) fun v11 => condK v11 (call (.func 61) [x1] h <| pz K fun v12 h => K (.tup []) h) (K (.tup []) h)

/-! ### 67 (*proctor/parse.parser).kind -/
noncomputable def p67_4001 (call : CallFn) (n : Nat) (x1 x6 : AV) (h : AHeap) (K : Kont) : Bool :=
  fldK 0 x6 fun v2 => eqlK v2 x1 fun v3 => K v3 h
noncomputable def s67 (call : CallFn) (n : Nat) (x0 x1 : AV) (h : AHeap) (K : Kont) : Bool :=
  call (.func 63) [x0, (.int .i64 0)] h <| pz K fun v1 h => p67_4001 call n x1 v1 h K

/-! ### 69 (*proctor/parse.parser).cond -/
noncomputable def p69_9001 (call : CallFn) (n : Nat) (x2 x10 : AV) (h : AHeap) (K : Kont) : Bool :=
  buildK [.int .i64 0, .str [], .str [], .nilSlc, .nilSlc, .nilSlc, .nilSlc, .nilSlc, .int .i64 0, .str [], .int .i64 0, .bool false, .int .i64 0, .str [], .nilSlc, .nilSlc, .str [], .str [], .nilSlc] [(0, 1, (.int .i64 2)), (5, 1, x10)] fun v4 => storeNK h 19 x2 v4 fun h => optR (resV h [(x2, some (true, 19))]) h K
noncomputable def p69_15001 (call : CallFn) (n : Nat) (x2 x16 : AV) (h : AHeap) (K : Kont) : Bool :=
  buildK [.int .i64 0, .str [], .str [], .nilSlc, .nilSlc, .nilSlc, .nilSlc, .nilSlc, .int .i64 0, .str [], .int .i64 0, .bool false, .int .i64 0, .str [], .nilSlc, .nilSlc, .str [], .str [], .nilSlc] [(0, 1, (.int .i64 3)), (5, 1, x16)] fun v8 => storeNK h 19 x2 v8 fun h => optR (resV h [(x2, some (true, 19))]) h K
noncomputable def p69_27001 (call : CallFn) (n : Nat) (x0 x2 x3 x32 : AV) (h : AHeap) (K : Kont) : Bool :=
  fadrK 6 x3 fun v21 => storeK h v21 x32 fun h => call (.func 52) [x0, (.str [41])] h <| pz K fun v23 h => loadGK h 19 x3 fun v24 => storeNK h 19 x2 v24 fun h => optR (resV h [(x2, some (true, 19))]) h K
noncomputable def p69_23001 (call : CallFn) (n : Nat) (x0 x2 x25 : AV) (h : AHeap) (K : Kont) : Bool :=
  buildK [.int .i64 0, .str [], .str [], .nilSlc, .nilSlc, .nilSlc, .nilSlc, .nilSlc, .int .i64 0, .str [], .int .i64 0, .bool false, .int .i64 0, .str [], .nilSlc, .nilSlc, .str [], .str [], .nilSlc] [(0, 1, (.int .i64 4)), (5, 1, x25)] fun v14 => allocK h [.int .i64 0, .str [], .str [], .nilSlc, .nilSlc, .nilSlc, .nilSlc, .nilSlc, .int .i64 0, .str [], .int .i64 0, .bool false, .int .i64 0, .str [], .nilSlc, .nilSlc, .str [], .str [], .nilSlc] 19 fun v15 h => storeNK h 19 v15 v14 fun h => optPK (bsliceV h 1 1 [.str []] [(0, (.str [59]))]) fun v17 h => call (.func 40) [x0, v17] h <| pz K fun v18 h => optPK (bsliceV h 1 1 [.str []] [(0, (.str [41]))]) fun v19 h => call (.func 78) [x0, v19] h <| pz K fun v20 h => p69_27001 call n x0 x2 v15 v20 h K
noncomputable def p69_37001 (call : CallFn) (n : Nat) (x2 x41 : AV) (h : AHeap) (K : Kont) : Bool :=
  storeNK h 19 x2 x41 fun h => optR (resV h [(x2, some (true, 19))]) h K
noncomputable def p69_45001 (call : CallFn) (n : Nat) (x0 x2 x48 : AV) (h : AHeap) (K : Kont) : Bool :=
  buildK [.int .i64 0, .str [], .str [], .nilSlc, .nilSlc, .nilSlc, .nilSlc, .nilSlc, .int .i64 0, .str [], .int .i64 0, .bool false, .int .i64 0, .str [], .nilSlc, .nilSlc, .str [], .str [], .nilSlc] [(0, 1, (.int .i64 8)), (8, 8, x48)] fun v32 => allocK h [.int .i64 0, .str [], .str [], .nilSlc, .nilSlc, .nilSlc, .nilSlc, .nilSlc, .int .i64 0, .str [], .int .i64 0, .bool false, .int .i64 0, .str [], .nilSlc, .nilSlc, .str [], .str [], .nilSlc] 19 fun v33 h => storeNK h 19 v33 v32 fun h => call (.func 52) [x0, (.str [41])] h <| pz K fun v35 h => loadGK h 19 v33 fun v36 => storeNK h 19 x2 v36 fun h => optR (resV h [(x2, some (true, 19))]) h K
noncomputable def p69_55001 (call : CallFn) (n : Nat) (x2 x57 : AV) (h : AHeap) (K : Kont) : Bool :=
  storeNK h 19 x2 x57 fun h => optR (resV h [(x2, some (true, 19))]) h K
noncomputable def p69_61001 (call : CallFn) (n : Nat) (x2 x62 : AV) (h : AHeap) (K : Kont) : Bool :=
  storeNK h 19 x2 x62 fun h => optR (resV h [(x2, some (true, 19))]) h K
noncomputable def p69_71001 (call : CallFn) (n : Nat) (x2 x5 x78 : AV) (h : AHeap) (K : Kont) : Bool :=
  fadrK 8 x5 fun v56 => storeNK h 8 v56 x78 fun h => loadGK h 19 x5 fun v58 => storeNK h 19 x2 v58 fun h => optR (resV h [(x2, some (true, 19))]) h K
noncomputable def p69_67001 (call : CallFn) (n : Nat) (x0 x2 x72 : AV) (h : AHeap) (K : Kont) : Bool :=
  buildK [.int .i64 0, .str [], .str [], .nilSlc, .nilSlc, .nilSlc, .nilSlc, .nilSlc, .int .i64 0, .str [], .int .i64 0, .bool false, .int .i64 0, .str [], .nilSlc, .nilSlc, .str [], .str [], .nilSlc] [(0, 1, (.int .i64 6)), (1, 1, x72)] fun v50 => allocK h [.int .i64 0, .str [], .str [], .nilSlc, .nilSlc, .nilSlc, .nilSlc, .nilSlc, .int .i64 0, .str [], .int .i64 0, .bool false, .int .i64 0, .str [], .nilSlc, .nilSlc, .str [], .str [], .nilSlc] 19 fun v51 h => storeNK h 19 v51 v50 fun h => optPK (bsliceV h 1 1 [.str []] [(0, (.str [102, 114, 111, 109]))]) fun v53 h => call (.func 40) [x0, v53] h <| pz K fun v54 h => call (.func 71) [x0] h <| pz K fun v55 h => p69_71001 call n x2 v51 v55 h K
noncomputable def p69_77001 (call : CallFn) (n : Nat) (x2 x82 : AV) (h : AHeap) (K : Kont) : Bool :=
  storeNK h 19 x2 x82 fun h => optR (resV h [(x2, some (true, 19))]) h K
noncomputable def p69_64002 (call : CallFn) (n : Nat) (x0 x2 x66 x68 : AV) (h : AHeap) (K : Kont) : Bool :=
  gK x66 true (notK x68) fun v47 => pickK x66 v47 (.bool false) fun v48 => condK v48 (call (.func 59) [x0] h <| pz K fun v49 h => p69_67001 call n x0 x2 v49 h K) (call (.func 82) [x0] h <| pz K fun v60 h => p69_77001 call n x2 v60 h K)
noncomputable def p69_64001 (call : CallFn) (n : Nat) (x0 x2 x65 : AV) (h : AHeap) (K : Kont) : Bool :=
  gK x65 true (optK (some x0)) fun v45 => gP x65 true (fun k => call (.func 47) [v45, (.int .i64 1), (.str [58])] h (pz K k)) h fun v46 h => p69_64002 call n x0 x2 x65 v46 h K
set_option maxRecDepth 100000 in
noncomputable def s69 (call : CallFn) (n : Nat) (x0 : AV) (h : AHeap) (K : Kont) : Bool :=
  allocK h [.int .i64 0, .str [], .str [], .nilSlc, .nilSlc, .nilSlc, .nilSlc, .nilSlc, .int .i64 0, .str [], .int .i64 0, .bool false, .int .i64 0, .str [], .nilSlc, .nilSlc, .str [], .str [], .nilSlc] 19 fun v1 h => call (.func 37) [x0, (.str [110, 111, 116])] h <| pz K fun v2 h => condK v2 (call (.func 77) [x0] h <| pz K fun v3 h => p69_9001 call n v1 v3 h K) (call (.func 37) [x0, (.str [101, 120, 105, 115, 116, 115])] h <| pz K fun v6 h => condK v6 (call (.func 77) [x0] h <| pz K fun v7 h => p69_15001 call n v1 v7 h K) (call (.func 37) [x0, (.str [102, 111, 114, 97, 108, 108])] h <| pz K fun v10 h => condK v10 (call (.func 49) [x0, (.str [40])] h <| pz K fun v11 h => optPK (bsliceV h 1 1 [.str []] [(0, (.str [59]))]) fun v12 h => call (.func 78) [x0, v12] h <| pz K fun v13 h => p69_23001 call n x0 v1 v13 h K) (call (.func 47) [x0, (.int .i64 0), (.str [40])] h <| pz K fun v26 h => condK v26 (call (.func 79) [x0] h <| pz K fun v27 h => p69_37001 call n v1 v27 h K) (call (.func 37) [x0, (.str [101, 118, 97, 108])] h <| pz K fun v29 h => condK v29 (call (.func 49) [x0, (.str [40])] h <| pz K fun v30 h => call (.func 71) [x0] h <| pz K fun v31 h => p69_45001 call n x0 v1 v31 h K) (call (.func 37) [x0, (.str [97, 99, 99])] h <| pz K fun v38 h => condK v38 (call (.func 80) [x0] h <| pz K fun v39 h => p69_55001 call n v1 v39 h K) (call (.func 37) [x0, (.str [63])] h <| pz K fun v41 h => condK v41 (call (.func 81) [x0] h <| pz K fun v42 h => p69_61001 call n v1 v42 h K) (call (.func 67) [x0, (.int .i64 1)] h <| pz K fun v44 h => p69_64001 call n x0 v1 v44 h K)))))))

/-! ### 72 (*proctor/lex.lexer).all$1 -/
noncomputable def p72_27001 (call : CallFn) (n : Nat) (B1 : F2) (x0 x1 x49 : AV) (h : AHeap) (K : Kont) : Bool :=
  notK x49 fun v47 => condK v47 (K (.tup []) h) (B1 x0 x1 h)
noncomputable def p72_13001 (call : CallFn) (n : Nat) (B1 : F2) (x0 x1 x19 : AV) (h : AHeap) (K : Kont) : Bool :=
  extK 0 x19 fun v15 => extK 1 x19 fun v16 => allocK h [.int .i64 0, .str [], .int .i64 0, .int .i64 0] 4 fun v17 h => storeNK h 4 v17 v15 fun h => eqlK v16 (.int .i64 0) fun v19 => condK v19 (loadK h x1 fun v20 => nilckK v20 fun v21 => fadrK 2 v21 fun v22 => storeK h v22 (.bool true) fun h => K (.tup []) h) (loadK h x1 fun v24 => nilckK v24 fun v25 => fadrK 1 v25 fun v26 => loadK h v26 fun v27 => loadK h x1 fun v28 => nilckK v28 fun v29 => fadrK 1 v29 fun v30 => loadK h v30 fun v31 => addK v31 v16 fun v32 => fadrK 2 v17 fun v33 => storeK h v33 v27 fun h => loadK h x1 <| sameK v28 <| loadK h v30 <| sameK v31 <| fadrK 3 v17 fun v35 => storeK h v35 v32 fun h => loadK h x1 fun v37 => nilckK v37 fun v38 => fadrK 1 v38 fun v39 => loadK h v39 fun v40 => addK v40 v16 fun v41 => nilckK v37 fun v42 => fadrK 1 v42 fun v43 => storeK h v43 v41 fun h => loadGK h 4 v17 fun v45 => callV call x0 [v45] h <| pz K fun v46 h => p72_27001 call n B1 x0 x1 v46 h K)
noncomputable def b72_1 (call : CallFn) (n : Nat) (B1 : F2) (x0 x1 : AV) (h : AHeap) (K : Kont) : Bool :=
  loadK h x1 fun v1 => call (.func 73) [v1] h <| pz K fun v2 h => loadK h x1 fun v3 => nilckK v3 fun v4 => fadrK 1 v4 fun v5 => loadK h v5 fun v6 => loadK h x1 fun v7 => nilckK v7 fun v8 => fadrK 0 v8 fun v9 => loadK h v9 fun v10 => lenSK v10 fun v11 => geqK v6 v11 fun v12 => condK v12 (K (.tup []) h) (loadK h x1 fun v13 => call (.func 74) [v13] h <| pz K fun v14 h => p72_13001 call n B1 x0 x1 v14 h K)
noncomputable def l72_1 (call : CallFn) (n : Nat) : Nat → AV → AV → AHeap → Kont → Bool :=
  @Nat.rec (fun _ => AV → AV → AHeap → Kont → Bool) (fun _ _ _ _ => false) (fun _ ih x0 x1 h K => b72_1 call n (fun x0 x1 h => ih x0 x1 h K) x0 x1 h K)
noncomputable def s72 (call : CallFn) (n : Nat) (x0 x1 : AV) (h : AHeap) (K : Kont) : Bool :=
  l72_1 call n n x0 x1 h K

/-! ### 73 (*proctor/lex.lexer).blank -/
noncomputable def p73_49 (call : CallFn) (n : Nat) (B0 : F1) (x0 x3 : AV) (h : AHeap) (K : Kont) : Bool :=
  nilckK x0 fun v41 => fadrK 1 v41 fun v42 => loadK h v42 fun v43 => addK v43 x3 fun v44 => nilckK x0 fun v45 => fadrK 1 v45 fun v46 => storeK h v46 v44 fun h => B0 x0 h
noncomputable def p73_40001 (call : CallFn) (n : Nat) (B0 : F1) (x0 x31 x33 : AV) (h : AHeap) (K : Kont) : Bool :=
  gK x31 true (eqlK x33 (.int .u8 47)) fun v22 => pickK x31 v22 (.bool false) fun v23 => condK v23 (nilckK x0 fun v24 => fadrK 0 v24 fun v25 => loadK h v25 fun v26 => nilckK x0 fun v27 => fadrK 1 v27 fun v28 => loadK h v28 fun v29 => slsK v26 (some v29) none fun v30 => call (.func 86) [v30, (.int .u8 10)] h <| pz K fun v31 h => lssK v31 (.int .i64 0) fun v32 => condK v32 (nilckK x0 fun v33 => fadrK 0 v33 fun v34 => loadK h v34 fun v35 => lenSK v35 fun v36 => nilckK x0 fun v37 => fadrK 1 v37 fun v38 => loadK h v38 fun v39 => subK v36 v39 fun v40 => p73_49 call n B0 x0 v40 h K) (p73_49 call n B0 x0 v31 h K)) (K (.tup []) h)
noncomputable def j73_0 (call : CallFn) (n : Nat) (B0 : F1) (x0 : AV) (h : AHeap) (K : Kont) : Bool :=
  call (.func 85) [x0, (.int .i64 0)] h <| pz K fun v1 h => eqlK v1 (.int .u8 32) fun v2 => gK v2 false (optK (some v1)) fun v3 => gK v2 false (eqlK v3 (.int .u8 9)) fun v4 => pickK v2 (.bool true) v4 fun v5 => gK v5 false (optK (some v1)) fun v6 => gK v5 false (eqlK v6 (.int .u8 13)) fun v7 => pickK v5 (.bool true) v7 fun v8 => gK v8 false (optK (some v1)) fun v9 => gK v8 false (eqlK v9 (.int .u8 10)) fun v10 => pickK v8 (.bool true) v10 fun v11 => condK v11 (nilckK x0 fun v12 => fadrK 1 v12 fun v13 => loadK h v13 fun v14 => addK v14 (.int .i64 1) fun v15 => nilckK x0 fun v16 => fadrK 1 v16 fun v17 => storeK h v17 v15 fun h => B0 x0 h) (eqlK v1 (.int .u8 47) fun v19 => gK v19 true (optK (some x0)) fun v20 => gP v19 true (fun k => call (.func 85) [v20, (.int .i64 1)] h (pz K k)) h fun v21 h => p73_40001 call n B0 x0 v19 v21 h K)
noncomputable def g73_0 (call : CallFn) (n : Nat) : Nat → AV → AHeap → Kont → Bool :=
  @Nat.rec (fun _ => AV → AHeap → Kont → Bool) (fun _ _ _ => false) (fun _ ih x0 h K => j73_0 call n (fun x0 h => ih x0 h K) x0 h K)
noncomputable def p73_23 (call : CallFn) (n : Nat) (B0 : F1) (x0 x3 : AV) (h : AHeap) (K : Kont) : Bool :=
  nilckK x0 fun v88 => fadrK 1 v88 fun v89 => loadK h v89 fun v90 => addK v90 x3 fun v91 => nilckK x0 fun v92 => fadrK 1 v92 fun v93 => storeK h v93 v91 fun h => B0 x0 h
noncomputable def p73_14001 (call : CallFn) (n : Nat) (B0 : F1) (x0 x31 x33 : AV) (h : AHeap) (K : Kont) : Bool :=
  gK x31 true (eqlK x33 (.int .u8 47)) fun v69 => pickK x31 v69 (.bool false) fun v70 => condK v70 (nilckK x0 fun v71 => fadrK 0 v71 fun v72 => loadK h v72 fun v73 => nilckK x0 fun v74 => fadrK 1 v74 fun v75 => loadK h v75 fun v76 => slsK v73 (some v76) none fun v77 => call (.func 86) [v77, (.int .u8 10)] h <| pz K fun v78 h => lssK v78 (.int .i64 0) fun v79 => condK v79 (nilckK x0 fun v80 => fadrK 0 v80 fun v81 => loadK h v81 fun v82 => lenSK v82 fun v83 => nilckK x0 fun v84 => fadrK 1 v84 fun v85 => loadK h v85 fun v86 => subK v83 v86 fun v87 => p73_23 call n B0 x0 v87 h K) (p73_23 call n B0 x0 v78 h K)) (K (.tup []) h)
noncomputable def f73_0 (call : CallFn) (n : Nat) (B0 : F1) (x0 : AV) (h : AHeap) (K : Kont) : Bool :=
  call (.func 85) [x0, (.int .i64 0)] h <| pz K fun v48 h => eqlK v48 (.int .u8 32) fun v49 => gK v49 false (optK (some v48)) fun v50 => gK v49 false (eqlK v50 (.int .u8 9)) fun v51 => pickK v49 (.bool true) v51 fun v52 => gK v52 false (optK (some v48)) fun v53 => gK v52 false (eqlK v53 (.int .u8 13)) fun v54 => pickK v52 (.bool true) v54 fun v55 => gK v55 false (optK (some v48)) fun v56 => gK v55 false (eqlK v56 (.int .u8 10)) fun v57 => pickK v55 (.bool true) v57 fun v58 => condK v58 (nilckK x0 fun v59 => fadrK 1 v59 fun v60 => loadK h v60 fun v61 => addK v61 (.int .i64 1) fun v62 => nilckK x0 fun v63 => fadrK 1 v63 fun v64 => storeK h v64 v62 fun h => B0 x0 h) (eqlK v48 (.int .u8 47) fun v66 => gK v66 true (optK (some x0)) fun v67 => gP v66 true (fun k => call (.func 85) [v67, (.int .i64 1)] h (pz K k)) h fun v68 h => p73_14001 call n B0 x0 v66 v68 h K)
noncomputable def s73 (call : CallFn) (n : Nat) (x0 : AV) (h : AHeap) (K : Kont) : Bool :=
  f73_0 call n (pF1 (pC1 (g73_0 call n n) K)) x0 h K

/-! ### 74 (*proctor/lex.lexer).next -/
noncomputable def p74_15001 (call : CallFn) (n : Nat) (x2 x3 x18 : AV) (h : AHeap) (K : Kont) : Bool :=
  buildK [.int .i64 0, .str [], .int .i64 0, .int .i64 0] [(0, 1, (.int .i64 0)), (1, 1, x18)] fun v10 => storeNK h 4 x2 v10 fun h => optR (resV h [(x2, some (true, 4)), (x3, none)]) h K
noncomputable def p74_27001 (call : CallFn) (n : Nat) (x2 x3 x30 : AV) (h : AHeap) (K : Kont) : Bool :=
  buildK [.int .i64 0, .str [], .int .i64 0, .int .i64 0] [(0, 1, (.int .i64 1)), (1, 1, x30)] fun v17 => addK x3 (.int .i64 1) fun v18 => storeNK h 4 x2 v17 fun h => optR (resV h [(x2, some (true, 4)), (v18, none)]) h K
noncomputable def p74_39001 (call : CallFn) (n : Nat) (x2 x3 x42 : AV) (h : AHeap) (K : Kont) : Bool :=
  buildK [.int .i64 0, .str [], .int .i64 0, .int .i64 0] [(0, 1, (.int .i64 2)), (1, 1, x42)] fun v26 => storeNK h 4 x2 v26 fun h => optR (resV h [(x2, some (true, 4)), (x3, none)]) h K
noncomputable def p74_45001 (call : CallFn) (n : Nat) (x2 x50 : AV) (h : AHeap) (K : Kont) : Bool :=
  extK 0 x50 fun v31 => extK 1 x50 fun v32 => buildK [.int .i64 0, .str [], .int .i64 0, .int .i64 0] [(0, 1, (.int .i64 3)), (1, 1, v31)] fun v33 => storeNK h 4 x2 v33 fun h => optR (resV h [(x2, some (true, 4)), (v32, none)]) h K
noncomputable def p74_53001 (call : CallFn) (n : Nat) (x2 x3 x60 : AV) (h : AHeap) (K : Kont) : Bool :=
  buildK [.int .i64 0, .str [], .int .i64 0, .int .i64 0] [(0, 1, (.int .i64 4)), (1, 1, x60)] fun v38 => storeNK h 4 x2 v38 fun h => optR (resV h [(x2, some (true, 4)), (x3, none)]) h K
noncomputable def s74 (call : CallFn) (n : Nat) (x0 : AV) (h : AHeap) (K : Kont) : Bool :=
  boxK h x0 fun v1 h => allocK h [.int .i64 0, .str [], .int .i64 0, .int .i64 0] 4 fun v2 h => optK (some (.fn (.func 87) [] [v1])) fun v3 => loadK h v1 fun v4 => call (.func 85) [v4, (.int .i64 0)] h <| pz K fun v5 h => call (.func 88) [v5] h <| pz K fun v6 h => condK v6 (loadK h v1 fun v7 => call (.func 89) [v7, (.int .i64 0)] h <| pz K fun v8 h => callV call v3 [(.int .i64 0), v8] h <| pz K fun v9 h => p74_15001 call n v2 v8 v9 h K) (eqlK v5 (.int .u8 36) fun v12 => condK v12 (loadK h v1 fun v13 => call (.func 89) [v13, (.int .i64 1)] h <| pz K fun v14 h => gtrK v14 (.int .i64 0) fun v15 => condK v15 (callV call v3 [(.int .i64 1), v14] h <| pz K fun v16 h => p74_27001 call n v2 v14 v16 h K) (loadGK h 4 v2 fun v20 => storeNK h 4 v2 v20 fun h => optR (resV h [(v2, some (true, 4)), ((.int .i64 0), none)]) h K)) (call (.func 90) [v5] h <| pz K fun v22 h => condK v22 (loadK h v1 fun v23 => call (.func 91) [v23, (.int .i64 0), (.fn (.func 90) [] [])] h <| pz K fun v24 h => callV call v3 [(.int .i64 0), v24] h <| pz K fun v25 h => p74_39001 call n v2 v24 v25 h K) (eqlK v5 (.int .u8 34) fun v28 => condK v28 (loadK h v1 fun v29 => call (.func 92) [v29] h <| pz K fun v30 h => p74_45001 call n v2 v30 h K) (loadK h v1 fun v35 => call (.func 93) [v35] h <| pz K fun v36 h => callV call v3 [(.int .i64 0), v36] h <| pz K fun v37 h => p74_53001 call n v2 v36 v37 h K))))

/-! ### 78 (*proctor/parse.parser).some -/
noncomputable def p78_4001 (call : CallFn) (n : Nat) (x0 x1 x7 : AV) (h : AHeap) (K : Kont) : Bool :=
  allocK h [.int .i64 0, .str [], .str [], .nilSlc, .nilSlc, .nilSlc, .nilSlc, .nilSlc, .int .i64 0, .str [], .int .i64 0, .bool false, .int .i64 0, .str [], .nilSlc, .nilSlc, .str [], .str [], .nilSlc] 19 fun v2 h => storeNK h 19 v2 x7 fun h => loadGK h 19 v2 fun v4 => optPK (bsliceV h 1 19 [.int .i64 0, .str [], .str [], .nilSlc, .nilSlc, .nilSlc, .nilSlc, .nilSlc, .int .i64 0, .str [], .int .i64 0, .bool false, .int .i64 0, .str [], .nilSlc, .nilSlc, .str [], .str [], .nilSlc] [(0, v4)]) fun v5 h => loadGK h 19 v2 <| sameK v4 <| call (.func 55) [x0, x1] h <| pz (goneQ [v5] K) fun v6 h => loadGK h 19 v2 <| sameK v4 <| appK h 19 328 v5 v6 fun v7 h => K v7 h
noncomputable def s78 (call : CallFn) (n : Nat) (x0 x1 : AV) (h : AHeap) (K : Kont) : Bool :=
  call (.func 69) [x0] h <| pz K fun v1 h => p78_4001 call n x0 x1 v1 h K

/-! ### 79 (*proctor/parse.parser).or -/
noncomputable def p79_25 (call : CallFn) (n : Nat) (x0 x2 x3 : AV) (h : AHeap) (K : Kont) : Bool :=
  call (.func 52) [x0, (.str [41])] h <| pz K fun v25 h => loadGK h 19 x3 fun v26 => storeNK h 19 x2 v26 fun h => optR (resV h [(x2, some (true, 19))]) h K
noncomputable def b79_14 (call : CallFn) (n : Nat) (B14 : F4) (x0 x2 x3 x4 : AV) (h : AHeap) (K : Kont) : Bool :=
  condK x4 (fadrK 7 x3 fun v16 => loadK h v16 fun v17 => optPK (bsliceV h 2 1 [.str []] [(0, (.str [111, 114])), (1, (.str [41]))]) fun v18 h => loadK h v16 <| sameK v17 <| call (.func 78) [x0, v18] h <| pz (goneQ [v18] K) fun v19 h => loadK h v16 <| sameK v17 <| optPK (bsliceV h 1 1 [.nilSlc] [(0, v19)]) fun v20 h => loadK h v16 <| sameK v17 <| appK h 1 24 v17 v20 fun v21 h => fadrK 7 x3 fun v22 => storeK h v22 v21 fun h => call (.func 37) [x0, (.str [111, 114])] h <| pz K fun v24 h => B14 x0 x2 x3 v24 h) (p79_25 call n x0 x2 x3 h K)
noncomputable def l79_14 (call : CallFn) (n : Nat) : Nat → AV → AV → AV → AV → AHeap → Kont → Bool :=
  @Nat.rec (fun _ => AV → AV → AV → AV → AHeap → Kont → Bool) (fun _ _ _ _ _ _ => false) (fun _ ih x0 x2 x3 x4 h K => b79_14 call n (fun x0 x2 x3 x4 h => ih x0 x2 x3 x4 h K) x0 x2 x3 x4 h K)
noncomputable def s79 (call : CallFn) (n : Nat) (x0 : AV) (h : AHeap) (K : Kont) : Bool :=
  allocK h [.int .i64 0, .str [], .str [], .nilSlc, .nilSlc, .nilSlc, .nilSlc, .nilSlc, .int .i64 0, .str [], .int .i64 0, .bool false, .int .i64 0, .str [], .nilSlc, .nilSlc, .str [], .str [], .nilSlc] 19 fun v1 h => buildK [.int .i64 0, .str [], .str [], .nilSlc, .nilSlc, .nilSlc, .nilSlc, .nilSlc, .int .i64 0, .str [], .int .i64 0, .bool false, .int .i64 0, .str [], .nilSlc, .nilSlc, .str [], .str [], .nilSlc] [(0, 1, (.int .i64 5))] fun v2 => allocK h [.int .i64 0, .str [], .str [], .nilSlc, .nilSlc, .nilSlc, .nilSlc, .nilSlc, .int .i64 0, .str [], .int .i64 0, .bool false, .int .i64 0, .str [], .nilSlc, .nilSlc, .str [], .str [], .nilSlc] 19 fun v3 h => storeNK h 19 v3 v2 fun h => call (.func 49) [x0, (.str [40])] h <| pz K fun v5 h => fadrK 7 v3 fun v6 => loadK h v6 fun v7 => optPK (bsliceV h 2 1 [.str []] [(0, (.str [111, 114])), (1, (.str [41]))]) fun v8 h => loadK h v6 <| sameK v7 <| call (.func 78) [x0, v8] h <| pz (goneQ [v8] K) fun v9 h => loadK h v6 <| sameK v7 <| optPK (bsliceV h 1 1 [.nilSlc] [(0, v9)]) fun v10 h => loadK h v6 <| sameK v7 <| appK h 1 24 v7 v10 fun v11 h => fadrK 7 v3 fun v12 => storeK h v12 v11 fun h => optPK (bsliceV h 1 1 [.str []] [(0, (.str [111, 114]))]) fun v14 h => call (.func 40) [x0, v14] h <| pz K fun v15 h => l79_14 call n n x0 v1 v3 (.bool true) h K

/-! ### 82 (*proctor/parse.parser).pattern -/
noncomputable def p82_14001 (call : CallFn) (n : Nat) (x1 x2 x3 x14 : AV) (h : AHeap) (K : Kont) : Bool :=
  fadrK 2 x3 fun v17 => storeK h v17 x14 fun h => loadK h x1 fun v19 => call (.func 49) [v19, (.str [40])] h <| pz K fun v20 h => loadK h x1 fun v21 => optK (some (.fn (.func 100) [] [x1, x3])) fun v22 => call (.func 57) [v21, (.str [41]), v22] h <| pz K fun v23 h => loadGK h 19 x3 fun v24 => storeNK h 19 x2 v24 fun h => optR (resV h [(x2, some (true, 19))]) h K
noncomputable def p82_12 (call : CallFn) (n : Nat) (x1 x2 x3 : AV) (h : AHeap) (K : Kont) : Bool :=
  loadK h x1 fun v15 => call (.func 48) [v15] h <| pz K fun v16 h => p82_14001 call n x1 x2 x3 v16 h K
noncomputable def p82_10001 (call : CallFn) (n : Nat) (x1 x2 x3 x8 : AV) (h : AHeap) (K : Kont) : Bool :=
  fadrK 1 x3 fun v10 => storeK h v10 x8 fun h => loadK h x1 fun v12 => optPK (bsliceV h 1 1 [.str []] [(0, (.str [58]))]) fun v13 h => call (.func 40) [v12, v13] h <| pz K fun v14 h => p82_12 call n x1 x2 x3 h K
noncomputable def s82 (call : CallFn) (n : Nat) (x0 : AV) (h : AHeap) (K : Kont) : Bool :=
  boxK h x0 fun v1 h => allocK h [.int .i64 0, .str [], .str [], .nilSlc, .nilSlc, .nilSlc, .nilSlc, .nilSlc, .int .i64 0, .str [], .int .i64 0, .bool false, .int .i64 0, .str [], .nilSlc, .nilSlc, .str [], .str [], .nilSlc] 19 fun v2 h => buildK [.int .i64 0, .str [], .str [], .nilSlc, .nilSlc, .nilSlc, .nilSlc, .nilSlc, .int .i64 0, .str [], .int .i64 0, .bool false, .int .i64 0, .str [], .nilSlc, .nilSlc, .str [], .str [], .nilSlc] [(0, 1, (.int .i64 1))] fun v3 => allocK h [.int .i64 0, .str [], .str [], .nilSlc, .nilSlc, .nilSlc, .nilSlc, .nilSlc, .int .i64 0, .str [], .int .i64 0, .bool false, .int .i64 0, .str [], .nilSlc, .nilSlc, .str [], .str [], .nilSlc] 19 fun v4 h => storeNK h 19 v4 v3 fun h => loadK h v1 fun v6 => call (.func 67) [v6, (.int .i64 1)] h <| pz K fun v7 h => condK v7 (loadK h v1 fun v8 => call (.func 59) [v8] h <| pz K fun v9 h => p82_10001 call n v1 v2 v4 v9 h K) (p82_12 call n v1 v2 v4 h K)

/-! ### 85 (*proctor/lex.lexer).peek -/
noncomputable def s85 (call : CallFn) (n : Nat) (x0 x1 : AV) (h : AHeap) (K : Kont) : Bool :=
  nilckK x0 fun v1 => fadrK 1 v1 fun v2 => loadK h v2 fun v3 => addK v3 x1 fun v4 => nilckK x0 fun v5 => fadrK 0 v5 fun v6 => loadK h v6 fun v7 => lenSK v7 fun v8 => geqK v4 v8 fun v9 => condK v9 (K (.int .u8 0) h) (nilckK x0 fun v10 => fadrK 0 v10 fun v11 => loadK h v11 fun v12 => nilckK x0 fun v13 => fadrK 1 v13 fun v14 => loadK h v14 fun v15 => addK v15 x1 fun v16 => idxsK v12 v16 fun v17 => K v17 h)

/-! ### 86 strings.IndexByte -/
noncomputable def s86 (call : CallFn) (n : Nat) (x0 x1 : AV) (h : AHeap) (K : Kont) : Bool :=
  call (.func 103) [x0, x1] h <| pz K fun v1 h => K v1 h

/-! ### 87 (*proctor/lex.lexer).next$1 -/
noncomputable def s87 (call : CallFn) (n : Nat) (x0 x1 x2 : AV) (h : AHeap) (K : Kont) : Bool :=
  loadK h x2 fun v1 => nilckK v1 fun v2 => fadrK 0 v2 fun v3 => loadK h v3 fun v4 => loadK h x2 fun v5 => nilckK v5 fun v6 => fadrK 1 v6 fun v7 => loadK h v7 fun v8 => addK v8 x0 fun v9 => loadK h x2 fun v10 => nilckK v10 fun v11 => fadrK 1 v11 fun v12 => loadK h v12 fun v13 => addK v13 x0 fun v14 => addK v14 x1 fun v15 => slsK v4 (some v9) (some v15) fun v16 => K v16 h

/-! ### 88 proctor/lex.letter -/
noncomputable def s88 (call : CallFn) (n : Nat) (x0 : AV) (h : AHeap) (K : Kont) : Bool :=
  geqK x0 (.int .u8 97) fun v1 => gK v1 true (optK (some x0)) fun v2 => gK v1 true (leqK v2 (.int .u8 122)) fun v3 => pickK v1 v3 (.bool false) fun v4 => gK v4 false (optK (some x0)) fun v5 => gK v4 false (geqK v5 (.int .u8 65)) fun v6 => gK v4 false (optK (some v6)) fun v7 => gK v7 true (optK (some x0)) fun v8 => gK v7 true (leqK v8 (.int .u8 90)) fun v9 => gK v4 false (pickK v7 v9 (.bool false)) fun v10 => pickK v4 (.bool true) v10 fun v11 => K v11 h

/-! ### 89 (*proctor/lex.lexer).word -/
noncomputable def p89_5002 (call : CallFn) (n : Nat) (x0 x1 x8 : AV) (h : AHeap) (K : Kont) : Bool :=
  notK x8 fun v3 => condK v3 (K (.int .i64 0) h) (call (.func 91) [x0, x1, (.fn (.func 104) [] [])] h <| pz K fun v4 h => K v4 h)
noncomputable def p89_5001 (call : CallFn) (n : Nat) (x0 x1 x7 : AV) (h : AHeap) (K : Kont) : Bool :=
  call (.func 88) [x7] h <| pz K fun v2 h => p89_5002 call n x0 x1 v2 h K
noncomputable def s89 (call : CallFn) (n : Nat) (x0 x1 : AV) (h : AHeap) (K : Kont) : Bool :=
  call (.func 85) [x0, x1] h <| pz K fun v1 h => p89_5001 call n x0 x1 v1 h K

/-! ### 90 proctor/lex.digit -/
noncomputable def s90 (call : CallFn) (n : Nat) (x0 : AV) (h : AHeap) (K : Kont) : Bool :=
  geqK x0 (.int .u8 48) fun v1 => gK v1 true (optK (some x0)) fun v2 => gK v1 true (leqK v2 (.int .u8 57)) fun v3 => pickK v1 v3 (.bool false) fun v4 => K v4 h

/-! ### 91 (*proctor/lex.lexer).run -/
noncomputable def b91_6 (call : CallFn) (n : Nat) (B6 : F4) (x0 x1 x2 x7 : AV) (h : AHeap) (K : Kont) : Bool :=
  nilckK x0 fun v1 => fadrK 1 v1 fun v2 => loadK h v2 fun v3 => addK v3 x1 fun v4 => addK v4 x7 fun v5 => nilckK x0 fun v6 => fadrK 0 v6 fun v7 => loadK h v7 fun v8 => lenSK v8 fun v9 => lssK v5 v9 fun v10 => gK v10 true (optK (some x2)) fun v11 => gK v10 true (optK (some x0)) fun v12 => gK v10 true (nilckK v12) fun v13 => gK v10 true (fadrK 0 v13) fun v14 => gK v10 true (loadK h v14) fun v15 => gK v10 true (optK (some x0)) fun v16 => gK v10 true (nilckK v16) fun v17 => gK v10 true (fadrK 1 v17) fun v18 => gK v10 true (loadK h v18) fun v19 => gK v10 true (optK (some x1)) fun v20 => gK v10 true (addK v19 v20) fun v21 => gK v10 true (optK (some x7)) fun v22 => gK v10 true (addK v21 v22) fun v23 => gK v10 true (idxsK v15 v23) fun v24 => gP v10 true (fun k => callV call v11 [v24] h (pz K k)) h fun v25 h => pickK v10 v25 (.bool false) fun v26 => condK v26 (addK x7 (.int .i64 1) fun v27 => B6 x0 x1 x2 v27 h) (K x7 h)
noncomputable def l91_6 (call : CallFn) (n : Nat) : Nat → AV → AV → AV → AV → AHeap → Kont → Bool :=
  @Nat.rec (fun _ => AV → AV → AV → AV → AHeap → Kont → Bool) (fun _ _ _ _ _ _ => false) (fun _ ih x0 x1 x2 x7 h K => b91_6 call n (fun x0 x1 x2 x7 h => ih x0 x1 x2 x7 h K) x0 x1 x2 x7 h K)
noncomputable def s91 (call : CallFn) (n : Nat) (x0 x1 x2 : AV) (h : AHeap) (K : Kont) : Bool :=
  l91_6 call n n x0 x1 x2 (.int .i64 0) h K

/-! ### 92 (*proctor/lex.lexer).quoted -/
noncomputable def p92_25001 (call : CallFn) (n : Nat) (B8 : F3) (x5 x30 : AV) (h : AHeap) (K : Kont) : Bool :=
  addK x5 (.int .i64 1) fun v14 => K (.tup [x30, v14]) h
noncomputable def p92_49 (call : CallFn) (n : Nat) (B8 : F3) (x0 x4 x5 : AV) (h : AHeap) (K : Kont) : Bool :=
  addK x5 (.int .i64 1) fun v22 => B8 x0 x4 v22 h
noncomputable def p92_33001 (call : CallFn) (n : Nat) (B8 : F3) (x0 x4 x5 x40 : AV) (h : AHeap) (K : Kont) : Bool :=
  call (.func 86) [(.str [34, 92, 110, 116]), x40] h <| pz K fun v18 h => lssK v18 (.int .i64 0) fun v19 => condK v19 (K (.tup [(.str []), (.int .i64 0)]) h) (idxsK (.str [34, 92, 10, 9]) v18 fun v20 => call (.func 106) [x4, v20] h <| pz K fun v21 h => p92_49 call n B8 x0 x4 x5 h K)
noncomputable def b92_8 (call : CallFn) (n : Nat) (B8 : F3) (x0 x4 x5 : AV) (h : AHeap) (K : Kont) : Bool :=
  nilckK x0 fun v2 => fadrK 1 v2 fun v3 => loadK h v3 fun v4 => addK v4 x5 fun v5 => nilckK x0 fun v6 => fadrK 0 v6 fun v7 => loadK h v7 fun v8 => lenSK v8 fun v9 => lssK v5 v9 fun v10 => condK v10 (call (.func 85) [x0, x5] h <| pz K fun v11 h => eqlK v11 (.int .u8 34) fun v12 => condK v12 (call (.func 105) [x4] h <| pz K fun v13 h => p92_25001 call n B8 x5 v13 h K) (eqlK v11 (.int .u8 92) fun v15 => condK v15 (addK x5 (.int .i64 1) fun v16 => call (.func 85) [x0, v16] h <| pz K fun v17 h => p92_33001 call n B8 x0 x4 v16 v17 h K) (lssK v11 (.int .u8 32) fun v23 => condK v23 (K (.tup [(.str []), (.int .i64 0)]) h) (call (.func 106) [x4, v11] h <| pz K fun v24 h => p92_49 call n B8 x0 x4 x5 h K)))) (K (.tup [(.str []), (.int .i64 0)]) h)
noncomputable def l92_8 (call : CallFn) (n : Nat) : Nat → AV → AV → AV → AHeap → Kont → Bool :=
  @Nat.rec (fun _ => AV → AV → AV → AHeap → Kont → Bool) (fun _ _ _ _ _ => false) (fun _ ih x0 x4 x5 h K => b92_8 call n (fun x0 x4 x5 h => ih x0 x4 x5 h K) x0 x4 x5 h K)
noncomputable def s92 (call : CallFn) (n : Nat) (x0 : AV) (h : AHeap) (K : Kont) : Bool :=
  optPK (allotV h 169 [.nilPtr, .nilSlc]) fun v1 h => l92_8 call n n x0 v1 (.int .i64 1) h K

/-! ### 93 (*proctor/lex.lexer).mark -/
noncomputable def p93_25 (call : CallFn) (n : Nat) (x0 : AV) (h : AHeap) (K : Kont) : Bool :=
  nilckK x0 fun v15 => fadrK 0 v15 fun v16 => loadK h v16 fun v17 => nilckK x0 fun v18 => fadrK 1 v18 fun v19 => loadK h v19 fun v20 => idxsK v17 v20 fun v21 => call (.func 86) [(.str [40, 41, 91, 93, 123, 125, 44, 46, 58, 59, 63, 60, 62, 61, 43, 45, 42, 47, 37, 33]), v21] h <| pz K fun v22 h => geqK v22 (.int .i64 0) fun v23 => condK v23 (K (.int .i64 1) h) (K (.int .i64 0) h)
noncomputable def b93_6 (call : CallFn) (n : Nat) (B6 : F4) (x0 x5 x6 x7 : AV) (h : AHeap) (K : Kont) : Bool :=
  lssK x7 x6 fun v3 => condK v3 (iadrK h 1 x5 x7 fun v4 => loadK h v4 fun v5 => nilckK x0 fun v6 => fadrK 0 v6 fun v7 => loadK h v7 fun v8 => nilckK x0 fun v9 => fadrK 1 v9 fun v10 => loadK h v10 fun v11 => slsK v8 (some v11) none fun v12 => call (.func 107) [v12, v5] h <| pz K fun v13 h => condK v13 (K (.int .i64 2) h) (addK x7 (.int .i64 1) fun v14 => B6 x0 x5 x6 v14 h)) (p93_25 call n x0 h K)
noncomputable def l93_6 (call : CallFn) (n : Nat) : Nat → AV → AV → AV → AV → AHeap → Kont → Bool :=
  @Nat.rec (fun _ => AV → AV → AV → AV → AHeap → Kont → Bool) (fun _ _ _ _ _ _ => false) (fun _ ih x0 x5 x6 x7 h K => b93_6 call n (fun x0 x5 x6 x7 h => ih x0 x5 x6 x7 h K) x0 x5 x6 x7 h K)
noncomputable def s93 (call : CallFn) (n : Nat) (x0 : AV) (h : AHeap) (K : Kont) : Bool :=
  optPK (bsliceV h 6 1 [.str []] [(0, (.str [61, 61])), (1, (.str [33, 61])), (2, (.str [60, 61])), (3, (.str [62, 61])), (4, (.str [38, 38])), (5, (.str [124, 124]))]) fun v1 h => lenK v1 fun v2 => l93_6 call n n x0 v1 v2 (.int .i64 0) h K

/-! ### 103 internal/stringslite.IndexByte -/
noncomputable def s103 (call : CallFn) (n : Nat) (x0 x1 : AV) (h : AHeap) (K : Kont) : Bool :=
  call (.func 114) [x0, x1] h <| pz K fun v1 h => K v1 h

/-! ### 104 (*proctor/lex.lexer).word$1 -/
noncomputable def p104_4002 (call : CallFn) (n : Nat) (x0 x5 x7 : AV) (h : AHeap) (K : Kont) : Bool :=
  pickK x5 (.bool true) x7 fun v4 => gK v4 false (optK (some x0)) fun v5 => gK v4 false (eqlK v5 (.int .u8 95)) fun v6 => pickK v4 (.bool true) v6 fun v7 => K v7 h
noncomputable def p104_4001 (call : CallFn) (n : Nat) (x0 x4 : AV) (h : AHeap) (K : Kont) : Bool :=
  gK x4 false (optK (some x0)) fun v2 => gP x4 false (fun k => call (.func 90) [v2] h (pz K k)) h fun v3 h => p104_4002 call n x0 x4 v3 h K
noncomputable def s104 (call : CallFn) (n : Nat) (x0 : AV) (h : AHeap) (K : Kont) : Bool :=
  call (.func 88) [x0] h <| pz K fun v1 h => p104_4001 call n x0 v1 h K

/-! ### 105 (*strings.Builder).String -/
noncomputable def s105 (call : CallFn) (n : Nat) (x0 : AV) (h : AHeap) (K : Kont) : Bool :=
  nilckK x0 fun v1 => fadrK 1 v1 fun v2 => loadK h v2 fun v3 => optK (sdatA v3) fun v4 => nilckK x0 fun v5 => fadrK 1 v5 fun v6 => loadK h v6 fun v7 => lenK v7 fun v8 => optPK (ustrA h 5 v4 v8) fun v9 h => K v9 h

/-! ### 106 (*strings.Builder).WriteByte -/
noncomputable def s106 (call : CallFn) (n : Nat) (x0 x1 : AV) (h : AHeap) (K : Kont) : Bool :=
  call (.func 115) [x0] h <| pz K fun v1 h => nilckK x0 fun v2 => fadrK 1 v2 fun v3 => loadK h v3 fun v4 => optPK (bsliceV h 1 1 [.int .u8 0] [(0, x1)]) fun v5 h => optPK (appbA h 5 v4 v5) fun v6 h => nilckK x0 fun v7 => fadrK 1 v7 fun v8 => storeK h v8 v6 fun h => K .nilIf h

/-! ### 107 strings.HasPrefix -/
noncomputable def s107 (call : CallFn) (n : Nat) (x0 x1 : AV) (h : AHeap) (K : Kont) : Bool :=
  call (.func 116) [x0, x1] h <| pz K fun v1 h => K v1 h

/-! ### 115 (*strings.Builder).copyCheck -/
noncomputable def p115_4001 (call : CallFn) (n : Nat) (x7 x10 : AV) (h : AHeap) (K : Kont) : Bool :=
  optK (ufrA h 169 2 [] x10) fun v7 => nilckK x7 fun v8 => fadrK 0 v8 fun v9 => storeK h v9 v7 fun h => K (.tup []) h
noncomputable def s115 (call : CallFn) (n : Nat) (x0 : AV) (h : AHeap) (K : Kont) : Bool :=
  nilckK x0 fun v1 => fadrK 0 v1 fun v2 => loadK h v2 fun v3 => optK (eqV h false .ptr v3 .nilPtr) fun v4 => condK v4 (optK (utoA h x0) fun v5 => call (.func 119) [v5] h <| pz K fun v6 h => p115_4001 call n x0 v6 h K) (nilckK x0 fun v11 => fadrK 0 v11 fun v12 => loadK h v12 fun v13 => optK (eqV h true .ptr v13 x0) fun v14 => condK v14 (false) (K (.tup []) h))

/-! ### 116 internal/stringslite.HasPrefix -/
noncomputable def s116 (call : CallFn) (n : Nat) (x0 x1 : AV) (h : AHeap) (K : Kont) : Bool :=
  lenSK x0 fun v1 => lenSK x1 fun v2 => geqK v1 v2 fun v3 => gK v3 true (optK (some x0)) fun v4 => gK v3 true (optK (some x1)) fun v5 => gK v3 true (lenSK v5) fun v6 => gK v3 true (slsK v4 none (some v6)) fun v7 => gK v3 true (optK (some x1)) fun v8 => gK v3 true (eqlK v7 v8) fun v9 => pickK v3 v9 (.bool false) fun v10 => K v10 h

end Go.Proofs.YtgmdelacokkenaaGreatDoor
