/-
  The functions as functions of Lean (printed by wip/tools/gen2.py).
-/
import Derived.Test.YtnapiobolehfhaaGreatDoorAbDn
namespace Go.Proofs.YtnapiobolehfhaaGreatDoor
open Go.Ab
set_option linter.unusedVariables false

/-! ### 4 proctor/parse.Parse -/
noncomputable def p4_6001 (call : CallFn) (n : Nat) (x2 x5 x11 : AV) (h : AHeap) (K : Kont) : Bool :=
  extK 0 x11 fun v5 => extK 1 x11 fun v6 => neqK v6 (.int .i64 0) fun v7 => condK v7 (buildK [.nilSlc, .nilSlc, .nilSlc] [] fun v8 => storeNK h 3 x2 v8 fun h => optR (resV h [(x2, some (true, 3)), (v5, none), (v6, none)]) h K) (loadGK h 3 x5 fun v10 => storeNK h 3 x2 v10 fun h => optR (resV h [(x2, some (true, 3)), ((.int .i64 0), none), ((.int .i64 0), none)]) h K)
noncomputable def s4 (call : CallFn) (n : Nat) (x0 : AV) (h : AHeap) (K : Kont) : Bool :=
  allocK h [.nilSlc, .nilSlc, .nilSlc] 3 fun v1 h => allocK h [.nilSlc, .nilSlc, .nilSlc] 3 fun v2 h => optK (some (.fn (.func 9) [] [v2])) fun v3 => call (.func 8) [x0, v3] h <| pz K fun v4 h => p4_6001 call n v1 v2 v4 h K

/-! ### 5 proctor/check.Check -/
noncomputable def p5_41001 (call : CallFn) (n : Nat) (B28 : F3) (x41 x42 x43 x49 : AV) (h : AHeap) (K : Kont) : Bool :=
  extK 0 x49 fun v27 => extK 1 x49 fun v28 => notK v28 fun v29 => condK v29 (K (.tup [v27, (.int .i64 22)]) h) (addK x43 (.int .i64 1) fun v30 => B28 x41 x42 v30 h)
noncomputable def b5_28 (call : CallFn) (n : Nat) (B28 : F3) (x41 x42 x43 : AV) (h : AHeap) (K : Kont) : Bool :=
  lssK x43 x42 fun v23 => condK v23 (iadrK h 1 x41 x43 fun v24 => loadK h v24 fun v25 => callV call v25 [] h <| pz K fun v26 h => p5_41001 call n B28 x41 x42 x43 v26 h K) (K (.tup [(.str []), (.int .i64 0)]) h)
noncomputable def l5_28 (call : CallFn) (n : Nat) : Nat → AV → AV → AV → AHeap → Kont → Bool :=
  @Nat.rec (fun _ => AV → AV → AV → AHeap → Kont → Bool) (fun _ _ _ _ _ => false) (fun _ ih x41 x42 x43 h K => b5_28 call n (fun x41 x42 x43 h => ih x41 x42 x43 h K) x41 x42 x43 h K)
noncomputable def p5_22 (call : CallFn) (n : Nat) (x1 x6 : AV) (h : AHeap) (K : Kont) : Bool :=
  loadGK h 3 x1 fun v13 => buildK [.nilSlc, .nilSlc, .nilSlc, .nilPtr, .bool false, .int .i64 0] [(0, 3, v13), (3, 1, x6)] fun v14 => optPK (boxA h (none) 6 v14) fun v15 h => optK (some (.fn (.func 13) [v15] [])) fun v16 => optK (some (.fn (.func 14) [v15] [])) fun v17 => optK (some (.fn (.func 15) [v15] [])) fun v18 => optK (some (.fn (.func 16) [v15] [])) fun v19 => optK (some (.fn (.func 17) [v15] [])) fun v20 => optPK (bsliceV h 5 1 [.nilFn] [(0, v16), (1, v17), (2, v18), (3, v19), (4, v20)]) fun v21 h => lenK v21 fun v22 => l5_28 call n n v21 v22 (.int .i64 0) h K
noncomputable def p5_14001 (call : CallFn) (n : Nat) (x1 x22 : AV) (h : AHeap) (K : Kont) : Bool :=
  extK 0 x22 fun v10 => extK 1 x22 fun v11 => neqK v11 (.int .i64 0) fun v12 => condK v12 (K (.tup [(.str []), (.int .i64 10)]) h) (p5_22 call n x1 v10 h K)
noncomputable def p5_12 (call : CallFn) (n : Nat) (x1 : AV) (h : AHeap) (K : Kont) : Bool :=
  fadrK 0 x1 fun v7 => loadK h v7 fun v8 => call (.func 12) [v8] h <| pz K fun v9 h => p5_14001 call n x1 v9 h K
noncomputable def p5_5001 (call : CallFn) (n : Nat) (x1 x14 : AV) (h : AHeap) (K : Kont) : Bool :=
  extK 0 x14 fun v4 => extK 1 x14 fun v5 => eqlK v5 (.int .i64 1) fun v6 => condK v6 (K (.tup [(.str []), (.int .i64 1)]) h) (p5_12 call n x1 h K)
noncomputable def s5 (call : CallFn) (n : Nat) (x0 : AV) (h : AHeap) (K : Kont) : Bool :=
  optPK (boxA h (none) 3 x0) fun v1 h => loadGK h 3 v1 fun v2 => call (.func 11) [v2] h <| pz K fun v3 h => p5_5001 call n v1 v3 h K

/-! ### 7 proctor/proctorlaw7.wakes -/
noncomputable def p7_10001 (call : CallFn) (n : Nat) (x33 x36 : AV) (h : AHeap) (K : Kont) : Bool :=
  pickK x33 x36 (.bool false) fun v26 => K v26 h
noncomputable def p7_8001 (call : CallFn) (n : Nat) (x1 x2 x4 x16 x17 : AV) (h : AHeap) (K : Kont) : Bool :=
  fldK 1 x17 fun v11 => iadrK h 8 v11 (.int .i64 0) fun v12 => fadrK 6 v12 fun v13 => loadK h v13 fun v14 => call (.func 19) [x16, v14] h <| pz K fun v15 h => eqlK x1 (.str [98]) fun v16 => gK v16 true (optK (some x2)) fun v17 => gK v16 true (eqlK v17 (.int .i64 22)) fun v18 => pickK v16 v18 (.bool false) fun v19 => gK v19 true (optK (some x4)) fun v20 => gK v19 true (eqlK v20 (.int .i64 0)) fun v21 => pickK v19 v21 (.bool false) fun v22 => gK v22 true (optK (some v15)) fun v23 => gP v22 true (optPK (bsliceV h 2 1 [.str []] [(0, (.str [112])), (1, (.str [120]))])) h fun v24 h => gP v22 true (fun k => call (.func 20) [v23, v24] h (pz K k)) h fun v25 h => p7_10001 call n v22 v25 h K
noncomputable def p7_6002 (call : CallFn) (n : Nat) (x1 x2 x13 : AV) (h : AHeap) (K : Kont) : Bool :=
  extK 0 x13 fun v7 => extK 1 x13 fun v8 => buildK [.nilSlc, .nilSlc, .nilSlc] [] fun v9 => call (.func 18) [(.str [114, 117, 108, 101, 32, 34, 97, 34, 32, 119, 104, 101, 110, 32, 36, 112, 32, 58, 32, 80, 40, 36, 120, 32, 58, 32, 120, 41, 32, 110, 111, 116, 32, 40, 80, 40, 36, 121, 32, 58, 32, 120, 41, 41, 32, 116, 104, 101, 110, 32, 101, 110, 100])] h <| pz K fun v10 h => p7_8001 call n x1 x2 v8 v9 v10 h K
noncomputable def p7_6001 (call : CallFn) (n : Nat) (x1 x2 x12 : AV) (h : AHeap) (K : Kont) : Bool :=
  call (.func 5) [x12] h <| pz K fun v6 h => p7_6002 call n x1 x2 v6 h K
noncomputable def p7_4002 (call : CallFn) (n : Nat) (x8 : AV) (h : AHeap) (K : Kont) : Bool :=
  extK 0 x8 fun v3 => extK 1 x8 fun v4 => call (.func 18) [(.str [99, 108, 97, 115, 115, 32, 80, 32, 123, 32, 120, 32, 58, 32, 105, 110, 116, 32, 125, 32, 114, 117, 108, 101, 32, 34, 97, 34, 32, 119, 104, 101, 110, 32, 80, 40, 36, 120, 32, 58, 32, 120, 41, 32, 116, 104, 101, 110, 32, 112, 114, 105, 110, 116, 32, 36, 120, 59, 32, 101, 110, 100])] h <| pz K fun v5 h => p7_6001 call n v3 v4 v5 h K
noncomputable def p7_4001 (call : CallFn) (n : Nat) (x7 : AV) (h : AHeap) (K : Kont) : Bool :=
  call (.func 5) [x7] h <| pz K fun v2 h => p7_4002 call n v2 h K
noncomputable def s7 (call : CallFn) (n : Nat) (h : AHeap) (K : Kont) : Bool :=
  call (.func 18) [(.str [99, 108, 97, 115, 115, 32, 80, 32, 123, 32, 120, 32, 58, 32, 105, 110, 116, 32, 125, 32, 114, 117, 108, 101, 32, 34, 97, 34, 32, 119, 104, 101, 110, 32, 80, 40, 36, 120, 32, 58, 32, 120, 41, 32, 116, 104, 101, 110, 32, 112, 114, 105, 110, 116, 32, 36, 120, 59, 32, 101, 110, 100, 32, 114, 117, 108, 101, 32, 34, 98, 34, 32, 119, 104, 101, 110, 32, 110, 111, 116, 32, 40, 80, 40, 36, 120, 32, 58, 32, 120, 41, 41, 32, 116, 104, 101, 110, 32, 112, 114, 105, 110, 116, 32, 36, 120, 59, 32, 101, 110, 100])] h <| pz K fun v1 h => p7_4001 call n v1 h K

/-! ### 8 proctor/parse.caught -/
noncomputable def p8_14001 (call : CallFn) (n : Nat) (x21 : AV) (h : AHeap) (K : Kont) : Bool :=
  extK 0 x21 fun v8 => extK 1 x21 fun v9 => K (.tup [v8, v9]) h
noncomputable def p8_4001 (call : CallFn) (n : Nat) (x0 x1 x9 : AV) (h : AHeap) (K : Kont) : Bool :=
  extK 0 x9 fun v2 => extK 1 x9 fun v3 => extK 2 x9 fun v4 => neqK v4 (.int .i64 0) fun v5 => condK v5 (K (.tup [v3, v4]) h) (lenSK x0 fun v6 => call (.func 22) [v2, v6, x1] h <| pz K fun v7 h => p8_14001 call n v7 h K)
noncomputable def s8 (call : CallFn) (n : Nat) (x0 x1 : AV) (h : AHeap) (K : Kont) : Bool :=
  call (.func 21) [x0] h <| pz K fun v1 h => p8_4001 call n x0 x1 v1 h K

/-! ### 9 proctor/parse.Parse$1 -/
noncomputable def p9_1001 (call : CallFn) (n : Nat) (x1 x4 : AV) (h : AHeap) (K : Kont) : Bool :=
  storeNK h 3 x1 x4 fun h => K (.tup []) h
noncomputable def s9 (call : CallFn) (n : Nat) (x0 x1 : AV) (h : AHeap) (K : Kont) : Bool :=
  call (.func 10) [x0] h <| pz K fun v1 h => p9_1001 call n x1 v1 h K

/-! ### 10 (*proctor/parse.parser).base -/
noncomputable def p10_26 (call : CallFn) (n : Nat) (x2 x3 : AV) (h : AHeap) (K : Kont) : Bool :=
  loadGK h 3 x3 fun v36 => storeNK h 3 x2 v36 fun h => optR (resV h [(x2, some (true, 3))]) h K
set_option maxRecDepth 100000 in
noncomputable def b10_6 (call : CallFn) (n : Nat) (B6 : F3) (x0 x2 x3 : AV) (h : AHeap) (K : Kont) : Bool :=
  nilckK x0 fun v3 => fadrK 1 v3 fun v4 => loadK h v4 fun v5 => nilckK x0 fun v6 => fadrK 0 v6 fun v7 => loadK h v7 fun v8 => lenK v8 fun v9 => lssK v5 v9 fun v10 => condK v10 (call (.func 23) [x0, (.str [99, 108, 97, 115, 115])] h <| pz K fun v11 h => condK v11 (fadrK 0 x3 fun v12 => loadK h v12 fun v13 => call (.func 24) [x0] h <| pz K fun v14 h => loadK h v12 <| sameK v13 <| optPK (bsliceV h 1 3 [.str [], .str [], .nilSlc] [(0, v14)]) fun v15 h => loadK h v12 <| sameK v13 <| appK h 3 56 v13 v15 fun v16 h => fadrK 0 x3 fun v17 => storeK h v17 v16 fun h => B6 x0 x2 x3 h) (call (.func 23) [x0, (.str [114, 117, 108, 101])] h <| pz K fun v19 h => condK v19 (fadrK 1 x3 fun v20 => loadK h v20 fun v21 => call (.func 25) [x0] h <| pz K fun v22 h => loadK h v20 <| sameK v21 <| optPK (bsliceV h 1 8 [.str [], .int .i64 0, .str [], .str [], .bool false, .bool false, .nilSlc, .nilSlc] [(0, v22)]) fun v23 h => loadK h v20 <| sameK v21 <| appK h 8 112 v21 v23 fun v24 h => fadrK 1 x3 fun v25 => storeK h v25 v24 fun h => B6 x0 x2 x3 h) (optPK (bsliceV h 1 1 [.str []] [(0, (.str [113, 117, 101, 114, 121]))]) fun v27 h => call (.func 26) [x0, v27] h <| pz K fun v28 h => fadrK 2 x3 fun v29 => loadK h v29 fun v30 => call (.func 27) [x0] h <| pz K fun v31 h => loadK h v29 <| sameK v30 <| optPK (bsliceV h 1 3 [.str [], .nilSlc, .nilSlc] [(0, v31)]) fun v32 h => loadK h v29 <| sameK v30 <| appK h 3 64 v30 v32 fun v33 h => fadrK 2 x3 fun v34 => storeK h v34 v33 fun h => B6 x0 x2 x3 h))) (p10_26 call n x2 x3 h K)
noncomputable def l10_6 (call : CallFn) (n : Nat) : Nat → AV → AV → AV → AHeap → Kont → Bool :=
  @Nat.rec (fun _ => AV → AV → AV → AHeap → Kont → Bool) (fun _ _ _ _ _ => false) (fun _ ih x0 x2 x3 h K => b10_6 call n (fun x0 x2 x3 h => ih x0 x2 x3 h K) x0 x2 x3 h K)
noncomputable def s10 (call : CallFn) (n : Nat) (x0 : AV) (h : AHeap) (K : Kont) : Bool :=
  allocK h [.nilSlc, .nilSlc, .nilSlc] 3 fun v1 h => allocK h [.nilSlc, .nilSlc, .nilSlc] 3 fun v2 h => l10_6 call n n x0 v1 v2 h K

/-! ### 11 proctor/print.Print -/
noncomputable def p11_24001 (call : CallFn) (n : Nat) (x29 : AV) (h : AHeap) (K : Kont) : Bool :=
  extK 0 x29 fun v19 => extK 1 x29 fun v20 => K (.tup [v19, v20]) h
noncomputable def p11_17001 (call : CallFn) (n : Nat) (x4 x22 x25 : AV) (h : AHeap) (K : Kont) : Bool :=
  gK x22 false (notK x25) fun v16 => pickK x22 (.bool true) v16 fun v17 => condK v17 (K (.tup [(.str []), (.int .i64 1)]) h) (call (.func 33) [x4] h <| pz K fun v18 h => p11_24001 call n v18 h K)
noncomputable def p11_15001 (call : CallFn) (n : Nat) (x1 x4 x17 : AV) (h : AHeap) (K : Kont) : Bool :=
  extK 0 x17 fun v8 => extK 1 x17 fun v9 => allocK h [.nilSlc, .nilSlc, .nilSlc] 3 fun v10 h => storeNK h 3 v10 v8 fun h => notK v9 fun v12 => gK v12 false (loadGK h 3 x1) fun v13 => gK v12 false (loadGK h 3 v10) fun v14 => gP v12 false (fun k => call (.func 32) [v13, v14] h (pz K k)) h fun v15 h => p11_17001 call n x4 v12 v15 h K
noncomputable def p11_4001 (call : CallFn) (n : Nat) (x1 x10 : AV) (h : AHeap) (K : Kont) : Bool :=
  extK 0 x10 fun v4 => extK 1 x10 fun v5 => notK v5 fun v6 => condK v6 (K (.tup [(.str []), (.int .i64 1)]) h) (call (.func 31) [v4] h <| pz K fun v7 h => p11_15001 call n x1 v4 v7 h K)
noncomputable def s11 (call : CallFn) (n : Nat) (x0 : AV) (h : AHeap) (K : Kont) : Bool :=
  optPK (boxA h (none) 3 x0) fun v1 h => optK (some (.fn (.func 29) [] [v1])) fun v2 => call (.func 28) [v2] h <| pz K fun v3 h => p11_4001 call n v1 v3 h K

/-! ### 12 proctor/class.New -/
noncomputable def p12_39001 (call : CallFn) (n : Nat) (B16 : F5) (x0 x4 x6 x13 x14 x15 x43 : AV) (h : AHeap) (K : Kont) : Bool :=
  fadrK 2 x6 fun v35 => storeK h v35 x43 fun h => nilckK x4 fun v37 => fadrK 0 v37 fun v38 => loadK h v38 fun v39 => loadGK h 3 x6 fun v40 => optPK (bsliceV h 1 3 [.str [], .str [], .nilSlc] [(0, v40)]) fun v41 h => loadK h v38 <| sameK v39 <| loadGK h 3 x6 <| sameK v40 <| appK h 3 56 v39 v41 fun v42 h => nilckK x4 fun v43 => fadrK 0 v43 fun v44 => storeK h v44 v42 fun h => addK x15 (.int .i64 1) fun v46 => B16 x0 x4 x13 x14 v46 h
noncomputable def p12_30001 (call : CallFn) (n : Nat) (B16 : F5) (x0 x4 x6 x13 x14 x15 x23 x27 : AV) (h : AHeap) (K : Kont) : Bool :=
  gK x23 false (notK x27) fun v20 => pickK x23 (.bool true) v20 fun v21 => condK v21 (K (.tup [.nilPtr, (.int .i64 10)]) h) (nilckK x4 fun v22 => fadrK 1 v22 fun v23 => loadK h v23 fun v24 => fadrK 0 x6 fun v25 => loadK h v25 fun v26 => nilckK x4 fun v27 => fadrK 0 v27 fun v28 => loadK h v28 fun v29 => lenK v29 fun v30 => optPK (unit (mupdA h (.leaf .str) v24 v26 v30)) fun _ h => fadrK 2 x6 fun v32 => loadK h v32 fun v33 => call (.func 35) [v33] h <| pz K fun v34 h => p12_39001 call n B16 x0 x4 x6 x13 x14 x15 v34 h K)
noncomputable def b12_16 (call : CallFn) (n : Nat) (B16 : F5) (x0 x4 x13 x14 x15 : AV) (h : AHeap) (K : Kont) : Bool :=
  lssK x15 x14 fun v7 => condK v7 (iadrK h 3 x13 x15 fun v8 => loadGK h 3 v8 fun v9 => allocK h [.str [], .str [], .nilSlc] 3 fun v10 h => storeNK h 3 v10 v9 fun h => fadrK 2 v10 fun v12 => loadK h v12 fun v13 => lenK v13 fun v14 => gtrK v14 (.int .i64 62) fun v15 => gK v15 false (optK (some x4)) fun v16 => gK v15 false (loadGK h 3 v10) fun v17 => gK v15 false (optK (some x0)) fun v18 => gP v15 false (fun k => call (.func 34) [v16, v17, v18] h (pz K k)) h fun v19 h => p12_30001 call n B16 x0 x4 v10 x13 x14 x15 v15 v19 h K) (K (.tup [x4, (.int .i64 0)]) h)
noncomputable def l12_16 (call : CallFn) (n : Nat) : Nat → AV → AV → AV → AV → AV → AHeap → Kont → Bool :=
  @Nat.rec (fun _ => AV → AV → AV → AV → AV → AHeap → Kont → Bool) (fun _ _ _ _ _ _ _ => false) (fun _ ih x0 x4 x13 x14 x15 h K => b12_16 call n (fun x0 x4 x13 x14 x15 h => ih x0 x4 x13 x14 x15 h K) x0 x4 x13 x14 x15 h K)
noncomputable def p12_12 (call : CallFn) (n : Nat) (x0 x4 : AV) (h : AHeap) (K : Kont) : Bool :=
  lenK x0 fun v6 => l12_16 call n n x0 x4 x0 v6 (.int .i64 0) h K
noncomputable def s12 (call : CallFn) (n : Nat) (x0 : AV) (h : AHeap) (K : Kont) : Bool :=
  optPK (mkmapV h) fun v1 h => buildK [.nilSlc, .nilMap] [(1, 1, v1)] fun v2 => optPK (boxA h (none) 2 v2) fun v3 h => lenK x0 fun v4 => gtrK v4 (.int .i64 64) fun v5 => condK v5 (K (.tup [.nilPtr, (.int .i64 10)]) h) (p12_12 call n x0 v3 h K)

/-! ### 13 (*proctor/check.checker).names -/
noncomputable def p13_16 (call : CallFn) (n : Nat) (x0 x8 x9 : AV) (h : AHeap) (K : Kont) : Bool :=
  gK x9 true (optK (some x0)) fun v17 => gK x9 true (nilckK v17) fun v18 => gK x9 true (fadrK 0 v18) fun v19 => gK x9 true (fadrK 1 v19) fun v20 => gK x9 true (loadK h v20) fun v21 => gK x9 true (lenK v21) fun v22 => gK x9 true (optK (some x0)) fun v23 => gK x9 true (nilckK v23) fun v24 => gK x9 true (fadrK 0 v24) fun v25 => gK x9 true (fadrK 2 v25) fun v26 => gK x9 true (loadK h v26) fun v27 => gK x9 true (lenK v27) fun v28 => gK x9 true (addK v22 v28) fun v29 => gK x9 true (gtrK v29 (.int .i64 256)) fun v30 => pickK x9 v30 (.bool false) fun v31 => condK v31 (K (.tup [(.str []), (.bool false)]) h) (K (.tup [x8, x9]) h)
noncomputable def p13_15001 (call : CallFn) (n : Nat) (x0 x23 : AV) (h : AHeap) (K : Kont) : Bool :=
  extK 0 x23 fun v15 => extK 1 x23 fun v16 => p13_16 call n x0 v15 v16 h K
noncomputable def p13_10001 (call : CallFn) (n : Nat) (x0 x7 x16 : AV) (h : AHeap) (K : Kont) : Bool :=
  extK 0 x16 fun v12 => extK 1 x16 fun v13 => condK v13 (call (.func 40) [x0, x7, (.fn (.func 43) [] [])] h <| pz K fun v14 h => p13_15001 call n x0 v14 h K) (p13_16 call n x0 v12 v13 h K)
noncomputable def s13 (call : CallFn) (n : Nat) (x0 : AV) (h : AHeap) (K : Kont) : Bool :=
  optPK (mkmapV h) fun v1 h => optPK (mkmapV h) fun v2 h => allocK h [.nilMap] 1 fun v3 h => allocK h [.nilMap] 1 fun v4 h => storeK h v3 v1 fun h => storeK h v4 v2 fun h => allocK h [.nilFn] 1 fun v7 h => storeK h v7 (.fn (.func 36) [] []) fun h => optK (some (.fn (.func 41) [] [v7, v3])) fun v9 => optK (some (.fn (.func 42) [] [v7, v4])) fun v10 => call (.func 40) [x0, v9, v10] h <| pz K fun v11 h => p13_10001 call n x0 (.fn (.func 39) [] []) v11 h K

/-! ### 14 (*proctor/check.checker).conditions -/
noncomputable def p14_4001 (call : CallFn) (n : Nat) (x7 : AV) (h : AHeap) (K : Kont) : Bool :=
  extK 0 x7 fun v6 => extK 1 x7 fun v7 => K (.tup [v6, v7]) h
noncomputable def s14 (call : CallFn) (n : Nat) (x0 : AV) (h : AHeap) (K : Kont) : Bool :=
  boxK h x0 fun v1 h => loadK h v1 fun v2 => optK (some (.fn (.func 45) [] [v1])) fun v3 => optK (some (.fn (.func 49) [] [v1])) fun v4 => call (.func 40) [v2, v3, v4] h <| pz K fun v5 h => p14_4001 call n v5 h K

/-! ### 15 (*proctor/check.checker).actions -/
noncomputable def p15_4001 (call : CallFn) (n : Nat) (x6 : AV) (h : AHeap) (K : Kont) : Bool :=
  extK 0 x6 fun v5 => extK 1 x6 fun v6 => K (.tup [v5, v6]) h
noncomputable def s15 (call : CallFn) (n : Nat) (x0 : AV) (h : AHeap) (K : Kont) : Bool :=
  boxK h x0 fun v1 h => loadK h v1 fun v2 => optK (some (.fn (.func 52) [] [v1])) fun v3 => call (.func 40) [v2, v3, (.fn (.func 55) [] [])] h <| pz K fun v4 h => p15_4001 call n v4 h K

/-! ### 16 (*proctor/check.checker).queries -/
noncomputable def p16_76 (call : CallFn) (n : Nat) (B33 : F5) (B46 : F8) (B60 : F11) (x1 x4 x5 x6 x9 x11 x50 x51 x52 x56 x57 : AV) (h : AHeap) (K : Kont) : Bool :=
  addK x57 (.int .i64 1) fun v74 => B60 x1 x4 x5 x6 x9 x11 x50 x51 x52 x56 v74 h
noncomputable def p16_77 (call : CallFn) (n : Nat) (B33 : F5) (B46 : F8) (x1 x4 x5 x6 x9 x50 x51 x52 : AV) (h : AHeap) (K : Kont) : Bool :=
  addK x52 (.int .i64 1) fun v75 => B46 x1 x4 x5 x6 x9 x50 x51 v75 h
noncomputable def b16_60 (call : CallFn) (n : Nat) (B33 : F5) (B46 : F8) (B60 : F11) (x1 x4 x5 x6 x9 x11 x50 x51 x52 x56 x57 : AV) (h : AHeap) (K : Kont) : Bool :=
  lssK x57 x56 fun v49 => condK v49 (loadK h x6 fun v50 => fadrK 1 x11 fun v51 => loadK h v51 fun v52 => iadrK h 1 v50 v52 fun v53 => loadK h v53 fun v54 => iadrK h 1 v54 x57 fun v55 => loadK h v55 fun v56 => gK v56 true (loadK h x6) fun v57 => gK v56 true (fadrK 0 x11) fun v58 => gK v56 true (loadK h v58) fun v59 => gK v56 true (iadrK h 1 v57 v59) fun v60 => gK v56 true (loadK h v60) fun v61 => gK v56 true (optK (some x57)) fun v62 => gK v56 true (iadrK h 1 v61 v62) fun v63 => gK v56 true (loadK h v63) fun v64 => gK v56 true (notK v64) fun v65 => pickK v56 v65 (.bool false) fun v66 => condK v66 (loadK h x6 fun v67 => fadrK 0 x11 fun v68 => loadK h v68 fun v69 => iadrK h 1 v67 v69 fun v70 => loadK h v70 fun v71 => iadrK h 1 v71 x57 fun v72 => storeK h v72 (.bool true) fun h => p16_76 call n B33 B46 B60 x1 x4 x5 x6 (.bool true) x11 x50 x51 x52 x56 x57 h K) (p16_76 call n B33 B46 B60 x1 x4 x5 x6 x9 x11 x50 x51 x52 x56 x57 h K)) (p16_77 call n B33 B46 x1 x4 x5 x6 x9 x50 x51 x52 h K)
noncomputable def l16_60 (call : CallFn) (n : Nat) (B33 : F5) (B46 : F8) : Nat → AV → AV → AV → AV → AV → AV → AV → AV → AV → AV → AV → AHeap → Kont → Bool :=
  @Nat.rec (fun _ => AV → AV → AV → AV → AV → AV → AV → AV → AV → AV → AV → AHeap → Kont → Bool) (fun _ _ _ _ _ _ _ _ _ _ _ _ _ => false) (fun _ ih x1 x4 x5 x6 x9 x11 x50 x51 x52 x56 x57 h K => b16_60 call n B33 B46 (fun x1 x4 x5 x6 x9 x11 x50 x51 x52 x56 x57 h => ih x1 x4 x5 x6 x9 x11 x50 x51 x52 x56 x57 h K) x1 x4 x5 x6 x9 x11 x50 x51 x52 x56 x57 h K)
noncomputable def p16_53 (call : CallFn) (n : Nat) (B33 : F5) (B46 : F8) (x1 x4 x5 x6 x9 x50 x51 x52 : AV) (h : AHeap) (K : Kont) : Bool :=
  iadrK h 3 x50 x52 fun v45 => loadGK h 3 v45 fun v46 => allocK h [.int .i64 0, .int .i64 0, .bool false] 3 fun v47 h => storeNK h 3 v47 v46 fun h => l16_60 call n B33 B46 n x1 x4 x5 x6 x9 v47 x50 x51 x52 x5 (.int .i64 0) h K
noncomputable def b16_46 (call : CallFn) (n : Nat) (B33 : F5) (B46 : F8) (x1 x4 x5 x6 x9 x50 x51 x52 : AV) (h : AHeap) (K : Kont) : Bool :=
  lssK x52 x51 fun v44 => condK v44 (p16_53 call n B33 B46 x1 x4 x5 x6 x9 x50 x51 x52 h K) (B33 x1 x4 x5 x6 x9 h)
noncomputable def l16_46 (call : CallFn) (n : Nat) (B33 : F5) : Nat → AV → AV → AV → AV → AV → AV → AV → AV → AHeap → Kont → Bool :=
  @Nat.rec (fun _ => AV → AV → AV → AV → AV → AV → AV → AV → AHeap → Kont → Bool) (fun _ _ _ _ _ _ _ _ _ _ => false) (fun _ ih x1 x4 x5 x6 x9 x50 x51 x52 h K => b16_46 call n B33 (fun x1 x4 x5 x6 x9 x50 x51 x52 h => ih x1 x4 x5 x6 x9 x50 x51 x52 h K) x1 x4 x5 x6 x9 x50 x51 x52 h K)
noncomputable def p16_40 (call : CallFn) (n : Nat) (B33 : F5) (x1 x4 x5 x6 : AV) (h : AHeap) (K : Kont) : Bool :=
  loadK h x4 fun v42 => lenK v42 fun v43 => l16_46 call n B33 n x1 x4 x5 x6 (.bool false) v42 v43 (.int .i64 0) h K
noncomputable def p16_82001 (call : CallFn) (n : Nat) (x90 : AV) (h : AHeap) (K : Kont) : Bool :=
  extK 0 x90 fun v81 => extK 1 x90 fun v82 => K (.tup [v81, v82]) h
noncomputable def p16_78 (call : CallFn) (n : Nat) (x1 x4 x6 : AV) (h : AHeap) (K : Kont) : Bool :=
  allocK h [.int .i64 0] 1 fun v76 h => storeK h v76 (.int .i64 (-1)) fun h => loadK h x1 fun v78 => optK (some (.fn (.func 61) [] [v76, x4, x6])) fun v79 => call (.func 40) [v78, (.fn (.func 60) [] []), v79] h <| pz K fun v80 h => p16_82001 call n v80 h K
noncomputable def b16_33 (call : CallFn) (n : Nat) (B33 : F5) (x1 x4 x5 x6 x9 : AV) (h : AHeap) (K : Kont) : Bool :=
  condK x9 (p16_40 call n B33 x1 x4 x5 x6 h K) (p16_78 call n x1 x4 x6 h K)
noncomputable def l16_33 (call : CallFn) (n : Nat) : Nat → AV → AV → AV → AV → AV → AHeap → Kont → Bool :=
  @Nat.rec (fun _ => AV → AV → AV → AV → AV → AHeap → Kont → Bool) (fun _ _ _ _ _ _ _ => false) (fun _ ih x1 x4 x5 x6 x9 h K => b16_33 call n (fun x1 x4 x5 x6 x9 h => ih x1 x4 x5 x6 x9 h K) x1 x4 x5 x6 x9 h K)
noncomputable def p16_29 (call : CallFn) (n : Nat) (x1 x4 x5 x6 : AV) (h : AHeap) (K : Kont) : Bool :=
  l16_33 call n n x1 x4 x5 x6 (.bool true) h K
noncomputable def b16_12 (call : CallFn) (n : Nat) (B12 : F7) (x1 x4 x5 x6 x26 x27 x28 : AV) (h : AHeap) (K : Kont) : Bool :=
  lssK x28 x27 fun v18 => condK v18 (iadrK h 3 x26 x28 fun v19 => loadGK h 3 v19 fun v20 => allocK h [.int .i64 0] 1 fun v21 h => allocK h [.str [], .nilSlc, .nilSlc] 3 fun v22 h => storeK h v21 x28 fun h => storeNK h 3 v22 v20 fun h => loadK h x6 fun v25 => loadK h v21 fun v26 => optPK (mkslA h 1 1 [.bool false] x5 x5) fun v27 h => loadK h x6 <| sameK v25 <| loadK h v21 <| sameK v26 <| iadrK h 1 v25 v26 fun v28 => storeK h v28 v27 fun h => loadK h x6 fun v30 => loadK h v21 fun v31 => iadrK h 1 v30 v31 fun v32 => loadK h v32 fun v33 => loadK h v21 fun v34 => iadrK h 1 v33 v34 fun v35 => storeK h v35 (.bool true) fun h => fadrK 2 v22 fun v37 => loadK h v37 fun v38 => optK (some (.fn (.func 57) [] [x1, x4, v21])) fun v39 => call (.func 56) [v38, (.bool false), v39] h <| pz K fun v40 h => addK x28 (.int .i64 1) fun v41 => B12 x1 x4 x5 x6 x26 x27 v41 h) (p16_29 call n x1 x4 x5 x6 h K)
noncomputable def l16_12 (call : CallFn) (n : Nat) : Nat → AV → AV → AV → AV → AV → AV → AV → AHeap → Kont → Bool :=
  @Nat.rec (fun _ => AV → AV → AV → AV → AV → AV → AV → AHeap → Kont → Bool) (fun _ _ _ _ _ _ _ _ _ => false) (fun _ ih x1 x4 x5 x6 x26 x27 x28 h K => b16_12 call n (fun x1 x4 x5 x6 x26 x27 x28 h => ih x1 x4 x5 x6 x26 x27 x28 h K) x1 x4 x5 x6 x26 x27 x28 h K)
noncomputable def s16 (call : CallFn) (n : Nat) (x0 : AV) (h : AHeap) (K : Kont) : Bool :=
  boxK h x0 fun v1 h => allocK h [.nilSlc] 1 fun v2 h => loadK h v1 fun v3 => nilckK v3 fun v4 => fadrK 0 v4 fun v5 => fadrK 2 v5 fun v6 => loadK h v6 fun v7 => lenK v7 fun v8 => optPK (mkslA h 1 24 [.nilSlc] v8 v8) fun v9 h => allocK h [.nilSlc] 1 fun v10 h => storeK h v10 v9 fun h => loadK h v1 fun v12 => nilckK v12 fun v13 => fadrK 0 v13 fun v14 => fadrK 2 v14 fun v15 => loadK h v15 fun v16 => lenK v16 fun v17 => l16_12 call n n v1 v2 v8 v10 v16 v17 (.int .i64 0) h K

/-! ### 17 (*proctor/check.checker).sizes -/
noncomputable def p17_6001 (call : CallFn) (n : Nat) (x4 x10 : AV) (h : AHeap) (K : Kont) : Bool :=
  extK 0 x10 fun v5 => extK 1 x10 fun v6 => gK v6 true (loadK h x4) fun v7 => gK v6 true (gtrK v7 (.int .i64 512)) fun v8 => pickK v6 v8 (.bool false) fun v9 => condK v9 (K (.tup [(.str []), (.bool false)]) h) (K (.tup [v5, v6]) h)
noncomputable def s17 (call : CallFn) (n : Nat) (x0 : AV) (h : AHeap) (K : Kont) : Bool :=
  allocK h [.int .i64 0] 1 fun v1 h => storeK h v1 (.int .i64 0) fun h => optK (some (.fn (.func 65) [] [v1])) fun v3 => call (.func 40) [x0, v3, (.fn (.func 69) [] [])] h <| pz K fun v4 h => p17_6001 call n v1 v4 h K

/-! ### 18 proctor/proctorlaw7.parsed -/
noncomputable def p18_4001 (call : CallFn) (n : Nat) (x2 x8 : AV) (h : AHeap) (K : Kont) : Bool :=
  extK 0 x8 fun v3 => extK 1 x8 fun v4 => extK 2 x8 fun v5 => allocK h [.nilSlc, .nilSlc, .nilSlc] 3 fun v6 h => storeNK h 3 v6 v3 fun h => loadGK h 3 v6 fun v8 => storeNK h 3 x2 v8 fun h => optR (resV h [(x2, some (true, 3))]) h K
noncomputable def s18 (call : CallFn) (n : Nat) (x0 : AV) (h : AHeap) (K : Kont) : Bool :=
  allocK h [.nilSlc, .nilSlc, .nilSlc] 3 fun v1 h => call (.func 4) [x0] h <| pz K fun v2 h => p18_4001 call n v1 v2 h K

/-! ### 19 proctor/check.Binds -/
noncomputable def s19 (call : CallFn) (n : Nat) (x0 x1 : AV) (h : AHeap) (K : Kont) : Bool :=
  optPK (boxA h (none) 3 x0) fun v1 h => call (.func 70) [x1, .nilSlc, (.int .i64 1)] h <| pz K fun v2 h => K v2 h

/-! ### 20 proctor/proctorref0.EqTexts -/
noncomputable def b20_14 (call : CallFn) (n : Nat) (B14 : F3) (x0 x1 x5 : AV) (h : AHeap) (K : Kont) : Bool :=
  lenK x0 fun v4 => lssK x5 v4 fun v5 => condK v5 (iadrK h 1 x0 x5 fun v6 => loadK h v6 fun v7 => iadrK h 1 x1 x5 fun v8 => loadK h v8 fun v9 => neqK v7 v9 fun v10 => condK v10 (K (.bool false) h) (addK x5 (.int .i64 1) fun v11 => B14 x0 x1 v11 h)) (K (.bool true) h)
noncomputable def l20_14 (call : CallFn) (n : Nat) : Nat → AV → AV → AV → AHeap → Kont → Bool :=
  @Nat.rec (fun _ => AV → AV → AV → AHeap → Kont → Bool) (fun _ _ _ _ _ => false) (fun _ ih x0 x1 x5 h K => b20_14 call n (fun x0 x1 x5 h => ih x0 x1 x5 h K) x0 x1 x5 h K)
noncomputable def p20_10 (call : CallFn) (n : Nat) (x0 x1 : AV) (h : AHeap) (K : Kont) : Bool :=
  l20_14 call n n x0 x1 (.int .i64 0) h K
noncomputable def s20 (call : CallFn) (n : Nat) (x0 x1 : AV) (h : AHeap) (K : Kont) : Bool :=
  lenK x0 fun v1 => lenK x1 fun v2 => neqK v1 v2 fun v3 => condK v3 (K (.bool false) h) (p20_10 call n x0 x1 h K)

/-! ### 21 proctor/lex.Lex -/
noncomputable def p21_12001 (call : CallFn) (n : Nat) (x9 : AV) (h : AHeap) (K : Kont) : Bool :=
  extK 0 x9 fun v4 => extK 1 x9 fun v5 => extK 2 x9 fun v6 => K (.tup [v4, v5, v6]) h
noncomputable def s21 (call : CallFn) (n : Nat) (x0 : AV) (h : AHeap) (K : Kont) : Bool :=
  lenSK x0 fun v1 => gtrK v1 (.int .i64 65536) fun v2 => condK v2 (K (.tup [.nilSlc, (.int .i64 0), (.int .i64 21)]) h) (call (.func 71) [x0] h <| pz K fun v3 h => p21_12001 call n v3 h K)

/-! ### 23 (*proctor/parse.parser).take -/
noncomputable def p23_5001 (call : CallFn) (n : Nat) (x0 x7 : AV) (h : AHeap) (K : Kont) : Bool :=
  notK x7 fun v2 => condK v2 (K (.bool false) h) (nilckK x0 fun v3 => fadrK 1 v3 fun v4 => loadK h v4 fun v5 => addK v5 (.int .i64 1) fun v6 => nilckK x0 fun v7 => fadrK 1 v7 fun v8 => storeK h v8 v6 fun h => K (.bool true) h)
noncomputable def s23 (call : CallFn) (n : Nat) (x0 x1 : AV) (h : AHeap) (K : Kont) : Bool :=
  call (.func 75) [x0, (.int .i64 0), x1] h <| pz K fun v1 h => p23_5001 call n x0 v1 h K

/-! ### 24 (*proctor/parse.parser).class -/
noncomputable def p24_27 (call : CallFn) (n : Nat) (x0 x2 x3 : AV) (h : AHeap) (K : Kont) : Bool :=
  call (.func 80) [x0, (.str [125])] h <| pz K fun v33 h => loadGK h 3 x3 fun v34 => storeNK h 3 x2 v34 fun h => optR (resV h [(x2, some (true, 3))]) h K
noncomputable def p24_20003 (call : CallFn) (n : Nat) (B16 : F4) (x0 x2 x3 x21 x24 x27 x29 : AV) (h : AHeap) (K : Kont) : Bool :=
  gK x24 true (pickK x27 (.bool true) x29) fun v23 => gK x21 false (pickK x24 v23 (.bool false)) fun v24 => pickK x21 (.bool true) v24 fun v25 => condK v25 (fadrK 2 x3 fun v26 => loadK h v26 fun v27 => call (.func 79) [x0] h <| pz K fun v28 h => loadK h v26 <| sameK v27 <| optPK (bsliceV h 1 3 [.str [], .int .i64 0, .str []] [(0, v28)]) fun v29 h => loadK h v26 <| sameK v27 <| appK h 3 40 v27 v29 fun v30 h => fadrK 2 x3 fun v31 => storeK h v31 v30 fun h => B16 x0 x2 x3 (.bool false) h) (p24_27 call n x0 x2 x3 h K)
noncomputable def p24_20002 (call : CallFn) (n : Nat) (B16 : F4) (x0 x2 x3 x21 x24 x26 : AV) (h : AHeap) (K : Kont) : Bool :=
  gK x24 true (optK (some x26)) fun v20 => gK v20 false (optK (some x0)) fun v21 => gP v20 false (fun k => call (.func 78) [v21, (.int .i64 0)] h (pz K k)) h fun v22 h => p24_20003 call n B16 x0 x2 x3 x21 x24 v20 v22 h K
noncomputable def p24_20001 (call : CallFn) (n : Nat) (B16 : F4) (x0 x2 x3 x4 x16 x18 : AV) (h : AHeap) (K : Kont) : Bool :=
  gK x16 true (notK x18) fun v13 => pickK x16 v13 (.bool false) fun v14 => gK v14 false (optK (some x4)) fun v15 => gK v14 false (notK v15) fun v16 => gK v14 false (optK (some v16)) fun v17 => gK v17 true (optK (some x0)) fun v18 => gP v17 true (fun k => call (.func 23) [v18, (.str [44])] h (pz K k)) h fun v19 h => p24_20002 call n B16 x0 x2 x3 v14 v17 v19 h K
noncomputable def b24_16 (call : CallFn) (n : Nat) (B16 : F4) (x0 x2 x3 x4 : AV) (h : AHeap) (K : Kont) : Bool :=
  gK x4 true (optK (some x0)) fun v11 => gP x4 true (fun k => call (.func 75) [v11, (.int .i64 0), (.str [125])] h (pz K k)) h fun v12 h => p24_20001 call n B16 x0 x2 x3 x4 x4 v12 h K
noncomputable def l24_16 (call : CallFn) (n : Nat) : Nat → AV → AV → AV → AV → AHeap → Kont → Bool :=
  @Nat.rec (fun _ => AV → AV → AV → AV → AHeap → Kont → Bool) (fun _ _ _ _ _ _ => false) (fun _ ih x0 x2 x3 x4 h K => b24_16 call n (fun x0 x2 x3 x4 h => ih x0 x2 x3 x4 h K) x0 x2 x3 x4 h K)
noncomputable def p24_10 (call : CallFn) (n : Nat) (x0 x2 x3 : AV) (h : AHeap) (K : Kont) : Bool :=
  call (.func 77) [x0, (.str [123])] h <| pz K fun v10 h => l24_16 call n n x0 x2 x3 (.bool true) h K
noncomputable def p24_9001 (call : CallFn) (n : Nat) (x0 x2 x3 x11 : AV) (h : AHeap) (K : Kont) : Bool :=
  fadrK 1 x3 fun v8 => storeK h v8 x11 fun h => p24_10 call n x0 x2 x3 h K
noncomputable def p24_4001 (call : CallFn) (n : Nat) (x0 x2 x6 : AV) (h : AHeap) (K : Kont) : Bool :=
  buildK [.str [], .str [], .nilSlc] [(0, 1, x6)] fun v3 => allocK h [.str [], .str [], .nilSlc] 3 fun v4 h => storeNK h 3 v4 v3 fun h => call (.func 23) [x0, (.str [101, 120, 116, 101, 110, 100, 115])] h <| pz K fun v6 h => condK v6 (call (.func 76) [x0] h <| pz K fun v7 h => p24_9001 call n x0 x2 v4 v7 h K) (p24_10 call n x0 x2 v4 h K)
noncomputable def s24 (call : CallFn) (n : Nat) (x0 : AV) (h : AHeap) (K : Kont) : Bool :=
  allocK h [.str [], .str [], .nilSlc] 3 fun v1 h => call (.func 76) [x0] h <| pz K fun v2 h => p24_4001 call n x0 v1 v2 h K

/-! ### 25 (*proctor/parse.parser).rule -/
noncomputable def p25_19001 (call : CallFn) (n : Nat) (B6 : F3) (x0 x2 x3 x18 : AV) (h : AHeap) (K : Kont) : Bool :=
  fadrK 1 x3 fun v10 => storeK h v10 x18 fun h => B6 x0 x2 x3 h
noncomputable def p25_23001 (call : CallFn) (n : Nat) (B6 : F3) (x0 x2 x3 x24 : AV) (h : AHeap) (K : Kont) : Bool :=
  fadrK 2 x3 fun v14 => storeK h v14 x24 fun h => B6 x0 x2 x3 h
noncomputable def p25_27001 (call : CallFn) (n : Nat) (B6 : F3) (x0 x2 x3 x30 : AV) (h : AHeap) (K : Kont) : Bool :=
  fadrK 3 x3 fun v18 => storeK h v18 x30 fun h => B6 x0 x2 x3 h
noncomputable def p25_49 (call : CallFn) (n : Nat) (x2 x3 : AV) (h : AHeap) (K : Kont) : Bool :=
  loadGK h 8 x3 fun v42 => storeNK h 8 x2 v42 fun h => optR (resV h [(x2, some (true, 8))]) h K
noncomputable def p25_44001 (call : CallFn) (n : Nat) (B40 : F3) (x0 x2 x3 x44 : AV) (h : AHeap) (K : Kont) : Bool :=
  notK x44 fun v34 => condK v34 (fadrK 7 x3 fun v35 => loadK h v35 fun v36 => call (.func 84) [x0] h <| pz K fun v37 h => loadK h v35 <| sameK v36 <| optPK (bsliceV h 1 12 [.int .i64 0, .str [], .nilSlc, .int .i64 0, .str [], .int .i64 0, .bool false, .int .i64 0, .str [], .nilSlc, .nilSlc, .str []] [(0, v37)]) fun v38 h => loadK h v35 <| sameK v36 <| appK h 12 176 v36 v38 fun v39 h => fadrK 7 x3 fun v40 => storeK h v40 v39 fun h => B40 x0 x2 x3 h) (p25_49 call n x2 x3 h K)
noncomputable def b25_40 (call : CallFn) (n : Nat) (B40 : F3) (x0 x2 x3 : AV) (h : AHeap) (K : Kont) : Bool :=
  call (.func 23) [x0, (.str [101, 110, 100])] h <| pz K fun v33 h => p25_44001 call n B40 x0 x2 x3 v33 h K
noncomputable def l25_40 (call : CallFn) (n : Nat) : Nat → AV → AV → AV → AHeap → Kont → Bool :=
  @Nat.rec (fun _ => AV → AV → AV → AHeap → Kont → Bool) (fun _ _ _ _ _ => false) (fun _ ih x0 x2 x3 h K => b25_40 call n (fun x0 x2 x3 h => ih x0 x2 x3 h K) x0 x2 x3 h K)
noncomputable def p25_36001 (call : CallFn) (n : Nat) (x0 x2 x3 x38 : AV) (h : AHeap) (K : Kont) : Bool :=
  fadrK 6 x3 fun v29 => storeK h v29 x38 fun h => optPK (bsliceV h 1 1 [.str []] [(0, (.str [116, 104, 101, 110]))]) fun v31 h => call (.func 26) [x0, v31] h <| pz K fun v32 h => l25_40 call n n x0 x2 x3 h K
noncomputable def p25_34 (call : CallFn) (n : Nat) (x0 x2 x3 : AV) (h : AHeap) (K : Kont) : Bool :=
  optPK (bsliceV h 1 1 [.str []] [(0, (.str [116, 104, 101, 110]))]) fun v27 h => call (.func 83) [x0, v27] h <| pz K fun v28 h => p25_36001 call n x0 x2 x3 v28 h K
noncomputable def p25_10001 (call : CallFn) (n : Nat) (B6 : F3) (x0 x2 x3 x8 : AV) (h : AHeap) (K : Kont) : Bool :=
  notK x8 fun v7 => condK v7 (call (.func 23) [x0, (.str [115, 97, 108, 105, 101, 110, 99, 101])] h <| pz K fun v8 h => condK v8 (call (.func 82) [x0] h <| pz K fun v9 h => p25_19001 call n B6 x0 x2 x3 v9 h K) (call (.func 23) [x0, (.str [103, 114, 111, 117, 112])] h <| pz K fun v12 h => condK v12 (call (.func 81) [x0] h <| pz K fun v13 h => p25_23001 call n B6 x0 x2 x3 v13 h K) (call (.func 23) [x0, (.str [102, 108, 111, 119])] h <| pz K fun v16 h => condK v16 (call (.func 81) [x0] h <| pz K fun v17 h => p25_27001 call n B6 x0 x2 x3 v17 h K) (call (.func 23) [x0, (.str [110, 111, 108, 111, 111, 112])] h <| pz K fun v20 h => condK v20 (fadrK 4 x3 fun v21 => storeK h v21 (.bool true) fun h => B6 x0 x2 x3 h) (optPK (bsliceV h 1 1 [.str []] [(0, (.str [108, 111, 99, 107]))]) fun v23 h => call (.func 26) [x0, v23] h <| pz K fun v24 h => fadrK 5 x3 fun v25 => storeK h v25 (.bool true) fun h => B6 x0 x2 x3 h))))) (p25_34 call n x0 x2 x3 h K)
noncomputable def b25_6 (call : CallFn) (n : Nat) (B6 : F3) (x0 x2 x3 : AV) (h : AHeap) (K : Kont) : Bool :=
  call (.func 23) [x0, (.str [119, 104, 101, 110])] h <| pz K fun v6 h => p25_10001 call n B6 x0 x2 x3 v6 h K
noncomputable def l25_6 (call : CallFn) (n : Nat) : Nat → AV → AV → AV → AHeap → Kont → Bool :=
  @Nat.rec (fun _ => AV → AV → AV → AHeap → Kont → Bool) (fun _ _ _ _ _ => false) (fun _ ih x0 x2 x3 h K => b25_6 call n (fun x0 x2 x3 h => ih x0 x2 x3 h K) x0 x2 x3 h K)
noncomputable def p25_4001 (call : CallFn) (n : Nat) (x0 x2 x5 : AV) (h : AHeap) (K : Kont) : Bool :=
  buildK [.str [], .int .i64 0, .str [], .str [], .bool false, .bool false, .nilSlc, .nilSlc] [(0, 1, x5)] fun v3 => allocK h [.str [], .int .i64 0, .str [], .str [], .bool false, .bool false, .nilSlc, .nilSlc] 8 fun v4 h => storeNK h 8 v4 v3 fun h => l25_6 call n n x0 x2 v4 h K
noncomputable def s25 (call : CallFn) (n : Nat) (x0 : AV) (h : AHeap) (K : Kont) : Bool :=
  allocK h [.str [], .int .i64 0, .str [], .str [], .bool false, .bool false, .nilSlc, .nilSlc] 8 fun v1 h => call (.func 81) [x0] h <| pz K fun v2 h => p25_4001 call n x0 v1 v2 h K

/-! ### 26 (*proctor/parse.parser).must -/
noncomputable def p26_15001 (call : CallFn) (n : Nat) (B3 : F4) (x0 x6 x7 x8 x12 x15 : AV) (h : AHeap) (K : Kont) : Bool :=
  call (.func 74) [x12, x15] h <| pz K fun v6 h => addK x8 (.int .i64 1) fun v7 => B3 x0 x6 x7 v7 h
noncomputable def b26_3 (call : CallFn) (n : Nat) (B3 : F4) (x0 x6 x7 x8 : AV) (h : AHeap) (K : Kont) : Bool :=
  lssK x8 x7 fun v2 => condK v2 (iadrK h 1 x6 x8 fun v3 => loadK h v3 fun v4 => call (.func 23) [x0, v4] h <| pz K fun v5 h => p26_15001 call n B3 x0 x6 x7 x8 x0 v5 h K) (K (.tup []) h)
noncomputable def l26_3 (call : CallFn) (n : Nat) : Nat → AV → AV → AV → AV → AHeap → Kont → Bool :=
  @Nat.rec (fun _ => AV → AV → AV → AV → AHeap → Kont → Bool) (fun _ _ _ _ _ _ => false) (fun _ ih x0 x6 x7 x8 h K => b26_3 call n (fun x0 x6 x7 x8 h => ih x0 x6 x7 x8 h K) x0 x6 x7 x8 h K)
noncomputable def s26 (call : CallFn) (n : Nat) (x0 x1 : AV) (h : AHeap) (K : Kont) : Bool :=
  lenK x1 fun v1 => l26_3 call n n x0 x1 v1 (.int .i64 0) h K

/-! ### 27 (*proctor/parse.parser).query -/
noncomputable def p27_10001 (call : CallFn) (n : Nat) (x1 x2 x3 x14 : AV) (h : AHeap) (K : Kont) : Bool :=
  fadrK 2 x3 fun v16 => storeK h v16 x14 fun h => loadK h x1 fun v18 => optPK (bsliceV h 1 1 [.str []] [(0, (.str [101, 110, 100]))]) fun v19 h => call (.func 26) [v18, v19] h <| pz K fun v20 h => loadGK h 3 x3 fun v21 => storeNK h 3 x2 v21 fun h => optR (resV h [(x2, some (true, 3))]) h K
noncomputable def p27_4001 (call : CallFn) (n : Nat) (x1 x2 x5 : AV) (h : AHeap) (K : Kont) : Bool :=
  buildK [.str [], .nilSlc, .nilSlc] [(0, 1, x5)] fun v5 => allocK h [.str [], .nilSlc, .nilSlc] 3 fun v6 h => storeNK h 3 v6 v5 fun h => loadK h x1 fun v8 => call (.func 77) [v8, (.str [40])] h <| pz K fun v9 h => loadK h x1 fun v10 => optK (some (.fn (.func 86) [] [v6, x1])) fun v11 => call (.func 85) [v10, (.str [41]), v11] h <| pz K fun v12 h => loadK h x1 fun v13 => optPK (bsliceV h 1 1 [.str []] [(0, (.str [101, 110, 100]))]) fun v14 h => call (.func 83) [v13, v14] h <| pz K fun v15 h => p27_10001 call n x1 x2 v6 v15 h K
noncomputable def s27 (call : CallFn) (n : Nat) (x0 : AV) (h : AHeap) (K : Kont) : Bool :=
  boxK h x0 fun v1 h => allocK h [.str [], .nilSlc, .nilSlc] 3 fun v2 h => loadK h v1 fun v3 => call (.func 76) [v3] h <| pz K fun v4 h => p27_4001 call n v1 v2 v4 h K

/-! ### 29 proctor/print.Print$1 -/
noncomputable def s29 (call : CallFn) (n : Nat) (x0 x1 : AV) (h : AHeap) (K : Kont) : Bool :=
  loadGK h 3 x1 fun v1 => call (.func 30) [x0, v1] h <| pz K fun v2 h => K (.tup []) h

/-! ### 30 (*proctor/print.writer).base -/
noncomputable def b30_39 (call : CallFn) (n : Nat) (B39 : F4) (x0 x33 x34 x35 : AV) (h : AHeap) (K : Kont) : Bool :=
  lssK x35 x34 fun v27 => condK v27 (iadrK h 3 x33 x35 fun v28 => loadGK h 3 v28 fun v29 => allocK h [.str [], .nilSlc, .nilSlc] 3 fun v30 h => storeNK h 3 v30 v29 fun h => loadGK h 3 v30 fun v32 => call (.func 91) [x0, v32] h <| pz K fun v33 h => addK x35 (.int .i64 1) fun v34 => B39 x0 x33 x34 v34 h) (K (.tup []) h)
noncomputable def l30_39 (call : CallFn) (n : Nat) : Nat → AV → AV → AV → AV → AHeap → Kont → Bool :=
  @Nat.rec (fun _ => AV → AV → AV → AV → AHeap → Kont → Bool) (fun _ _ _ _ _ _ => false) (fun _ ih x0 x33 x34 x35 h K => b30_39 call n (fun x0 x33 x34 x35 h => ih x0 x33 x34 x35 h K) x0 x33 x34 x35 h K)
noncomputable def p30_36 (call : CallFn) (n : Nat) (x0 x3 : AV) (h : AHeap) (K : Kont) : Bool :=
  fadrK 2 x3 fun v24 => loadK h v24 fun v25 => lenK v25 fun v26 => l30_39 call n n x0 v25 v26 (.int .i64 0) h K
noncomputable def b30_23 (call : CallFn) (n : Nat) (B23 : F5) (x0 x3 x22 x23 x24 : AV) (h : AHeap) (K : Kont) : Bool :=
  lssK x24 x23 fun v16 => condK v16 (iadrK h 8 x22 x24 fun v17 => loadGK h 8 v17 fun v18 => allocK h [.str [], .int .i64 0, .str [], .str [], .bool false, .bool false, .nilSlc, .nilSlc] 8 fun v19 h => storeNK h 8 v19 v18 fun h => loadGK h 8 v19 fun v21 => call (.func 90) [x0, v21] h <| pz K fun v22 h => addK x24 (.int .i64 1) fun v23 => B23 x0 x3 x22 x23 v23 h) (p30_36 call n x0 x3 h K)
noncomputable def l30_23 (call : CallFn) (n : Nat) : Nat → AV → AV → AV → AV → AV → AHeap → Kont → Bool :=
  @Nat.rec (fun _ => AV → AV → AV → AV → AV → AHeap → Kont → Bool) (fun _ _ _ _ _ _ _ => false) (fun _ ih x0 x3 x22 x23 x24 h K => b30_23 call n (fun x0 x3 x22 x23 x24 h => ih x0 x3 x22 x23 x24 h K) x0 x3 x22 x23 x24 h K)
noncomputable def p30_19 (call : CallFn) (n : Nat) (x0 x3 : AV) (h : AHeap) (K : Kont) : Bool :=
  fadrK 1 x3 fun v13 => loadK h v13 fun v14 => lenK v14 fun v15 => l30_23 call n n x0 x3 v14 v15 (.int .i64 0) h K
noncomputable def b30_6 (call : CallFn) (n : Nat) (B6 : F5) (x0 x3 x11 x12 x13 : AV) (h : AHeap) (K : Kont) : Bool :=
  lssK x13 x12 fun v5 => condK v5 (iadrK h 3 x11 x13 fun v6 => loadGK h 3 v6 fun v7 => allocK h [.str [], .str [], .nilSlc] 3 fun v8 h => storeNK h 3 v8 v7 fun h => loadGK h 3 v8 fun v10 => call (.func 89) [x0, v10] h <| pz K fun v11 h => addK x13 (.int .i64 1) fun v12 => B6 x0 x3 x11 x12 v12 h) (p30_19 call n x0 x3 h K)
noncomputable def l30_6 (call : CallFn) (n : Nat) : Nat → AV → AV → AV → AV → AV → AHeap → Kont → Bool :=
  @Nat.rec (fun _ => AV → AV → AV → AV → AV → AHeap → Kont → Bool) (fun _ _ _ _ _ _ _ => false) (fun _ ih x0 x3 x11 x12 x13 h K => b30_6 call n (fun x0 x3 x11 x12 x13 h => ih x0 x3 x11 x12 x13 h K) x0 x3 x11 x12 x13 h K)
noncomputable def s30 (call : CallFn) (n : Nat) (x0 x1 : AV) (h : AHeap) (K : Kont) : Bool :=
  optPK (boxA h (none) 3 x1) fun v1 h => fadrK 0 v1 fun v2 => loadK h v2 fun v3 => lenK v3 fun v4 => l30_6 call n n x0 v1 v3 v4 (.int .i64 0) h K

/-! ### 31 proctor/parse.Long -/
noncomputable def p31_16001 (call : CallFn) (n : Nat) (x2 x7 x22 : AV) (h : AHeap) (K : Kont) : Bool :=
  extK 0 x22 fun v13 => extK 1 x22 fun v14 => loadGK h 3 x7 fun v15 => eqlK v14 (.int .i64 0) fun v16 => storeNK h 3 x2 v15 fun h => optR (resV h [(x2, some (true, 3)), (v16, none)]) h K
noncomputable def p31_4001 (call : CallFn) (n : Nat) (x0 x2 x10 : AV) (h : AHeap) (K : Kont) : Bool :=
  extK 0 x10 fun v3 => extK 1 x10 fun v4 => extK 2 x10 fun v5 => neqK v5 (.int .i64 0) fun v6 => condK v6 (buildK [.nilSlc, .nilSlc, .nilSlc] [] fun v7 => storeNK h 3 x2 v7 fun h => optR (resV h [(x2, some (true, 3)), ((.bool false), none)]) h K) (allocK h [.nilSlc, .nilSlc, .nilSlc] 3 fun v9 h => lenSK x0 fun v10 => optK (some (.fn (.func 92) [] [v9])) fun v11 => call (.func 22) [v3, v10, v11] h <| pz K fun v12 h => p31_16001 call n x2 v9 v12 h K)
noncomputable def s31 (call : CallFn) (n : Nat) (x0 : AV) (h : AHeap) (K : Kont) : Bool :=
  allocK h [.nilSlc, .nilSlc, .nilSlc] 3 fun v1 h => call (.func 71) [x0] h <| pz K fun v2 h => p31_4001 call n x0 v1 v2 h K

/-! ### 32 proctor/print.sameBase -/
noncomputable def p32_4003 (call : CallFn) (n : Nat) (x17 x22 : AV) (h : AHeap) (K : Kont) : Bool :=
  pickK x17 x22 (.bool false) fun v19 => K v19 h
noncomputable def p32_4002 (call : CallFn) (n : Nat) (x2 x3 x10 x15 : AV) (h : AHeap) (K : Kont) : Bool :=
  pickK x10 x15 (.bool false) fun v13 => gK v13 true (fadrK 2 x2) fun v14 => gK v13 true (loadK h v14) fun v15 => gK v13 true (fadrK 2 x3) fun v16 => gK v13 true (loadK h v16) fun v17 => gP v13 true (fun k => call (.func 97) [v15, v17, (.fn (.func 98) [] [])] h (pz K k)) h fun v18 h => p32_4003 call n v13 v18 h K
noncomputable def p32_4001 (call : CallFn) (n : Nat) (x2 x3 x9 : AV) (h : AHeap) (K : Kont) : Bool :=
  gK x9 true (fadrK 1 x2) fun v8 => gK x9 true (loadK h v8) fun v9 => gK x9 true (fadrK 1 x3) fun v10 => gK x9 true (loadK h v10) fun v11 => gP x9 true (fun k => call (.func 95) [v9, v11, (.fn (.func 96) [] [])] h (pz K k)) h fun v12 h => p32_4002 call n x2 x3 x9 v12 h K
noncomputable def s32 (call : CallFn) (n : Nat) (x0 x1 : AV) (h : AHeap) (K : Kont) : Bool :=
  optPK (boxA h (none) 3 x0) fun v1 h => optPK (boxA h (none) 3 x1) fun v2 h => fadrK 0 v1 fun v3 => loadK h v3 fun v4 => fadrK 0 v2 fun v5 => loadK h v5 fun v6 => call (.func 93) [v4, v6, (.fn (.func 94) [] [])] h <| pz K fun v7 h => p32_4001 call n v1 v2 v7 h K

/-! ### 33 proctor/print.told -/
noncomputable def s33 (call : CallFn) (n : Nat) (x0 : AV) (h : AHeap) (K : Kont) : Bool :=
  lenSK x0 fun v1 => gtrK v1 (.int .i64 65536) fun v2 => condK v2 (K (.tup [(.str []), (.int .i64 21)]) h) (K (.tup [x0, (.int .i64 0)]) h)

/-! ### 35 slices.Clone[[]proctor/api.Field,proctor/api.Field] -/
noncomputable def s35 (call : CallFn) (n : Nat) (x0 : AV) (h : AHeap) (K : Kont) : Bool :=
  optK (eqV h false .slc x0 .nilSlc) fun v1 => condK v1 (K .nilSlc h) (optPK (bsliceV h 0 3 [.str [], .int .i64 0, .str []] []) fun v2 h => appK h 3 40 v2 x0 fun v3 h => K v3 h)

/-! ### 36 (*proctor/check.checker).names$1 -/
noncomputable def p36_4001 (call : CallFn) (n : Nat) (x0 x1 x8 : AV) (h : AHeap) (K : Kont) : Bool :=
  notK x8 fun v2 => call (.func 38) [x0, x1] h <| pz K fun v3 h => K v2 h
noncomputable def s36 (call : CallFn) (n : Nat) (x0 x1 : AV) (h : AHeap) (K : Kont) : Bool :=
  call (.func 37) [x0, x1] h <| pz K fun v1 h => p36_4001 call n x0 x1 v1 h K

/-! ### 37 (proctor/check.scope).has -/
noncomputable def s37 (call : CallFn) (n : Nat) (x0 x1 : AV) (h : AHeap) (K : Kont) : Bool :=
  optK (lookA h (.leaf .str) false (.int .i64 0) x0 x1) fun v1 => eqlK v1 (.int .i64 1) fun v2 => K v2 h

/-! ### 38 (proctor/check.scope).put -/
noncomputable def s38 (call : CallFn) (n : Nat) (x0 x1 : AV) (h : AHeap) (K : Kont) : Bool :=
  optK (lookA h (.leaf .str) false (.int .i64 0) x0 x1) fun v1 => neqK v1 (.int .i64 2) fun v2 => call (.func 104) [v2] h <| pz K fun v3 h => optPK (unit (mupdA h (.leaf .str) x0 x1 (.int .i64 1))) fun _ h => K (.tup []) h

/-! ### 39 (*proctor/check.checker).names$2 -/
noncomputable def s39 (call : CallFn) (n : Nat) (x0 : AV) (h : AHeap) (K : Kont) : Bool :=
  optPK (boxA h (none) 8 x0) fun v1 h => K (.bool true) h

/-! ### 40 (*proctor/check.checker).each -/
noncomputable def p40_19001 (call : CallFn) (n : Nat) (B6 : F6) (x0 x1 x2 x9 x16 x17 x18 x24 : AV) (h : AHeap) (K : Kont) : Bool :=
  notK x24 fun v13 => condK v13 (fadrK 0 x9 fun v14 => loadK h v14 fun v15 => K (.tup [v15, (.bool false)]) h) (addK x18 (.int .i64 1) fun v16 => B6 x0 x1 x2 x16 x17 v16 h)
noncomputable def p40_42001 (call : CallFn) (n : Nat) (B29 : F4) (x2 x11 x33 x34 x35 x41 : AV) (h : AHeap) (K : Kont) : Bool :=
  notK x41 fun v29 => condK v29 (fadrK 0 x11 fun v30 => loadK h v30 fun v31 => K (.tup [v31, (.bool false)]) h) (addK x35 (.int .i64 1) fun v32 => B29 x2 x33 x34 v32 h)
noncomputable def b40_29 (call : CallFn) (n : Nat) (B29 : F4) (x2 x33 x34 x35 : AV) (h : AHeap) (K : Kont) : Bool :=
  lssK x35 x34 fun v22 => condK v22 (iadrK h 3 x33 x35 fun v23 => loadGK h 3 v23 fun v24 => allocK h [.str [], .nilSlc, .nilSlc] 3 fun v25 h => storeNK h 3 v25 v24 fun h => loadGK h 3 v25 fun v27 => callV call x2 [v27] h <| pz K fun v28 h => p40_42001 call n B29 x2 v25 x33 x34 x35 v28 h K) (K (.tup [(.str []), (.bool true)]) h)
noncomputable def l40_29 (call : CallFn) (n : Nat) : Nat → AV → AV → AV → AV → AHeap → Kont → Bool :=
  @Nat.rec (fun _ => AV → AV → AV → AV → AHeap → Kont → Bool) (fun _ _ _ _ _ _ => false) (fun _ ih x2 x33 x34 x35 h K => b40_29 call n (fun x2 x33 x34 x35 h => ih x2 x33 x34 x35 h K) x2 x33 x34 x35 h K)
noncomputable def p40_25 (call : CallFn) (n : Nat) (x0 x2 : AV) (h : AHeap) (K : Kont) : Bool :=
  nilckK x0 fun v17 => fadrK 0 v17 fun v18 => fadrK 2 v18 fun v19 => loadK h v19 fun v20 => lenK v20 fun v21 => l40_29 call n n x2 v20 v21 (.int .i64 0) h K
noncomputable def b40_6 (call : CallFn) (n : Nat) (B6 : F6) (x0 x1 x2 x16 x17 x18 : AV) (h : AHeap) (K : Kont) : Bool :=
  lssK x18 x17 fun v6 => condK v6 (iadrK h 8 x16 x18 fun v7 => loadGK h 8 v7 fun v8 => allocK h [.str [], .int .i64 0, .str [], .str [], .bool false, .bool false, .nilSlc, .nilSlc] 8 fun v9 h => storeNK h 8 v9 v8 fun h => loadGK h 8 v9 fun v11 => callV call x1 [v11] h <| pz K fun v12 h => p40_19001 call n B6 x0 x1 x2 v9 x16 x17 x18 v12 h K) (p40_25 call n x0 x2 h K)
noncomputable def l40_6 (call : CallFn) (n : Nat) : Nat → AV → AV → AV → AV → AV → AV → AHeap → Kont → Bool :=
  @Nat.rec (fun _ => AV → AV → AV → AV → AV → AV → AHeap → Kont → Bool) (fun _ _ _ _ _ _ _ _ => false) (fun _ ih x0 x1 x2 x16 x17 x18 h K => b40_6 call n (fun x0 x1 x2 x16 x17 x18 h => ih x0 x1 x2 x16 x17 x18 h K) x0 x1 x2 x16 x17 x18 h K)
noncomputable def s40 (call : CallFn) (n : Nat) (x0 x1 x2 : AV) (h : AHeap) (K : Kont) : Bool :=
  nilckK x0 fun v1 => fadrK 0 v1 fun v2 => fadrK 1 v2 fun v3 => loadK h v3 fun v4 => lenK v4 fun v5 => l40_6 call n n x0 x1 x2 v4 v5 (.int .i64 0) h K

/-! ### 41 (*proctor/check.checker).names$3 -/
noncomputable def s41 (call : CallFn) (n : Nat) (x0 x1 x2 : AV) (h : AHeap) (K : Kont) : Bool :=
  optPK (boxA h (none) 8 x0) fun v1 h => loadK h x1 fun v2 => loadK h x2 fun v3 => fadrK 0 v1 fun v4 => loadK h v4 fun v5 => callV call v2 [v3, v5] h <| pz K fun v6 h => K v6 h

/-! ### 42 (*proctor/check.checker).names$4 -/
noncomputable def s42 (call : CallFn) (n : Nat) (x0 x1 x2 : AV) (h : AHeap) (K : Kont) : Bool :=
  optPK (boxA h (none) 3 x0) fun v1 h => loadK h x1 fun v2 => loadK h x2 fun v3 => fadrK 0 v1 fun v4 => loadK h v4 fun v5 => callV call v2 [v3, v5] h <| pz K fun v6 h => K v6 h

/-! ### 43 (*proctor/check.checker).names$5 -/
noncomputable def s43 (call : CallFn) (n : Nat) (x0 : AV) (h : AHeap) (K : Kont) : Bool :=
  optPK (boxA h (none) 3 x0) fun v1 h => loadGK h 3 v1 fun v2 => fadrK 1 v1 fun v3 => loadK h v3 fun v4 => lenK v4 fun v5 => call (.func 44) [v2] h <| pz K fun v6 h => loadK h v3 <| sameK v4 <| lenK v4 <| sameK v5 <| optK (lenA h 2 v6) fun v7 => eqlK v7 v5 fun v8 => K v8 h

/-! ### 44 proctor/check.params -/
noncomputable def b44_8 (call : CallFn) (n : Nat) (B8 : F4) (x3 x8 x9 x10 : AV) (h : AHeap) (K : Kont) : Bool :=
  lssK x10 x9 fun v6 => condK v6 (iadrK h 1 x8 x10 fun v7 => loadK h v7 fun v8 => call (.func 38) [x3, v8] h <| pz K fun v9 h => addK x10 (.int .i64 1) fun v10 => B8 x3 x8 x9 v10 h) (K x3 h)
noncomputable def l44_8 (call : CallFn) (n : Nat) : Nat → AV → AV → AV → AV → AHeap → Kont → Bool :=
  @Nat.rec (fun _ => AV → AV → AV → AV → AHeap → Kont → Bool) (fun _ _ _ _ _ _ => false) (fun _ ih x3 x8 x9 x10 h K => b44_8 call n (fun x3 x8 x9 x10 h => ih x3 x8 x9 x10 h K) x3 x8 x9 x10 h K)
noncomputable def s44 (call : CallFn) (n : Nat) (x0 : AV) (h : AHeap) (K : Kont) : Bool :=
  optPK (boxA h (none) 3 x0) fun v1 h => optPK (mkmapV h) fun v2 h => fadrK 1 v1 fun v3 => loadK h v3 fun v4 => lenK v4 fun v5 => l44_8 call n n v2 v4 v5 (.int .i64 0) h K

/-! ### 45 (*proctor/check.checker).conditions$1 -/
noncomputable def s45 (call : CallFn) (n : Nat) (x0 x1 : AV) (h : AHeap) (K : Kont) : Bool :=
  optPK (boxA h (none) 8 x0) fun v1 h => optK (some (.fn (.func 47) [] [x1, v1])) fun v2 => call (.func 46) [v2] h <| pz K fun v3 h => K v3 h

/-! ### 47 (*proctor/check.checker).conditions$1$1 -/
noncomputable def s47 (call : CallFn) (n : Nat) (x0 x1 : AV) (h : AHeap) (K : Kont) : Bool :=
  loadK h x0 fun v1 => fadrK 6 x1 fun v2 => loadK h v2 fun v3 => optPK (mkmapV h) fun v4 h => call (.func 48) [v1, v3, v4] h <| pz K fun v5 h => K (.tup []) h

/-! ### 48 (*proctor/check.checker).list -/
noncomputable def b48_8 (call : CallFn) (n : Nat) (B8 : F5) (x0 x2 x11 x12 x13 : AV) (h : AHeap) (K : Kont) : Bool :=
  lssK x13 x12 fun v3 => condK v3 (iadrK h 19 x11 x13 fun v4 => loadGK h 19 v4 fun v5 => allocK h [.int .i64 0, .str [], .str [], .nilSlc, .nilSlc, .nilSlc, .nilSlc, .nilSlc, .int .i64 0, .str [], .int .i64 0, .bool false, .int .i64 0, .str [], .nilSlc, .nilSlc, .str [], .str [], .nilSlc] 19 fun v6 h => storeNK h 19 v6 v5 fun h => loadGK h 19 v6 fun v8 => call (.func 107) [x0, v8, x2] h <| pz K fun v9 h => addK x13 (.int .i64 1) fun v10 => B8 x0 x2 x11 x12 v10 h) (K x2 h)
noncomputable def l48_8 (call : CallFn) (n : Nat) : Nat → AV → AV → AV → AV → AV → AHeap → Kont → Bool :=
  @Nat.rec (fun _ => AV → AV → AV → AV → AV → AHeap → Kont → Bool) (fun _ _ _ _ _ _ _ => false) (fun _ ih x0 x2 x11 x12 x13 h K => b48_8 call n (fun x0 x2 x11 x12 x13 h => ih x0 x2 x11 x12 x13 h K) x0 x2 x11 x12 x13 h K)
noncomputable def s48 (call : CallFn) (n : Nat) (x0 x1 x2 : AV) (h : AHeap) (K : Kont) : Bool :=
  call (.func 106) [x2] h <| pz K fun v1 h => lenK x1 fun v2 => l48_8 call n n x0 v1 x1 v2 (.int .i64 0) h K

/-! ### 50 (*proctor/check.checker).conditions$2$1 -/
noncomputable def s50 (call : CallFn) (n : Nat) (x0 : AV) (h : AHeap) (K : Kont) : Bool :=
  loadK h x0 fun v1 => nilckK v1 fun v2 => fadrK 4 v2 fun v3 => storeK h v3 (.bool false) fun h => K (.tup []) h

/-! ### 51 (*proctor/check.checker).conditions$2$2 -/
noncomputable def s51 (call : CallFn) (n : Nat) (x0 x1 : AV) (h : AHeap) (K : Kont) : Bool :=
  loadK h x0 fun v1 => fadrK 2 x1 fun v2 => loadK h v2 fun v3 => optPK (mkmapV h) fun v4 h => call (.func 48) [v1, v3, v4] h <| pz K fun v5 h => K (.tup []) h

/-! ### 52 (*proctor/check.checker).actions$1 -/
noncomputable def s52 (call : CallFn) (n : Nat) (x0 x1 : AV) (h : AHeap) (K : Kont) : Bool :=
  optPK (boxA h (none) 8 x0) fun v1 h => optK (some (.fn (.func 53) [] [x1, v1])) fun v2 => call (.func 46) [v2] h <| pz K fun v3 h => K v3 h

/-! ### 53 (*proctor/check.checker).actions$1$1 -/
noncomputable def b53_5 (call : CallFn) (n : Nat) (B5 : F5) (x0 x2 x11 x12 x13 : AV) (h : AHeap) (K : Kont) : Bool :=
  lssK x13 x12 fun v9 => condK v9 (iadrK h 12 x11 x13 fun v10 => loadGK h 12 v10 fun v11 => allocK h [.int .i64 0, .str [], .nilSlc, .int .i64 0, .str [], .int .i64 0, .bool false, .int .i64 0, .str [], .nilSlc, .nilSlc, .str []] 12 fun v12 h => storeNK h 12 v12 v11 fun h => loadK h x0 fun v14 => loadGK h 12 v12 fun v15 => call (.func 54) [v14, v15, x2] h <| pz K fun v16 h => addK x13 (.int .i64 1) fun v17 => B5 x0 x2 x11 x12 v17 h) (K (.tup []) h)
noncomputable def l53_5 (call : CallFn) (n : Nat) : Nat → AV → AV → AV → AV → AV → AHeap → Kont → Bool :=
  @Nat.rec (fun _ => AV → AV → AV → AV → AV → AHeap → Kont → Bool) (fun _ _ _ _ _ _ _ => false) (fun _ ih x0 x2 x11 x12 x13 h K => b53_5 call n (fun x0 x2 x11 x12 x13 h => ih x0 x2 x11 x12 x13 h K) x0 x2 x11 x12 x13 h K)
noncomputable def s53 (call : CallFn) (n : Nat) (x0 x1 : AV) (h : AHeap) (K : Kont) : Bool :=
  loadK h x0 fun v1 => fadrK 6 x1 fun v2 => loadK h v2 fun v3 => optPK (mkmapV h) fun v4 h => call (.func 48) [v1, v3, v4] h <| pz K fun v5 h => fadrK 7 x1 fun v6 => loadK h v6 fun v7 => lenK v7 fun v8 => l53_5 call n n x0 v5 v7 v8 (.int .i64 0) h K

/-! ### 54 (*proctor/check.checker).action -/
noncomputable def p54_27 (call : CallFn) (n : Nat) (x2 x4 x33 : AV) (h : AHeap) (K : Kont) : Bool :=
  condK x33 (fadrK 3 x4 fun v21 => loadGK h 8 v21 fun v22 => call (.func 109) [x2, v22] h <| pz K fun v23 h => K (.tup []) h) (K (.tup []) h)
noncomputable def p54_11 (call : CallFn) (n : Nat) (x0 x2 x4 x7 x8 : AV) (h : AHeap) (K : Kont) : Bool :=
  condK x8 (nilckK x0 fun v5 => fadrK 3 v5 fun v6 => loadK h v6 fun v7 => fadrK 1 x4 fun v8 => loadK h v8 fun v9 => call (.func 100) [v7, v9] h <| pz K fun v10 h => call (.func 104) [v10] h <| pz K fun v11 h => loadGK h 12 x4 fun v12 => call (.func 108) [x0, v12, x2] h <| pz K fun v13 h => K (.tup []) h) (eqlK x7 (.int .i64 3) fun v14 => condK v14 (fadrK 3 x4 fun v15 => loadGK h 8 v15 fun v16 => call (.func 109) [x2, v16] h <| pz K fun v17 h => loadGK h 12 x4 fun v18 => call (.func 108) [x0, v18, x2] h <| pz K fun v19 h => K (.tup []) h) (eqlK x7 (.int .i64 4) fun v20 => condK v20 (p54_27 call n x2 x4 v20 h K) (eqlK x7 (.int .i64 6) fun v24 => p54_27 call n x2 x4 v24 h K)))
noncomputable def s54 (call : CallFn) (n : Nat) (x0 x1 x2 : AV) (h : AHeap) (K : Kont) : Bool :=
  optPK (boxA h (none) 12 x1) fun v1 h => fadrK 0 v1 fun v2 => loadK h v2 fun v3 => eqlK v3 (.int .i64 1) fun v4 => condK v4 (p54_11 call n x0 x2 v1 v3 v4 h K) (eqlK v3 (.int .i64 2) fun v25 => p54_11 call n x0 x2 v1 v3 v25 h K)

/-! ### 55 (*proctor/check.checker).actions$2 -/
noncomputable def s55 (call : CallFn) (n : Nat) (x0 : AV) (h : AHeap) (K : Kont) : Bool :=
  optPK (boxA h (none) 3 x0) fun v1 h => K (.bool true) h

/-! ### 56 proctor/check.asked -/
noncomputable def p56_40 (call : CallFn) (n : Nat) (B3 : F5) (x1 x2 x10 x11 x12 : AV) (h : AHeap) (K : Kont) : Bool :=
  addK x12 (.int .i64 1) fun v35 => B3 x1 x2 x10 x11 v35 h
noncomputable def b56_27 (call : CallFn) (n : Nat) (B3 : F5) (B27 : F8) (x1 x2 x10 x11 x12 x44 x45 x46 : AV) (h : AHeap) (K : Kont) : Bool :=
  lssK x46 x45 fun v30 => condK v30 (iadrK h 1 x44 x46 fun v31 => loadK h v31 fun v32 => call (.func 56) [v32, x1, x2] h <| pz K fun v33 h => addK x46 (.int .i64 1) fun v34 => B27 x1 x2 x10 x11 x12 x44 x45 v34 h) (p56_40 call n B3 x1 x2 x10 x11 x12 h K)
noncomputable def l56_27 (call : CallFn) (n : Nat) (B3 : F5) : Nat → AV → AV → AV → AV → AV → AV → AV → AV → AHeap → Kont → Bool :=
  @Nat.rec (fun _ => AV → AV → AV → AV → AV → AV → AV → AV → AHeap → Kont → Bool) (fun _ _ _ _ _ _ _ _ _ _ => false) (fun _ ih x1 x2 x10 x11 x12 x44 x45 x46 h K => b56_27 call n B3 (fun x1 x2 x10 x11 x12 x44 x45 x46 h => ih x1 x2 x10 x11 x12 x44 x45 x46 h K) x1 x2 x10 x11 x12 x44 x45 x46 h K)
noncomputable def p56_20 (call : CallFn) (n : Nat) (B3 : F5) (x1 x2 x7 x10 x11 x12 : AV) (h : AHeap) (K : Kont) : Bool :=
  fadrK 5 x7 fun v13 => loadK h v13 fun v14 => gK x1 false (fadrK 0 x7) fun v15 => gK x1 false (loadK h v15) fun v16 => gK x1 false (eqlK v16 (.int .i64 2)) fun v17 => pickK x1 (.bool true) v17 fun v18 => gK v18 false (fadrK 0 x7) fun v19 => gK v18 false (loadK h v19) fun v20 => gK v18 false (eqlK v20 (.int .i64 3)) fun v21 => pickK v18 (.bool true) v21 fun v22 => call (.func 56) [v14, v22, x2] h <| pz K fun v23 h => fadrK 6 x7 fun v24 => loadK h v24 fun v25 => call (.func 56) [v25, (.bool true), x2] h <| pz K fun v26 h => fadrK 7 x7 fun v27 => loadK h v27 fun v28 => lenK v28 fun v29 => l56_27 call n B3 n x1 x2 x10 x11 x12 v28 v29 (.int .i64 0) h K
noncomputable def p56_10 (call : CallFn) (n : Nat) (B3 : F5) (x1 x2 x10 x11 x12 : AV) (h : AHeap) (K : Kont) : Bool :=
  iadrK h 19 x10 x12 fun v3 => loadGK h 19 v3 fun v4 => allocK h [.int .i64 0, .str [], .str [], .nilSlc, .nilSlc, .nilSlc, .nilSlc, .nilSlc, .int .i64 0, .str [], .int .i64 0, .bool false, .int .i64 0, .str [], .nilSlc, .nilSlc, .str [], .str [], .nilSlc] 19 fun v5 h => storeNK h 19 v5 v4 fun h => fadrK 0 v5 fun v7 => loadK h v7 fun v8 => eqlK v8 (.int .i64 9) fun v9 => condK v9 (fadrK 17 v5 fun v10 => loadK h v10 fun v11 => callV call x2 [v11, x1] h <| pz K fun v12 h => p56_20 call n B3 x1 x2 v5 x10 x11 x12 h K) (p56_20 call n B3 x1 x2 v5 x10 x11 x12 h K)
noncomputable def b56_3 (call : CallFn) (n : Nat) (B3 : F5) (x1 x2 x10 x11 x12 : AV) (h : AHeap) (K : Kont) : Bool :=
  lssK x12 x11 fun v2 => condK v2 (p56_10 call n B3 x1 x2 x10 x11 x12 h K) (K (.tup []) h)
noncomputable def l56_3 (call : CallFn) (n : Nat) : Nat → AV → AV → AV → AV → AV → AHeap → Kont → Bool :=
  @Nat.rec (fun _ => AV → AV → AV → AV → AV → AHeap → Kont → Bool) (fun _ _ _ _ _ _ _ => false) (fun _ ih x1 x2 x10 x11 x12 h K => b56_3 call n (fun x1 x2 x10 x11 x12 h => ih x1 x2 x10 x11 x12 h K) x1 x2 x10 x11 x12 h K)
noncomputable def s56 (call : CallFn) (n : Nat) (x0 x1 x2 : AV) (h : AHeap) (K : Kont) : Bool :=
  lenK x0 fun v1 => l56_3 call n n x1 x2 x0 v1 (.int .i64 0) h K

/-! ### 57 (*proctor/check.checker).queries$1 -/
noncomputable def s57 (call : CallFn) (n : Nat) (x0 x1 x2 x3 x4 : AV) (h : AHeap) (K : Kont) : Bool :=
  boxK h x0 fun v1 h => loadK h x2 fun v2 => nilckK v2 fun v3 => fadrK 0 v3 fun v4 => fadrK 2 v4 fun v5 => loadK h v5 fun v6 => optK (some (.fn (.func 59) [] [v1])) fun v7 => call (.func 58) [v6, v7] h <| pz K fun v8 h => loadK h x3 fun v9 => loadK h x4 fun v10 => buildK [.int .i64 0, .int .i64 0, .bool false] [(0, 1, v10), (1, 1, v8), (2, 1, x1)] fun v11 => optPK (bsliceV h 1 3 [.int .i64 0, .int .i64 0, .bool false] [(0, v11)]) fun v12 h => appK h 3 24 v9 v12 fun v13 h => storeK h x3 v13 fun h => K (.tup []) h

/-! ### 58 slices.IndexFunc[[]proctor/api.Query,proctor/api.Query] -/
noncomputable def b58_6 (call : CallFn) (n : Nat) (B6 : F4) (x0 x1 x7 x8 : AV) (h : AHeap) (K : Kont) : Bool :=
  lssK x8 x7 fun v2 => condK v2 (iadrK h 3 x0 x8 fun v3 => loadGK h 3 v3 fun v4 => callV call x1 [v4] h <| pz K fun v5 h => condK v5 (K x8 h) (addK x8 (.int .i64 1) fun v6 => B6 x0 x1 x7 v6 h)) (K (.int .i64 (-1)) h)
noncomputable def l58_6 (call : CallFn) (n : Nat) : Nat → AV → AV → AV → AV → AHeap → Kont → Bool :=
  @Nat.rec (fun _ => AV → AV → AV → AV → AHeap → Kont → Bool) (fun _ _ _ _ _ _ => false) (fun _ ih x0 x1 x7 x8 h K => b58_6 call n (fun x0 x1 x7 x8 h => ih x0 x1 x7 x8 h K) x0 x1 x7 x8 h K)
noncomputable def s58 (call : CallFn) (n : Nat) (x0 x1 : AV) (h : AHeap) (K : Kont) : Bool :=
  lenK x0 fun v1 => l58_6 call n n x0 x1 v1 (.int .i64 0) h K

/-! ### 59 (*proctor/check.checker).queries$1$1 -/
noncomputable def s59 (call : CallFn) (n : Nat) (x0 x1 : AV) (h : AHeap) (K : Kont) : Bool :=
  optPK (boxA h (none) 3 x0) fun v1 h => fadrK 0 v1 fun v2 => loadK h v2 fun v3 => loadK h x1 fun v4 => eqlK v3 v4 fun v5 => K v5 h

/-! ### 60 (*proctor/check.checker).queries$2 -/
noncomputable def s60 (call : CallFn) (n : Nat) (x0 : AV) (h : AHeap) (K : Kont) : Bool :=
  optPK (boxA h (none) 8 x0) fun v1 h => K (.bool true) h

/-! ### 61 (*proctor/check.checker).queries$3 -/
noncomputable def p61_21001 (call : CallFn) (n : Nat) (B8 : F7) (x1 x2 x3 x4 x11 x12 x13 x20 : AV) (h : AHeap) (K : Kont) : Bool :=
  notK x20 fun v14 => condK v14 (K (.bool false) h) (addK x13 (.int .i64 1) fun v15 => B8 x1 x2 x3 x4 x11 x12 v15 h)
noncomputable def p61_29001 (call : CallFn) (n : Nat) (x25 : AV) (h : AHeap) (K : Kont) : Bool :=
  notK x25 fun v19 => K v19 h
noncomputable def p61_27 (call : CallFn) (n : Nat) (x1 x2 x3 : AV) (h : AHeap) (K : Kont) : Bool :=
  loadK h x2 fun v16 => optK (some (.fn (.func 64) [] [x3, x1])) fun v17 => call (.func 63) [v16, v17] h <| pz K fun v18 h => p61_29001 call n v18 h K
noncomputable def b61_8 (call : CallFn) (n : Nat) (B8 : F7) (x1 x2 x3 x4 x11 x12 x13 : AV) (h : AHeap) (K : Kont) : Bool :=
  lssK x13 x12 fun v8 => condK v8 (iadrK h 1 x11 x13 fun v9 => loadK h v9 fun v10 => fadrK 2 x4 fun v11 => loadK h v11 fun v12 => call (.func 62) [v12, v10] h <| pz K fun v13 h => p61_21001 call n B8 x1 x2 x3 x4 x11 x12 x13 v13 h K) (p61_27 call n x1 x2 x3 h K)
noncomputable def l61_8 (call : CallFn) (n : Nat) : Nat → AV → AV → AV → AV → AV → AV → AV → AHeap → Kont → Bool :=
  @Nat.rec (fun _ => AV → AV → AV → AV → AV → AV → AV → AHeap → Kont → Bool) (fun _ _ _ _ _ _ _ _ _ => false) (fun _ ih x1 x2 x3 x4 x11 x12 x13 h K => b61_8 call n (fun x1 x2 x3 x4 x11 x12 x13 h => ih x1 x2 x3 x4 x11 x12 x13 h K) x1 x2 x3 x4 x11 x12 x13 h K)
noncomputable def s61 (call : CallFn) (n : Nat) (x0 x1 x2 x3 : AV) (h : AHeap) (K : Kont) : Bool :=
  optPK (boxA h (none) 3 x0) fun v1 h => loadK h x1 fun v2 => addK v2 (.int .i64 1) fun v3 => storeK h x1 v3 fun h => fadrK 1 v1 fun v5 => loadK h v5 fun v6 => lenK v6 fun v7 => l61_8 call n n x1 x2 x3 v1 v6 v7 (.int .i64 0) h K

/-! ### 62 proctor/check.gives -/
noncomputable def p62_23001 (call : CallFn) (n : Nat) (B6 : F4) (x21 x25 : AV) (h : AHeap) (K : Kont) : Bool :=
  gK x21 false (notK x25) fun v20 => pickK x21 (.bool true) v20 fun v21 => K v21 h
noncomputable def b62_6 (call : CallFn) (n : Nat) (B6 : F4) (x3 x7 x8 x9 : AV) (h : AHeap) (K : Kont) : Bool :=
  lssK x9 x8 fun v3 => condK v3 (iadrK h 19 x7 x9 fun v4 => loadGK h 19 v4 fun v5 => allocK h [.int .i64 0, .str [], .str [], .nilSlc, .nilSlc, .nilSlc, .nilSlc, .nilSlc, .int .i64 0, .str [], .int .i64 0, .bool false, .int .i64 0, .str [], .nilSlc, .nilSlc, .str [], .str [], .nilSlc] 19 fun v6 h => storeNK h 19 v6 v5 fun h => loadGK h 19 v6 fun v8 => loadK h x3 fun v9 => optPK (bsliceV h 1 19 [.int .i64 0, .str [], .str [], .nilSlc, .nilSlc, .nilSlc, .nilSlc, .nilSlc, .int .i64 0, .str [], .int .i64 0, .bool false, .int .i64 0, .str [], .nilSlc, .nilSlc, .str [], .str [], .nilSlc] [(0, v8)]) fun v10 h => loadGK h 19 v6 <| sameK v8 <| loadK h x3 <| sameK v9 <| call (.func 70) [v10, .nilSlc, (.int .i64 1)] h <| pz (goneQ [v10] K) fun v11 h => loadK h x3 <| sameK v9 <| call (.func 110) [v11, v9] h <| pz (goneQ [v10] K) fun v12 h => condK v12 (fadrK 0 v6 fun v13 => loadK h v13 fun v14 => neqK v14 (.int .i64 5) fun v15 => gK v15 false (fadrK 7 v6) fun v16 => gK v15 false (loadK h v16) fun v17 => gK v15 false (optK (some (.fn (.func 112) [] [x3]))) fun v18 => gP v15 false (fun k => call (.func 111) [v17, v18] h (pz K k)) h fun v19 h => p62_23001 call n B6 v15 v19 h K) (loadGK h 19 v6 fun v22 => loadK h x3 fun v23 => call (.func 113) [v22, v23] h <| pz K fun v24 h => condK v24 (K (.bool false) h) (addK x9 (.int .i64 1) fun v25 => B6 x3 x7 x8 v25 h))) (K (.bool false) h)
noncomputable def l62_6 (call : CallFn) (n : Nat) : Nat → AV → AV → AV → AV → AHeap → Kont → Bool :=
  @Nat.rec (fun _ => AV → AV → AV → AV → AHeap → Kont → Bool) (fun _ _ _ _ _ _ => false) (fun _ ih x3 x7 x8 x9 h K => b62_6 call n (fun x3 x7 x8 x9 h => ih x3 x7 x8 x9 h K) x3 x7 x8 x9 h K)
noncomputable def s62 (call : CallFn) (n : Nat) (x0 x1 : AV) (h : AHeap) (K : Kont) : Bool :=
  boxK h x1 fun v1 h => lenK x0 fun v2 => l62_6 call n n v1 x0 v2 (.int .i64 0) h K

/-! ### 63 slices.ContainsFunc[[]proctor/check.step,proctor/check.step] -/
noncomputable def p63_4001 (call : CallFn) (n : Nat) (x7 : AV) (h : AHeap) (K : Kont) : Bool :=
  geqK x7 (.int .i64 0) fun v2 => K v2 h
noncomputable def s63 (call : CallFn) (n : Nat) (x0 x1 : AV) (h : AHeap) (K : Kont) : Bool :=
  call (.func 114) [x0, x1] h <| pz K fun v1 h => p63_4001 call n v1 h K

/-! ### 64 (*proctor/check.checker).queries$3$1 -/
noncomputable def s64 (call : CallFn) (n : Nat) (x0 x1 x2 : AV) (h : AHeap) (K : Kont) : Bool :=
  optPK (boxA h (none) 3 x0) fun v1 h => fadrK 2 v1 fun v2 => loadK h v2 fun v3 => gK v3 true (loadK h x1) fun v4 => gK v3 true (loadK h x2) fun v5 => gK v3 true (iadrK h 1 v4 v5) fun v6 => gK v3 true (loadK h v6) fun v7 => gK v3 true (fadrK 0 v1) fun v8 => gK v3 true (loadK h v8) fun v9 => gK v3 true (iadrK h 1 v7 v9) fun v10 => gK v3 true (loadK h v10) fun v11 => pickK v3 v11 (.bool false) fun v12 => gK v12 true (loadK h x1) fun v13 => gK v12 true (fadrK 1 v1) fun v14 => gK v12 true (loadK h v14) fun v15 => gK v12 true (iadrK h 1 v13 v15) fun v16 => gK v12 true (loadK h v16) fun v17 => gK v12 true (loadK h x2) fun v18 => gK v12 true (iadrK h 1 v17 v18) fun v19 => gK v12 true (loadK h v19) fun v20 => pickK v12 v20 (.bool false) fun v21 => K v21 h

/-! ### 65 (*proctor/check.checker).sizes$1 -/
noncomputable def p65_4002 (call : CallFn) (n : Nat) (x8 x10 : AV) (h : AHeap) (K : Kont) : Bool :=
  pickK x8 x10 (.bool false) fun v8 => K v8 h
noncomputable def p65_4001 (call : CallFn) (n : Nat) (x1 x2 x6 : AV) (h : AHeap) (K : Kont) : Bool :=
  leqK x6 (.int .i64 64) fun v5 => gK v5 true (optK (some (.fn (.func 67) [] [x1, x2]))) fun v6 => gP v5 true (fun k => call (.func 46) [v6] h (pz K k)) h fun v7 h => p65_4002 call n v5 v7 h K
noncomputable def s65 (call : CallFn) (n : Nat) (x0 x1 : AV) (h : AHeap) (K : Kont) : Bool :=
  optPK (boxA h (none) 8 x0) fun v1 h => fadrK 6 v1 fun v2 => loadK h v2 fun v3 => call (.func 66) [v3] h <| pz K fun v4 h => p65_4001 call n x1 v1 v4 h K

/-! ### 66 proctor/check.count -/
noncomputable def p66_36001 (call : CallFn) (n : Nat) (B8 : F4) (B24 : F7) (x8 x9 x10 x25 x26 x27 x31 x33 : AV) (h : AHeap) (K : Kont) : Bool :=
  addK x31 x33 fun v23 => addK x27 (.int .i64 1) fun v24 => B24 v23 x8 x9 x10 x25 x26 v24 h
noncomputable def p66_37 (call : CallFn) (n : Nat) (B8 : F4) (x3 x8 x9 x10 : AV) (h : AHeap) (K : Kont) : Bool :=
  addK x10 (.int .i64 1) fun v25 => B8 x3 x8 x9 v25 h
noncomputable def b66_24 (call : CallFn) (n : Nat) (B8 : F4) (B24 : F7) (x3 x8 x9 x10 x25 x26 x27 : AV) (h : AHeap) (K : Kont) : Bool :=
  lssK x27 x26 fun v19 => condK v19 (iadrK h 1 x25 x27 fun v20 => loadK h v20 fun v21 => call (.func 66) [v21] h <| pz K fun v22 h => p66_36001 call n B8 B24 x8 x9 x10 x25 x26 x27 x3 v22 h K) (p66_37 call n B8 x3 x8 x9 x10 h K)
noncomputable def l66_24 (call : CallFn) (n : Nat) (B8 : F4) : Nat → AV → AV → AV → AV → AV → AV → AV → AHeap → Kont → Bool :=
  @Nat.rec (fun _ => AV → AV → AV → AV → AV → AV → AV → AHeap → Kont → Bool) (fun _ _ _ _ _ _ _ _ _ => false) (fun _ ih x3 x8 x9 x10 x25 x26 x27 h K => b66_24 call n B8 (fun x3 x8 x9 x10 x25 x26 x27 h => ih x3 x8 x9 x10 x25 x26 x27 h K) x3 x8 x9 x10 x25 x26 x27 h K)
noncomputable def p66_15 (call : CallFn) (n : Nat) (B8 : F4) (x3 x8 x9 x10 : AV) (h : AHeap) (K : Kont) : Bool :=
  iadrK h 19 x8 x10 fun v3 => loadGK h 19 v3 fun v4 => allocK h [.int .i64 0, .str [], .str [], .nilSlc, .nilSlc, .nilSlc, .nilSlc, .nilSlc, .int .i64 0, .str [], .int .i64 0, .bool false, .int .i64 0, .str [], .nilSlc, .nilSlc, .str [], .str [], .nilSlc] 19 fun v5 h => storeNK h 19 v5 v4 fun h => fadrK 5 v5 fun v7 => loadK h v7 fun v8 => fadrK 6 v5 fun v9 => loadK h v9 fun v10 => call (.func 66) [v8] h <| pz K fun v11 h => loadK h v9 <| sameK v10 <| addK (.int .i64 1) v11 fun v12 => call (.func 66) [v10] h <| pz K fun v13 h => addK v12 v13 fun v14 => addK x3 v14 fun v15 => fadrK 7 v5 fun v16 => loadK h v16 fun v17 => lenK v17 fun v18 => l66_24 call n B8 n v15 x8 x9 x10 v17 v18 (.int .i64 0) h K
noncomputable def b66_8 (call : CallFn) (n : Nat) (B8 : F4) (x3 x8 x9 x10 : AV) (h : AHeap) (K : Kont) : Bool :=
  lssK x10 x9 fun v2 => condK v2 (p66_15 call n B8 x3 x8 x9 x10 h K) (K x3 h)
noncomputable def l66_8 (call : CallFn) (n : Nat) : Nat → AV → AV → AV → AV → AHeap → Kont → Bool :=
  @Nat.rec (fun _ => AV → AV → AV → AV → AHeap → Kont → Bool) (fun _ _ _ _ _ _ => false) (fun _ ih x3 x8 x9 x10 h K => b66_8 call n (fun x3 x8 x9 x10 h => ih x3 x8 x9 x10 h K) x3 x8 x9 x10 h K)
noncomputable def s66 (call : CallFn) (n : Nat) (x0 : AV) (h : AHeap) (K : Kont) : Bool :=
  lenK x0 fun v1 => l66_8 call n n (.int .i64 0) x0 v1 (.int .i64 0) h K

/-! ### 67 (*proctor/check.checker).sizes$1$1 -/
noncomputable def s67 (call : CallFn) (n : Nat) (x0 x1 : AV) (h : AHeap) (K : Kont) : Bool :=
  loadK h x0 fun v1 => fadrK 6 x1 fun v2 => loadK h v2 fun v3 => call (.func 68) [v3] h <| pz K fun v4 h => loadK h x0 <| sameK v1 <| lenK v4 fun v5 => addK v1 v5 fun v6 => storeK h x0 v6 fun h => K (.tup []) h

/-! ### 68 proctor/check.alternatives -/
noncomputable def p68_58 (call : CallFn) (n : Nat) (B8 : F4) (B29 : F8) (x6 x7 x13 x14 x15 x28 x29 x30 : AV) (h : AHeap) (K : Kont) : Bool :=
  addK x30 (.int .i64 1) fun v30 => B29 x6 x7 x13 x14 x15 x28 x29 v30 h
noncomputable def b68_43 (call : CallFn) (n : Nat) (B8 : F4) (B29 : F8) (B43 : F12) (x6 x7 x9 x13 x14 x15 x28 x29 x30 x34 x35 x36 : AV) (h : AHeap) (K : Kont) : Bool :=
  lssK x36 x35 fun v20 => condK v20 (iadrK h 1 x34 x36 fun v21 => loadK h v21 fun v22 => addK x9 v22 fun v23 => leqK v23 (.int .i64 64) fun v24 => call (.func 104) [v24] h <| pz K fun v25 h => addK x9 v22 fun v26 => optPK (bsliceV h 1 1 [.int .i64 0] [(0, v26)]) fun v27 h => appK h 1 8 x7 v27 fun v28 h => addK x36 (.int .i64 1) fun v29 => B43 x6 v28 x9 x13 x14 x15 x28 x29 x30 x34 x35 v29 h) (p68_58 call n B8 B29 x6 x7 x13 x14 x15 x28 x29 x30 h K)
noncomputable def l68_43 (call : CallFn) (n : Nat) (B8 : F4) (B29 : F8) : Nat → AV → AV → AV → AV → AV → AV → AV → AV → AV → AV → AV → AV → AHeap → Kont → Bool :=
  @Nat.rec (fun _ => AV → AV → AV → AV → AV → AV → AV → AV → AV → AV → AV → AV → AHeap → Kont → Bool) (fun _ _ _ _ _ _ _ _ _ _ _ _ _ _ => false) (fun _ ih x6 x7 x9 x13 x14 x15 x28 x29 x30 x34 x35 x36 h K => b68_43 call n B8 B29 (fun x6 x7 x9 x13 x14 x15 x28 x29 x30 x34 x35 x36 h => ih x6 x7 x9 x13 x14 x15 x28 x29 x30 x34 x35 x36 h K) x6 x7 x9 x13 x14 x15 x28 x29 x30 x34 x35 x36 h K)
noncomputable def p68_36 (call : CallFn) (n : Nat) (B8 : F4) (B29 : F8) (x6 x7 x13 x14 x15 x28 x29 x30 : AV) (h : AHeap) (K : Kont) : Bool :=
  iadrK h 1 x28 x30 fun v17 => loadK h v17 fun v18 => lenK x6 fun v19 => l68_43 call n B8 B29 n x6 x7 v18 x13 x14 x15 x28 x29 x30 x6 v19 (.int .i64 0) h K
noncomputable def p68_60 (call : CallFn) (n : Nat) (B8 : F4) (x3 x13 x14 x15 : AV) (h : AHeap) (K : Kont) : Bool :=
  addK x15 (.int .i64 1) fun v31 => B8 x3 x13 x14 v31 h
noncomputable def b68_29 (call : CallFn) (n : Nat) (B8 : F4) (B29 : F8) (x6 x7 x13 x14 x15 x28 x29 x30 : AV) (h : AHeap) (K : Kont) : Bool :=
  lssK x30 x29 fun v16 => condK v16 (p68_36 call n B8 B29 x6 x7 x13 x14 x15 x28 x29 x30 h K) (p68_60 call n B8 x7 x13 x14 x15 h K)
noncomputable def l68_29 (call : CallFn) (n : Nat) (B8 : F4) : Nat → AV → AV → AV → AV → AV → AV → AV → AV → AHeap → Kont → Bool :=
  @Nat.rec (fun _ => AV → AV → AV → AV → AV → AV → AV → AV → AHeap → Kont → Bool) (fun _ _ _ _ _ _ _ _ _ _ => false) (fun _ ih x6 x7 x13 x14 x15 x28 x29 x30 h K => b68_29 call n B8 (fun x6 x7 x13 x14 x15 x28 x29 x30 h => ih x6 x7 x13 x14 x15 x28 x29 x30 h K) x6 x7 x13 x14 x15 x28 x29 x30 h K)
noncomputable def p68_15 (call : CallFn) (n : Nat) (B8 : F4) (x3 x13 x14 x15 : AV) (h : AHeap) (K : Kont) : Bool :=
  iadrK h 19 x13 x15 fun v4 => loadGK h 19 v4 fun v5 => allocK h [.int .i64 0, .str [], .str [], .nilSlc, .nilSlc, .nilSlc, .nilSlc, .nilSlc, .int .i64 0, .str [], .int .i64 0, .bool false, .int .i64 0, .str [], .nilSlc, .nilSlc, .str [], .str [], .nilSlc] 19 fun v6 h => storeNK h 19 v6 v5 fun h => loadGK h 19 v6 fun v8 => call (.func 115) [v8] h <| pz K fun v9 h => lenK x3 fun v10 => lenK v9 fun v11 => optK (binA .mul v10 v11) fun v12 => leqK v12 (.int .i64 512) fun v13 => call (.func 104) [v13] h <| pz K fun v14 h => lenK x3 fun v15 => l68_29 call n B8 n v9 .nilSlc x13 x14 x15 x3 v15 (.int .i64 0) h K
noncomputable def b68_8 (call : CallFn) (n : Nat) (B8 : F4) (x3 x13 x14 x15 : AV) (h : AHeap) (K : Kont) : Bool :=
  lssK x15 x14 fun v3 => condK v3 (p68_15 call n B8 x3 x13 x14 x15 h K) (K x3 h)
noncomputable def l68_8 (call : CallFn) (n : Nat) : Nat → AV → AV → AV → AV → AHeap → Kont → Bool :=
  @Nat.rec (fun _ => AV → AV → AV → AV → AHeap → Kont → Bool) (fun _ _ _ _ _ _ => false) (fun _ ih x3 x13 x14 x15 h K => b68_8 call n (fun x3 x13 x14 x15 h => ih x3 x13 x14 x15 h K) x3 x13 x14 x15 h K)
noncomputable def s68 (call : CallFn) (n : Nat) (x0 : AV) (h : AHeap) (K : Kont) : Bool :=
  optPK (bsliceV h 1 1 [.int .i64 0] [(0, (.int .i64 0))]) fun v1 h => lenK x0 fun v2 => l68_8 call n n v1 x0 v2 (.int .i64 0) h K

/-! ### 69 (*proctor/check.checker).sizes$2 -/
noncomputable def p69_4001 (call : CallFn) (n : Nat) (x5 : AV) (h : AHeap) (K : Kont) : Bool :=
  leqK x5 (.int .i64 64) fun v5 => K v5 h
noncomputable def s69 (call : CallFn) (n : Nat) (x0 : AV) (h : AHeap) (K : Kont) : Bool :=
  optPK (boxA h (none) 3 x0) fun v1 h => fadrK 2 v1 fun v2 => loadK h v2 fun v3 => call (.func 66) [v3] h <| pz K fun v4 h => p69_4001 call n v4 h K

/-! ### 70 proctor/check.binds -/
noncomputable def p70_98 (call : CallFn) (n : Nat) (B8 : F6) (x2 x4 x7 x17 x18 x19 : AV) (h : AHeap) (K : Kont) : Bool :=
  addK x19 (.int .i64 1) fun v27 => B8 x2 x4 x7 x17 x18 v27 h
noncomputable def b70_30 (call : CallFn) (n : Nat) (B8 : F6) (B30 : F9) (x2 x4 x7 x17 x18 x19 x32 x33 x34 : AV) (h : AHeap) (K : Kont) : Bool :=
  lssK x34 x33 fun v18 => condK v18 (iadrK h 2 x32 x34 fun v19 => loadGK h 2 v19 fun v20 => allocK h [.str [], .str []] 2 fun v21 h => storeNK h 2 v21 v20 fun h => fadrK 0 v21 fun v23 => loadK h v23 fun v24 => callV call x7 [v24] h <| pz K fun v25 h => addK x34 (.int .i64 1) fun v26 => B30 x2 x4 x7 x17 x18 x19 x32 x33 v26 h) (p70_98 call n B8 x2 x4 x7 x17 x18 x19 h K)
noncomputable def l70_30 (call : CallFn) (n : Nat) (B8 : F6) : Nat → AV → AV → AV → AV → AV → AV → AV → AV → AV → AHeap → Kont → Bool :=
  @Nat.rec (fun _ => AV → AV → AV → AV → AV → AV → AV → AV → AV → AHeap → Kont → Bool) (fun _ _ _ _ _ _ _ _ _ _ _ => false) (fun _ ih x2 x4 x7 x17 x18 x19 x32 x33 x34 h K => b70_30 call n B8 (fun x2 x4 x7 x17 x18 x19 x32 x33 x34 h => ih x2 x4 x7 x17 x18 x19 x32 x33 x34 h K) x2 x4 x7 x17 x18 x19 x32 x33 x34 h K)
noncomputable def p70_73 (call : CallFn) (n : Nat) (B8 : F6) (B57 : F9) (x2 x4 x7 x17 x18 x19 x53 x54 x55 : AV) (h : AHeap) (K : Kont) : Bool :=
  addK x55 (.int .i64 1) fun v48 => B57 x2 x4 x7 x17 x18 x19 x53 x54 v48 h
noncomputable def b70_57 (call : CallFn) (n : Nat) (B8 : F6) (B57 : F9) (x2 x4 x7 x17 x18 x19 x53 x54 x55 : AV) (h : AHeap) (K : Kont) : Bool :=
  lssK x55 x54 fun v36 => condK v36 (iadrK h 9 x53 x55 fun v37 => loadGK h 9 v37 fun v38 => allocK h [.str [], .int .i64 0, .str [], .int .i64 0, .bool false, .int .i64 0, .str [], .nilSlc, .nilSlc] 9 fun v39 h => storeNK h 9 v39 v38 fun h => fadrK 1 v39 fun v41 => fadrK 0 v41 fun v42 => loadK h v42 fun v43 => eqlK v43 (.int .i64 0) fun v44 => condK v44 (fadrK 0 v39 fun v45 => loadK h v45 fun v46 => callV call x7 [v46] h <| pz K fun v47 h => p70_73 call n B8 B57 x2 x4 x7 x17 x18 x19 x53 x54 x55 h K) (p70_73 call n B8 B57 x2 x4 x7 x17 x18 x19 x53 x54 x55 h K)) (p70_98 call n B8 x2 x4 x7 x17 x18 x19 h K)
noncomputable def l70_57 (call : CallFn) (n : Nat) (B8 : F6) : Nat → AV → AV → AV → AV → AV → AV → AV → AV → AV → AHeap → Kont → Bool :=
  @Nat.rec (fun _ => AV → AV → AV → AV → AV → AV → AV → AV → AV → AHeap → Kont → Bool) (fun _ _ _ _ _ _ _ _ _ _ _ => false) (fun _ ih x2 x4 x7 x17 x18 x19 x53 x54 x55 h K => b70_57 call n B8 (fun x2 x4 x7 x17 x18 x19 x53 x54 x55 h => ih x2 x4 x7 x17 x18 x19 x53 x54 x55 h K) x2 x4 x7 x17 x18 x19 x53 x54 x55 h K)
noncomputable def b70_83 (call : CallFn) (n : Nat) (B8 : F6) (B83 : F9) (x2 x4 x7 x17 x18 x19 x75 x76 x77 : AV) (h : AHeap) (K : Kont) : Bool :=
  lssK x77 x76 fun v55 => condK v55 (iadrK h 1 x75 x77 fun v56 => loadK h v56 fun v57 => callV call x7 [v57] h <| pz K fun v58 h => addK x77 (.int .i64 1) fun v59 => B83 x2 x4 x7 x17 x18 x19 x75 x76 v59 h) (p70_98 call n B8 x2 x4 x7 x17 x18 x19 h K)
noncomputable def l70_83 (call : CallFn) (n : Nat) (B8 : F6) : Nat → AV → AV → AV → AV → AV → AV → AV → AV → AV → AHeap → Kont → Bool :=
  @Nat.rec (fun _ => AV → AV → AV → AV → AV → AV → AV → AV → AV → AHeap → Kont → Bool) (fun _ _ _ _ _ _ _ _ _ _ _ => false) (fun _ ih x2 x4 x7 x17 x18 x19 x75 x76 x77 h K => b70_83 call n B8 (fun x2 x4 x7 x17 x18 x19 x75 x76 x77 h => ih x2 x4 x7 x17 x18 x19 x75 x76 x77 h K) x2 x4 x7 x17 x18 x19 x75 x76 x77 h K)
noncomputable def p70_82001 (call : CallFn) (n : Nat) (B8 : F6) (x2 x4 x7 x17 x18 x19 x75 : AV) (h : AHeap) (K : Kont) : Bool :=
  lenK x75 fun v54 => l70_83 call n B8 n x2 x4 x7 x17 x18 x19 x75 v54 (.int .i64 0) h K
noncomputable def p70_49 (call : CallFn) (n : Nat) (B8 : F6) (x2 x4 x7 x9 x17 x18 x19 x24 x43 : AV) (h : AHeap) (K : Kont) : Bool :=
  condK x43 (fadrK 1 x9 fun v29 => loadK h v29 fun v30 => callV call x7 [v30] h <| pz K fun v31 h => p70_98 call n B8 x2 x4 x7 x17 x18 x19 h K) (eqlK x24 (.int .i64 9) fun v32 => condK v32 (fadrK 18 x9 fun v33 => loadK h v33 fun v34 => lenK v34 fun v35 => l70_57 call n B8 n x2 x4 x7 x17 x18 x19 v34 v35 (.int .i64 0) h K) (eqlK x24 (.int .i64 5) fun v49 => condK v49 (lssK x2 (.int .i64 30) fun v50 => condK v50 (loadGK h 19 x9 fun v51 => addK x2 (.int .i64 1) fun v52 => call (.func 117) [v51, v52] h <| pz K fun v53 h => p70_82001 call n B8 x2 x4 x7 x17 x18 x19 v53 h K) (p70_98 call n B8 x2 x4 x7 x17 x18 x19 h K)) (p70_98 call n B8 x2 x4 x7 x17 x18 x19 h K)))
noncomputable def p70_15 (call : CallFn) (n : Nat) (B8 : F6) (x2 x4 x7 x17 x18 x19 : AV) (h : AHeap) (K : Kont) : Bool :=
  iadrK h 19 x17 x19 fun v5 => loadGK h 19 v5 fun v6 => allocK h [.int .i64 0, .str [], .str [], .nilSlc, .nilSlc, .nilSlc, .nilSlc, .nilSlc, .int .i64 0, .str [], .int .i64 0, .bool false, .int .i64 0, .str [], .nilSlc, .nilSlc, .str [], .str [], .nilSlc] 19 fun v7 h => storeNK h 19 v7 v6 fun h => fadrK 0 v7 fun v9 => loadK h v9 fun v10 => eqlK v10 (.int .i64 1) fun v11 => condK v11 (fadrK 1 v7 fun v12 => loadK h v12 fun v13 => callV call x7 [v13] h <| pz K fun v14 h => fadrK 3 v7 fun v15 => loadK h v15 fun v16 => lenK v16 fun v17 => l70_30 call n B8 n x2 x4 x7 x17 x18 x19 v16 v17 (.int .i64 0) h K) (eqlK v10 (.int .i64 6) fun v28 => condK v28 (p70_49 call n B8 x2 x4 x7 v7 x17 x18 x19 v10 v28 h K) (eqlK v10 (.int .i64 7) fun v60 => p70_49 call n B8 x2 x4 x7 v7 x17 x18 x19 v10 v60 h K))
noncomputable def p70_99 (call : CallFn) (n : Nat) (x4 : AV) (h : AHeap) (K : Kont) : Bool :=
  loadK h x4 fun v61 => K v61 h
noncomputable def b70_8 (call : CallFn) (n : Nat) (B8 : F6) (x2 x4 x7 x17 x18 x19 : AV) (h : AHeap) (K : Kont) : Bool :=
  lssK x19 x18 fun v4 => condK v4 (p70_15 call n B8 x2 x4 x7 x17 x18 x19 h K) (p70_99 call n x4 h K)
noncomputable def l70_8 (call : CallFn) (n : Nat) : Nat → AV → AV → AV → AV → AV → AV → AHeap → Kont → Bool :=
  @Nat.rec (fun _ => AV → AV → AV → AV → AV → AV → AHeap → Kont → Bool) (fun _ _ _ _ _ _ _ _ => false) (fun _ ih x2 x4 x7 x17 x18 x19 h K => b70_8 call n (fun x2 x4 x7 x17 x18 x19 h => ih x2 x4 x7 x17 x18 x19 h K) x2 x4 x7 x17 x18 x19 h K)
noncomputable def s70 (call : CallFn) (n : Nat) (x0 x1 x2 : AV) (h : AHeap) (K : Kont) : Bool :=
  boxK h x1 fun v1 h => optK (some (.fn (.func 116) [] [v1])) fun v2 => lenK x0 fun v3 => l70_8 call n n x2 v1 v2 x0 v3 (.int .i64 0) h K

/-! ### 73 proctor/parse.operators -/
set_option maxRecDepth 100000 in
noncomputable def s73 (call : CallFn) (n : Nat) (h : AHeap) (K : Kont) : Bool :=
  optPK (mkmapV h) fun v1 h => optPK (mkmapV h) fun v2 h => optPK (unit (mupdA h (.leaf .str) v2 (.str [124, 124]) (.int .i64 9))) fun _ h => optPK (unit (mupdA h (.leaf .int) v1 (.int .i64 0) v2)) fun _ h => optPK (mkmapV h) fun v5 h => optPK (unit (mupdA h (.leaf .str) v5 (.str [38, 38]) (.int .i64 8))) fun _ h => optPK (unit (mupdA h (.leaf .int) v1 (.int .i64 1) v5)) fun _ h => optPK (mkmapV h) fun v8 h => optPK (unit (mupdA h (.leaf .str) v8 (.str [61, 61]) (.int .i64 10))) fun _ h => optPK (unit (mupdA h (.leaf .str) v8 (.str [33, 61]) (.int .i64 11))) fun _ h => optPK (unit (mupdA h (.leaf .str) v8 (.str [60]) (.int .i64 12))) fun _ h => optPK (unit (mupdA h (.leaf .str) v8 (.str [60, 61]) (.int .i64 13))) fun _ h => optPK (unit (mupdA h (.leaf .str) v8 (.str [62]) (.int .i64 14))) fun _ h => optPK (unit (mupdA h (.leaf .str) v8 (.str [62, 61]) (.int .i64 15))) fun _ h => optPK (unit (mupdA h (.leaf .int) v1 (.int .i64 2) v8)) fun _ h => optPK (mkmapV h) fun v16 h => optPK (unit (mupdA h (.leaf .str) v16 (.str [43]) (.int .i64 16))) fun _ h => optPK (unit (mupdA h (.leaf .str) v16 (.str [45]) (.int .i64 17))) fun _ h => optPK (unit (mupdA h (.leaf .int) v1 (.int .i64 3) v16)) fun _ h => optPK (mkmapV h) fun v20 h => optPK (unit (mupdA h (.leaf .str) v20 (.str [42]) (.int .i64 18))) fun _ h => optPK (unit (mupdA h (.leaf .str) v20 (.str [47]) (.int .i64 19))) fun _ h => optPK (unit (mupdA h (.leaf .str) v20 (.str [37]) (.int .i64 20))) fun _ h => optPK (unit (mupdA h (.leaf .int) v1 (.int .i64 4) v20)) fun _ h => K v1 h

/-! ### 74 (*proctor/parse.parser).need -/
noncomputable def p74_4001 (call : CallFn) (n : Nat) (x7 : AV) (h : AHeap) (K : Kont) : Bool :=
  call (.func 119) [x7] h <| pz K fun v3 h => K (.tup []) h
noncomputable def s74 (call : CallFn) (n : Nat) (x0 x1 : AV) (h : AHeap) (K : Kont) : Bool :=
  notK x1 fun v1 => condK v1 (call (.func 120) [x0] h <| pz K fun v2 h => p74_4001 call n v2 h K) (K (.tup []) h)

/-! ### 75 (*proctor/parse.parser).is -/
noncomputable def p75_6001 (call : CallFn) (n : Nat) (x15 x19 x23 x25 : AV) (h : AHeap) (K : Kont) : Bool :=
  gK x19 false (pickK x23 x25 (.bool false)) fun v17 => gK x15 true (pickK x19 (.bool true) v17) fun v18 => pickK x15 v18 (.bool false) fun v19 => K v19 h
noncomputable def p75_4001 (call : CallFn) (n : Nat) (x2 x10 : AV) (h : AHeap) (K : Kont) : Bool :=
  allocK h [.int .i64 0, .str [], .int .i64 0, .int .i64 0] 4 fun v2 h => storeNK h 4 v2 x10 fun h => fadrK 1 v2 fun v4 => loadK h v4 fun v5 => eqlK v5 x2 fun v6 => gK v6 true (fadrK 0 v2) fun v7 => gK v6 true (loadK h v7) fun v8 => gK v6 true (eqlK v8 (.int .i64 4)) fun v9 => gK v6 true (optK (some v9)) fun v10 => gK v10 false (fadrK 0 v2) fun v11 => gK v10 false (loadK h v11) fun v12 => gK v10 false (eqlK v12 (.int .i64 0)) fun v13 => gK v10 false (optK (some v13)) fun v14 => gK v14 true (optK (some x2)) fun v15 => gP v14 true (fun k => call (.func 122) [v15] h (pz K k)) h fun v16 h => p75_6001 call n v6 v10 v14 v16 h K
noncomputable def s75 (call : CallFn) (n : Nat) (x0 x1 x2 : AV) (h : AHeap) (K : Kont) : Bool :=
  call (.func 121) [x0, x1] h <| pz K fun v1 h => p75_4001 call n x2 v1 h K

/-! ### 76 (*proctor/parse.parser).name -/
noncomputable def p76_4002 (call : CallFn) (n : Nat) (x0 x3 x6 x8 : AV) (h : AHeap) (K : Kont) : Bool :=
  gK x6 true (fldK 1 x8) fun v4 => gK x6 true (lenSK v4) fun v5 => gK x6 true (leqK v5 (.int .i64 64)) fun v6 => pickK x6 v6 (.bool false) fun v7 => call (.func 74) [x3, v7] h <| pz K fun v8 h => call (.func 123) [x0] h <| pz K fun v9 h => K v9 h
noncomputable def p76_4001 (call : CallFn) (n : Nat) (x0 x3 x5 : AV) (h : AHeap) (K : Kont) : Bool :=
  gK x5 true (optK (some x0)) fun v2 => gP x5 true (fun k => call (.func 121) [v2, (.int .i64 0)] h (pz K k)) h fun v3 h => p76_4002 call n x0 x3 x5 v3 h K
noncomputable def s76 (call : CallFn) (n : Nat) (x0 : AV) (h : AHeap) (K : Kont) : Bool :=
  call (.func 78) [x0, (.int .i64 0)] h <| pz K fun v1 h => p76_4001 call n x0 x0 v1 h K

/-! ### 77 (*proctor/parse.parser).opens -/
noncomputable def s77 (call : CallFn) (n : Nat) (x0 x1 : AV) (h : AHeap) (K : Kont) : Bool :=
  call (.func 120) [x0] h <| pz K fun v1 h => optPK (bsliceV h 1 1 [.str []] [(0, x1)]) fun v2 h => call (.func 26) [x0, v2] h <| pz K fun v3 h => call (.func 124) [x0, v1] h <| pz K fun v4 h => K (.tup []) h

/-! ### 78 (*proctor/parse.parser).named -/
noncomputable def p78_6001 (call : CallFn) (n : Nat) (x12 x15 : AV) (h : AHeap) (K : Kont) : Bool :=
  gK x12 true (notK x15) fun v10 => pickK x12 v10 (.bool false) fun v11 => K v11 h
noncomputable def p78_4001 (call : CallFn) (n : Nat) (x8 : AV) (h : AHeap) (K : Kont) : Bool :=
  allocK h [.int .i64 0, .str [], .int .i64 0, .int .i64 0] 4 fun v2 h => storeNK h 4 v2 x8 fun h => fadrK 0 v2 fun v4 => loadK h v4 fun v5 => eqlK v5 (.int .i64 0) fun v6 => gK v6 true (fadrK 1 v2) fun v7 => gK v6 true (loadK h v7) fun v8 => gP v6 true (fun k => call (.func 122) [v8] h (pz K k)) h fun v9 h => p78_6001 call n v6 v9 h K
noncomputable def s78 (call : CallFn) (n : Nat) (x0 x1 : AV) (h : AHeap) (K : Kont) : Bool :=
  call (.func 121) [x0, x1] h <| pz K fun v1 h => p78_4001 call n v1 h K

/-! ### 79 (*proctor/parse.parser).field -/
noncomputable def p79_31 (call : CallFn) (n : Nat) (x2 x3 : AV) (h : AHeap) (K : Kont) : Bool :=
  loadGK h 3 x3 fun v11 => storeNK h 3 x2 v11 fun h => optR (resV h [(x2, some (true, 3))]) h K
noncomputable def p79_31001 (call : CallFn) (n : Nat) (x2 x3 x14 : AV) (h : AHeap) (K : Kont) : Bool :=
  fadrK 1 x3 fun v28 => storeK h v28 (.int .i64 5) fun h => fadrK 2 x3 fun v30 => storeK h v30 x14 fun h => p79_31 call n x2 x3 h K
noncomputable def p79_4001 (call : CallFn) (n : Nat) (x0 x2 x5 : AV) (h : AHeap) (K : Kont) : Bool :=
  buildK [.str [], .int .i64 0, .str []] [(0, 1, x5)] fun v3 => allocK h [.str [], .int .i64 0, .str []] 3 fun v4 h => storeNK h 3 v4 v3 fun h => optPK (bsliceV h 1 1 [.str []] [(0, (.str [58]))]) fun v6 h => call (.func 26) [x0, v6] h <| pz K fun v7 h => call (.func 23) [x0, (.str [105, 110, 116])] h <| pz K fun v8 h => condK v8 (fadrK 1 v4 fun v9 => storeK h v9 (.int .i64 2) fun h => p79_31 call n x2 v4 h K) (call (.func 23) [x0, (.str [98, 111, 111, 108])] h <| pz K fun v13 h => condK v13 (fadrK 1 v4 fun v14 => storeK h v14 (.int .i64 1) fun h => p79_31 call n x2 v4 h K) (call (.func 23) [x0, (.str [116, 101, 120, 116])] h <| pz K fun v16 h => condK v16 (fadrK 1 v4 fun v17 => storeK h v17 (.int .i64 3) fun h => p79_31 call n x2 v4 h K) (call (.func 23) [x0, (.str [108, 105, 115, 116])] h <| pz K fun v19 h => condK v19 (fadrK 1 v4 fun v20 => storeK h v20 (.int .i64 4) fun h => p79_31 call n x2 v4 h K) (call (.func 23) [x0, (.str [97, 110, 121])] h <| pz K fun v22 h => condK v22 (fadrK 1 v4 fun v23 => storeK h v23 (.int .i64 0) fun h => p79_31 call n x2 v4 h K) (optPK (bsliceV h 1 1 [.str []] [(0, (.str [114, 101, 102]))]) fun v25 h => call (.func 26) [x0, v25] h <| pz K fun v26 h => call (.func 76) [x0] h <| pz K fun v27 h => p79_31001 call n x2 v4 v27 h K)))))
noncomputable def s79 (call : CallFn) (n : Nat) (x0 : AV) (h : AHeap) (K : Kont) : Bool :=
  allocK h [.str [], .int .i64 0, .str []] 3 fun v1 h => call (.func 76) [x0] h <| pz K fun v2 h => p79_4001 call n x0 v1 v2 h K

/-! ### 80 (*proctor/parse.parser).closes -/
noncomputable def s80 (call : CallFn) (n : Nat) (x0 x1 : AV) (h : AHeap) (K : Kont) : Bool :=
  optPK (bsliceV h 1 1 [.str []] [(0, x1)]) fun v1 h => call (.func 26) [x0, v1] h <| pz K fun v2 h => nilckK x0 fun v3 => fadrK 3 v3 fun v4 => loadK h v4 fun v5 => subK v5 (.int .i64 1) fun v6 => nilckK x0 fun v7 => fadrK 3 v7 fun v8 => storeK h v8 v6 fun h => K (.tup []) h

/-! ### 81 (*proctor/parse.parser).quoted -/
noncomputable def p81_4001 (call : CallFn) (n : Nat) (x0 x3 x5 : AV) (h : AHeap) (K : Kont) : Bool :=
  call (.func 74) [x3, x5] h <| pz K fun v2 h => call (.func 123) [x0] h <| pz K fun v3 h => K v3 h
noncomputable def s81 (call : CallFn) (n : Nat) (x0 : AV) (h : AHeap) (K : Kont) : Bool :=
  call (.func 125) [x0, (.int .i64 3)] h <| pz K fun v1 h => p81_4001 call n x0 x0 v1 h K

/-! ### 83 (*proctor/parse.parser).conds -/
noncomputable def p83_31001 (call : CallFn) (n : Nat) (B5 : F3) (x0 x1 x19 x21 : AV) (h : AHeap) (K : Kont) : Bool :=
  optPK (bsliceV h 1 19 [.int .i64 0, .str [], .str [], .nilSlc, .nilSlc, .nilSlc, .nilSlc, .nilSlc, .int .i64 0, .str [], .int .i64 0, .bool false, .int .i64 0, .str [], .nilSlc, .nilSlc, .str [], .str [], .nilSlc] [(0, x21)]) fun v8 h => appK h 19 328 x19 v8 fun v9 h => B5 x0 x1 v9 h
noncomputable def p83_30 (call : CallFn) (n : Nat) (B5 : F3) (x0 x1 x5 : AV) (h : AHeap) (K : Kont) : Bool :=
  call (.func 127) [x0] h <| pz K fun v7 h => p83_31001 call n B5 x0 x1 x5 v7 h K
noncomputable def b83_11 (call : CallFn) (n : Nat) (B5 : F3) (B11 : F6) (x0 x1 x5 x8 x9 x10 : AV) (h : AHeap) (K : Kont) : Bool :=
  lssK x10 x9 fun v2 => condK v2 (iadrK h 1 x8 x10 fun v3 => loadK h v3 fun v4 => call (.func 75) [x0, (.int .i64 0), v4] h <| pz K fun v5 h => condK v5 (K x5 h) (addK x10 (.int .i64 1) fun v6 => B11 x0 x1 x5 x8 x9 v6 h)) (p83_30 call n B5 x0 x1 x5 h K)
noncomputable def l83_11 (call : CallFn) (n : Nat) (B5 : F3) : Nat → AV → AV → AV → AV → AV → AV → AHeap → Kont → Bool :=
  @Nat.rec (fun _ => AV → AV → AV → AV → AV → AV → AHeap → Kont → Bool) (fun _ _ _ _ _ _ _ _ => false) (fun _ ih x0 x1 x5 x8 x9 x10 h K => b83_11 call n B5 (fun x0 x1 x5 x8 x9 x10 h => ih x0 x1 x5 x8 x9 x10 h K) x0 x1 x5 x8 x9 x10 h K)
noncomputable def b83_5 (call : CallFn) (n : Nat) (B5 : F3) (x0 x1 x5 : AV) (h : AHeap) (K : Kont) : Bool :=
  lenK x1 fun v1 => l83_11 call n B5 n x0 x1 x5 x1 v1 (.int .i64 0) h K
noncomputable def l83_5 (call : CallFn) (n : Nat) : Nat → AV → AV → AV → AHeap → Kont → Bool :=
  @Nat.rec (fun _ => AV → AV → AV → AHeap → Kont → Bool) (fun _ _ _ _ _ => false) (fun _ ih x0 x1 x5 h K => b83_5 call n (fun x0 x1 x5 h => ih x0 x1 x5 h K) x0 x1 x5 h K)
noncomputable def s83 (call : CallFn) (n : Nat) (x0 x1 : AV) (h : AHeap) (K : Kont) : Bool :=
  l83_5 call n n x0 x1 .nilSlc h K

/-! ### 84 (*proctor/parse.parser).action -/
noncomputable def p84_45 (call : CallFn) (n : Nat) (x0 x2 x3 : AV) (h : AHeap) (K : Kont) : Bool :=
  optPK (bsliceV h 1 1 [.str []] [(0, (.str [59]))]) fun v16 h => call (.func 26) [x0, v16] h <| pz K fun v17 h => loadGK h 12 x3 fun v18 => storeNK h 12 x2 v18 fun h => optR (resV h [(x2, some (true, 12))]) h K
noncomputable def p84_24001 (call : CallFn) (n : Nat) (x0 x2 x3 x22 : AV) (h : AHeap) (K : Kont) : Bool :=
  fadrK 2 x3 fun v14 => storeK h v14 x22 fun h => p84_45 call n x0 x2 x3 h K
noncomputable def p84_23001 (call : CallFn) (n : Nat) (x0 x2 x3 x19 : AV) (h : AHeap) (K : Kont) : Bool :=
  fadrK 1 x3 fun v11 => storeK h v11 x19 fun h => call (.func 128) [x0, (.int .i64 0)] h <| pz K fun v13 h => p84_24001 call n x0 x2 x3 v13 h K
noncomputable def p84_21 (call : CallFn) (n : Nat) (x0 x2 x3 : AV) (h : AHeap) (K : Kont) : Bool :=
  call (.func 76) [x0] h <| pz K fun v10 h => p84_23001 call n x0 x2 x3 v10 h K
noncomputable def p84_18001 (call : CallFn) (n : Nat) (x0 x2 x3 x15 : AV) (h : AHeap) (K : Kont) : Bool :=
  eqlK x15 (.str [108, 111, 103, 105, 99, 97, 108]) fun v7 => condK v7 (fadrK 0 x3 fun v8 => storeK h v8 (.int .i64 2) fun h => p84_21 call n x0 x2 x3 h K) (p84_21 call n x0 x2 x3 h K)
noncomputable def p84_30001 (call : CallFn) (n : Nat) (x0 x2 x3 x32 : AV) (h : AHeap) (K : Kont) : Bool :=
  fadrK 2 x3 fun v27 => storeK h v27 x32 fun h => p84_45 call n x0 x2 x3 h K
noncomputable def p84_29001 (call : CallFn) (n : Nat) (x0 x2 x3 x28 : AV) (h : AHeap) (K : Kont) : Bool :=
  fadrK 0 x3 fun v22 => storeK h v22 (.int .i64 3) fun h => fadrK 3 x3 fun v24 => storeNK h 8 v24 x28 fun h => call (.func 128) [x0, (.int .i64 1)] h <| pz K fun v26 h => p84_30001 call n x0 x2 x3 v26 h K
noncomputable def p84_34001 (call : CallFn) (n : Nat) (x0 x2 x3 x38 : AV) (h : AHeap) (K : Kont) : Bool :=
  fadrK 0 x3 fun v31 => storeK h v31 (.int .i64 4) fun h => fadrK 3 x3 fun v33 => storeNK h 8 v33 x38 fun h => p84_45 call n x0 x2 x3 h K
noncomputable def p84_38001 (call : CallFn) (n : Nat) (x0 x2 x3 x45 : AV) (h : AHeap) (K : Kont) : Bool :=
  fadrK 0 x3 fun v37 => storeK h v37 (.int .i64 5) fun h => fadrK 11 x3 fun v39 => storeK h v39 x45 fun h => p84_45 call n x0 x2 x3 h K
noncomputable def p84_42001 (call : CallFn) (n : Nat) (x0 x2 x3 x52 : AV) (h : AHeap) (K : Kont) : Bool :=
  fadrK 0 x3 fun v43 => storeK h v43 (.int .i64 6) fun h => fadrK 3 x3 fun v45 => storeNK h 8 v45 x52 fun h => p84_45 call n x0 x2 x3 h K
noncomputable def p84_12 (call : CallFn) (n : Nat) (x0 x2 x3 x8 : AV) (h : AHeap) (K : Kont) : Bool :=
  condK x8 (fadrK 0 x3 fun v4 => storeK h v4 (.int .i64 1) fun h => call (.func 123) [x0] h <| pz K fun v6 h => p84_18001 call n x0 x2 x3 v6 h K) (call (.func 23) [x0, (.str [117, 112, 100, 97, 116, 101])] h <| pz K fun v20 h => condK v20 (call (.func 129) [x0] h <| pz K fun v21 h => p84_29001 call n x0 x2 x3 v21 h K) (call (.func 23) [x0, (.str [100, 101, 108, 101, 116, 101])] h <| pz K fun v29 h => condK v29 (call (.func 129) [x0] h <| pz K fun v30 h => p84_34001 call n x0 x2 x3 v30 h K) (call (.func 23) [x0, (.str [102, 111, 99, 117, 115])] h <| pz K fun v35 h => condK v35 (call (.func 81) [x0] h <| pz K fun v36 h => p84_38001 call n x0 x2 x3 v36 h K) (call (.func 23) [x0, (.str [112, 114, 105, 110, 116])] h <| pz K fun v41 h => condK v41 (call (.func 129) [x0] h <| pz K fun v42 h => p84_42001 call n x0 x2 x3 v42 h K) (optPK (bsliceV h 1 1 [.str []] [(0, (.str [104, 97, 108, 116]))]) fun v47 h => call (.func 26) [x0, v47] h <| pz K fun v48 h => fadrK 0 x3 fun v49 => storeK h v49 (.int .i64 7) fun h => p84_45 call n x0 x2 x3 h K)))))
noncomputable def s84 (call : CallFn) (n : Nat) (x0 : AV) (h : AHeap) (K : Kont) : Bool :=
  allocK h [.int .i64 0, .str [], .nilSlc, .int .i64 0, .str [], .int .i64 0, .bool false, .int .i64 0, .str [], .nilSlc, .nilSlc, .str []] 12 fun v1 h => allocK h [.int .i64 0, .str [], .nilSlc, .int .i64 0, .str [], .int .i64 0, .bool false, .int .i64 0, .str [], .nilSlc, .nilSlc, .str []] 12 fun v2 h => call (.func 75) [x0, (.int .i64 0), (.str [105, 110, 115, 101, 114, 116])] h <| pz K fun v3 h => condK v3 (p84_12 call n x0 v1 v2 v3 h K) (call (.func 75) [x0, (.int .i64 0), (.str [108, 111, 103, 105, 99, 97, 108])] h <| pz K fun v51 h => p84_12 call n x0 v1 v2 v51 h K)

/-! ### 85 (*proctor/parse.parser).list -/
noncomputable def p85_15 (call : CallFn) (n : Nat) (x0 x1 : AV) (h : AHeap) (K : Kont) : Bool :=
  call (.func 80) [x0, x1] h <| pz K fun v14 h => K (.tup []) h
noncomputable def p85_8002 (call : CallFn) (n : Nat) (B4 : F4) (x0 x1 x2 x14 x17 x19 : AV) (h : AHeap) (K : Kont) : Bool :=
  gK x14 false (pickK x17 x19 (.bool false)) fun v11 => pickK x14 (.bool true) v11 fun v12 => condK v12 (callV call x2 [] h <| pz K fun v13 h => B4 x0 x1 x2 (.bool false) h) (p85_15 call n x0 x1 h K)
noncomputable def p85_8001 (call : CallFn) (n : Nat) (B4 : F4) (x0 x1 x2 x6 x8 x11 : AV) (h : AHeap) (K : Kont) : Bool :=
  gK x8 true (notK x11) fun v4 => pickK x8 v4 (.bool false) fun v5 => gK v5 false (optK (some x6)) fun v6 => gK v5 false (notK v6) fun v7 => gK v5 false (optK (some v7)) fun v8 => gK v8 true (optK (some x0)) fun v9 => gP v8 true (fun k => call (.func 23) [v9, (.str [44])] h (pz K k)) h fun v10 h => p85_8002 call n B4 x0 x1 x2 v5 v8 v10 h K
noncomputable def b85_4 (call : CallFn) (n : Nat) (B4 : F4) (x0 x1 x2 x6 : AV) (h : AHeap) (K : Kont) : Bool :=
  gK x6 true (optK (some x0)) fun v1 => gK x6 true (optK (some x1)) fun v2 => gP x6 true (fun k => call (.func 75) [v1, (.int .i64 0), v2] h (pz K k)) h fun v3 h => p85_8001 call n B4 x0 x1 x2 x6 x6 v3 h K
noncomputable def l85_4 (call : CallFn) (n : Nat) : Nat → AV → AV → AV → AV → AHeap → Kont → Bool :=
  @Nat.rec (fun _ => AV → AV → AV → AV → AHeap → Kont → Bool) (fun _ _ _ _ _ _ => false) (fun _ ih x0 x1 x2 x6 h K => b85_4 call n (fun x0 x1 x2 x6 h => ih x0 x1 x2 x6 h K) x0 x1 x2 x6 h K)
noncomputable def s85 (call : CallFn) (n : Nat) (x0 x1 x2 : AV) (h : AHeap) (K : Kont) : Bool :=
  l85_4 call n n x0 x1 x2 (.bool true) h K

/-! ### 86 (*proctor/parse.parser).query$1 -/
noncomputable def s86 (call : CallFn) (n : Nat) (x0 x1 : AV) (h : AHeap) (K : Kont) : Bool :=
  fadrK 1 x0 fun v1 => loadK h v1 fun v2 => loadK h x1 fun v3 => call (.func 87) [v3] h <| pz K fun v4 h => loadK h v1 <| sameK v2 <| optPK (bsliceV h 1 1 [.str []] [(0, v4)]) fun v5 h => loadK h v1 <| sameK v2 <| loadK h x1 <| sameK v3 <| appK h 1 16 v2 v5 fun v6 h => fadrK 1 x0 fun v7 => storeK h v7 v6 fun h => K (.tup []) h

/-! ### 87 (*proctor/parse.parser).variable -/
noncomputable def p87_4002 (call : CallFn) (n : Nat) (x0 x3 x6 x8 : AV) (h : AHeap) (K : Kont) : Bool :=
  gK x6 true (fldK 1 x8) fun v4 => gK x6 true (lenSK v4) fun v5 => gK x6 true (leqK v5 (.int .i64 64)) fun v6 => pickK x6 v6 (.bool false) fun v7 => call (.func 74) [x3, v7] h <| pz K fun v8 h => call (.func 123) [x0] h <| pz K fun v9 h => K v9 h
noncomputable def p87_4001 (call : CallFn) (n : Nat) (x0 x3 x5 : AV) (h : AHeap) (K : Kont) : Bool :=
  gK x5 true (optK (some x0)) fun v2 => gP x5 true (fun k => call (.func 121) [v2, (.int .i64 0)] h (pz K k)) h fun v3 h => p87_4002 call n x0 x3 x5 v3 h K
noncomputable def s87 (call : CallFn) (n : Nat) (x0 : AV) (h : AHeap) (K : Kont) : Bool :=
  call (.func 125) [x0, (.int .i64 1)] h <| pz K fun v1 h => p87_4001 call n x0 x0 v1 h K

/-! ### 89 (*proctor/print.writer).class -/
noncomputable def p89_57 (call : CallFn) (n : Nat) (B16 : F4) (x0 x23 x24 x25 : AV) (h : AHeap) (K : Kont) : Bool :=
  addK x25 (.int .i64 1) fun v37 => B16 x0 x23 x24 v37 h
noncomputable def p89_50 (call : CallFn) (n : Nat) (B16 : F4) (x0 x5 x23 x24 x25 x35 x38 : AV) (h : AHeap) (K : Kont) : Bool :=
  condK x38 (optPK (bsliceV h 5 1 [.str []] [(0, (.str [97, 110, 121])), (1, (.str [98, 111, 111, 108])), (2, (.str [105, 110, 116])), (3, (.str [116, 101, 120, 116])), (4, (.str [108, 105, 115, 116]))]) fun v30 h => fadrK 1 x5 fun v31 => loadK h v31 fun v32 => iadrK h 1 v30 v32 fun v33 => loadK h v33 fun v34 => optPK (bsliceV h 1 1 [.str []] [(0, v34)]) fun v35 h => call (.func 130) [x0, v35] h <| pz K fun v36 h => p89_57 call n B16 x0 x23 x24 x25 h K) (eqlK x35 (.int .i64 5) fun v38 => condK v38 (fadrK 2 x5 fun v39 => loadK h v39 fun v40 => optPK (bsliceV h 2 1 [.str []] [(0, (.str [114, 101, 102])), (1, v40)]) fun v41 h => call (.func 130) [x0, v41] h <| pz K fun v42 h => p89_57 call n B16 x0 x23 x24 x25 h K) (buildK [] [] fun v43 => optK (mkifA 136 v43) fun v44 => pncK K v44 h))
noncomputable def p89_58 (call : CallFn) (n : Nat) (x0 : AV) (h : AHeap) (K : Kont) : Bool :=
  optPK (bsliceV h 1 1 [.str []] [(0, (.str [125]))]) fun v50 h => call (.func 130) [x0, v50] h <| pz K fun v51 h => K (.tup []) h
noncomputable def b89_16 (call : CallFn) (n : Nat) (B16 : F4) (x0 x23 x24 x25 : AV) (h : AHeap) (K : Kont) : Bool :=
  lssK x25 x24 fun v18 => condK v18 (iadrK h 3 x23 x25 fun v19 => loadGK h 3 v19 fun v20 => allocK h [.str [], .int .i64 0, .str []] 3 fun v21 h => storeNK h 3 v21 v20 fun h => fadrK 0 v21 fun v23 => loadK h v23 fun v24 => optPK (bsliceV h 2 1 [.str []] [(0, v24), (1, (.str [58]))]) fun v25 h => call (.func 130) [x0, v25] h <| pz K fun v26 h => fadrK 1 v21 fun v27 => loadK h v27 fun v28 => eqlK v28 (.int .i64 0) fun v29 => condK v29 (p89_50 call n B16 x0 v21 x23 x24 x25 v28 v29 h K) (eqlK v28 (.int .i64 1) fun v46 => condK v46 (p89_50 call n B16 x0 v21 x23 x24 x25 v28 v46 h K) (eqlK v28 (.int .i64 2) fun v47 => condK v47 (p89_50 call n B16 x0 v21 x23 x24 x25 v28 v47 h K) (eqlK v28 (.int .i64 3) fun v48 => condK v48 (p89_50 call n B16 x0 v21 x23 x24 x25 v28 v48 h K) (eqlK v28 (.int .i64 4) fun v49 => p89_50 call n B16 x0 v21 x23 x24 x25 v28 v49 h K))))) (p89_58 call n x0 h K)
noncomputable def l89_16 (call : CallFn) (n : Nat) : Nat → AV → AV → AV → AV → AHeap → Kont → Bool :=
  @Nat.rec (fun _ => AV → AV → AV → AV → AHeap → Kont → Bool) (fun _ _ _ _ _ _ => false) (fun _ ih x0 x23 x24 x25 h K => b89_16 call n (fun x0 x23 x24 x25 h => ih x0 x23 x24 x25 h K) x0 x23 x24 x25 h K)
noncomputable def p89_10 (call : CallFn) (n : Nat) (x0 x3 : AV) (h : AHeap) (K : Kont) : Bool :=
  optPK (bsliceV h 1 1 [.str []] [(0, (.str [123]))]) fun v13 h => call (.func 130) [x0, v13] h <| pz K fun v14 h => fadrK 2 x3 fun v15 => loadK h v15 fun v16 => lenK v16 fun v17 => l89_16 call n n x0 v16 v17 (.int .i64 0) h K
noncomputable def s89 (call : CallFn) (n : Nat) (x0 x1 : AV) (h : AHeap) (K : Kont) : Bool :=
  optPK (boxA h (none) 3 x1) fun v1 h => fadrK 0 v1 fun v2 => loadK h v2 fun v3 => optPK (bsliceV h 2 1 [.str []] [(0, (.str [99, 108, 97, 115, 115])), (1, v3)]) fun v4 h => call (.func 130) [x0, v4] h <| pz K fun v5 h => fadrK 1 v1 fun v6 => loadK h v6 fun v7 => neqK v7 (.str []) fun v8 => condK v8 (fadrK 1 v1 fun v9 => loadK h v9 fun v10 => optPK (bsliceV h 2 1 [.str []] [(0, (.str [101, 120, 116, 101, 110, 100, 115])), (1, v10)]) fun v11 h => call (.func 130) [x0, v11] h <| pz K fun v12 h => p89_10 call n x0 v1 h K) (p89_10 call n x0 v1 h K)

/-! ### 90 (*proctor/print.writer).rule -/
noncomputable def p90_71 (call : CallFn) (n : Nat) (x0 : AV) (h : AHeap) (K : Kont) : Bool :=
  optPK (bsliceV h 1 1 [.str []] [(0, (.str [101, 110, 100]))]) fun v68 h => call (.func 130) [x0, v68] h <| pz K fun v69 h => K (.tup []) h
noncomputable def b90_58 (call : CallFn) (n : Nat) (B58 : F4) (x0 x79 x80 x81 : AV) (h : AHeap) (K : Kont) : Bool :=
  lssK x81 x80 fun v60 => condK v60 (iadrK h 12 x79 x81 fun v61 => loadGK h 12 v61 fun v62 => allocK h [.int .i64 0, .str [], .nilSlc, .int .i64 0, .str [], .int .i64 0, .bool false, .int .i64 0, .str [], .nilSlc, .nilSlc, .str []] 12 fun v63 h => storeNK h 12 v63 v62 fun h => loadGK h 12 v63 fun v65 => call (.func 135) [x0, v65] h <| pz K fun v66 h => addK x81 (.int .i64 1) fun v67 => B58 x0 x79 x80 v67 h) (p90_71 call n x0 h K)
noncomputable def l90_58 (call : CallFn) (n : Nat) : Nat → AV → AV → AV → AV → AHeap → Kont → Bool :=
  @Nat.rec (fun _ => AV → AV → AV → AV → AHeap → Kont → Bool) (fun _ _ _ _ _ _ => false) (fun _ ih x0 x79 x80 x81 h K => b90_58 call n (fun x0 x79 x80 x81 h => ih x0 x79 x80 x81 h K) x0 x79 x80 x81 h K)
noncomputable def p90_48 (call : CallFn) (n : Nat) (x0 x3 : AV) (h : AHeap) (K : Kont) : Bool :=
  optPK (bsliceV h 1 1 [.str []] [(0, (.str [119, 104, 101, 110]))]) fun v50 h => call (.func 130) [x0, v50] h <| pz K fun v51 h => fadrK 6 x3 fun v52 => loadK h v52 fun v53 => call (.func 134) [x0, v53] h <| pz K fun v54 h => optPK (bsliceV h 1 1 [.str []] [(0, (.str [116, 104, 101, 110]))]) fun v55 h => call (.func 130) [x0, v55] h <| pz K fun v56 h => fadrK 7 x3 fun v57 => loadK h v57 fun v58 => lenK v58 fun v59 => l90_58 call n n x0 v58 v59 (.int .i64 0) h K
noncomputable def p90_42 (call : CallFn) (n : Nat) (x0 x3 : AV) (h : AHeap) (K : Kont) : Bool :=
  fadrK 5 x3 fun v46 => loadK h v46 fun v47 => condK v47 (optPK (bsliceV h 1 1 [.str []] [(0, (.str [108, 111, 99, 107]))]) fun v48 h => call (.func 130) [x0, v48] h <| pz K fun v49 h => p90_48 call n x0 x3 h K) (p90_48 call n x0 x3 h K)
noncomputable def p90_36 (call : CallFn) (n : Nat) (x0 x3 : AV) (h : AHeap) (K : Kont) : Bool :=
  fadrK 4 x3 fun v42 => loadK h v42 fun v43 => condK v43 (optPK (bsliceV h 1 1 [.str []] [(0, (.str [110, 111, 108, 111, 111, 112]))]) fun v44 h => call (.func 130) [x0, v44] h <| pz K fun v45 h => p90_42 call n x0 x3 h K) (p90_42 call n x0 x3 h K)
noncomputable def p90_35001 (call : CallFn) (n : Nat) (x0 x3 x52 x55 : AV) (h : AHeap) (K : Kont) : Bool :=
  optPK (bsliceV h 2 1 [.str []] [(0, (.str [102, 108, 111, 119])), (1, x55)]) fun v40 h => call (.func 130) [x52, v40] h <| pz K fun v41 h => p90_36 call n x0 x3 h K
noncomputable def p90_30 (call : CallFn) (n : Nat) (x0 x3 : AV) (h : AHeap) (K : Kont) : Bool :=
  fadrK 3 x3 fun v34 => loadK h v34 fun v35 => neqK v35 (.str []) fun v36 => condK v36 (fadrK 3 x3 fun v37 => loadK h v37 fun v38 => call (.func 131) [v38] h <| pz K fun v39 h => p90_35001 call n x0 x3 x0 v39 h K) (p90_36 call n x0 x3 h K)
noncomputable def p90_29001 (call : CallFn) (n : Nat) (x0 x3 x43 x46 : AV) (h : AHeap) (K : Kont) : Bool :=
  optPK (bsliceV h 2 1 [.str []] [(0, (.str [103, 114, 111, 117, 112])), (1, x46)]) fun v32 h => call (.func 130) [x43, v32] h <| pz K fun v33 h => p90_30 call n x0 x3 h K
noncomputable def p90_24 (call : CallFn) (n : Nat) (x0 x3 : AV) (h : AHeap) (K : Kont) : Bool :=
  fadrK 2 x3 fun v26 => loadK h v26 fun v27 => neqK v27 (.str []) fun v28 => condK v28 (fadrK 2 x3 fun v29 => loadK h v29 fun v30 => call (.func 131) [v30] h <| pz K fun v31 h => p90_29001 call n x0 x3 x0 v31 h K) (p90_30 call n x0 x3 h K)
noncomputable def p90_23001 (call : CallFn) (n : Nat) (x0 x3 x35 x37 : AV) (h : AHeap) (K : Kont) : Bool :=
  optPK (bsliceV h 1 1 [.str []] [(0, x37)]) fun v24 h => call (.func 130) [x35, v24] h <| pz K fun v25 h => p90_24 call n x0 x3 h K
noncomputable def p90_22 (call : CallFn) (n : Nat) (x0 x3 x4 : AV) (h : AHeap) (K : Kont) : Bool :=
  call (.func 133) [x4, (.int .i64 10)] h <| pz K fun v23 h => p90_23001 call n x0 x3 x0 v23 h K
noncomputable def p90_4001 (call : CallFn) (n : Nat) (x0 x3 x7 x10 : AV) (h : AHeap) (K : Kont) : Bool :=
  optPK (bsliceV h 2 1 [.str []] [(0, (.str [114, 117, 108, 101])), (1, x10)]) fun v5 h => call (.func 130) [x7, v5] h <| pz K fun v6 h => fadrK 1 x3 fun v7 => loadK h v7 fun v8 => neqK v8 (.int .i64 0) fun v9 => condK v9 (optPK (bsliceV h 1 1 [.str []] [(0, (.str [115, 97, 108, 105, 101, 110, 99, 101]))]) fun v10 h => call (.func 130) [x0, v10] h <| pz K fun v11 h => fadrK 1 x3 fun v12 => loadK h v12 fun v13 => geqK v13 (.int .i64 (-2147483648)) fun v14 => gK v14 true (optK (some v13)) fun v15 => gK v14 true (leqK v15 (.int .i64 2147483648)) fun v16 => pickK v14 v16 (.bool false) fun v17 => call (.func 132) [v17] h <| pz K fun v18 h => lssK v13 (.int .i64 0) fun v19 => condK v19 (optPK (bsliceV h 1 1 [.str []] [(0, (.str [45]))]) fun v20 h => call (.func 130) [x0, v20] h <| pz K fun v21 h => optK (negA v13) fun v22 => p90_22 call n x0 x3 v22 h K) (p90_22 call n x0 x3 v13 h K)) (p90_24 call n x0 x3 h K)
noncomputable def s90 (call : CallFn) (n : Nat) (x0 x1 : AV) (h : AHeap) (K : Kont) : Bool :=
  optPK (boxA h (none) 8 x1) fun v1 h => fadrK 0 v1 fun v2 => loadK h v2 fun v3 => call (.func 131) [v3] h <| pz K fun v4 h => p90_4001 call n x0 v1 x0 v4 h K

/-! ### 91 (*proctor/print.writer).query -/
noncomputable def s91 (call : CallFn) (n : Nat) (x0 x1 : AV) (h : AHeap) (K : Kont) : Bool :=
  boxK h x0 fun v1 h => optPK (boxA h (none) 3 x1) fun v2 h => loadK h v1 fun v3 => fadrK 0 v2 fun v4 => loadK h v4 fun v5 => optPK (bsliceV h 3 1 [.str []] [(0, (.str [113, 117, 101, 114, 121])), (1, v5), (2, (.str [40]))]) fun v6 h => call (.func 130) [v3, v6] h <| pz K fun v7 h => loadK h v1 fun v8 => fadrK 1 v2 fun v9 => loadK h v9 fun v10 => optK (some (.fn (.func 137) [] [v1])) fun v11 => call (.func 136) [v8, v10, v11] h <| pz K fun v12 h => loadK h v1 fun v13 => optPK (bsliceV h 1 1 [.str []] [(0, (.str [41]))]) fun v14 h => call (.func 130) [v13, v14] h <| pz K fun v15 h => loadK h v1 fun v16 => fadrK 2 v2 fun v17 => loadK h v17 fun v18 => call (.func 134) [v16, v18] h <| pz K fun v19 h => loadK h v1 fun v20 => optPK (bsliceV h 1 1 [.str []] [(0, (.str [101, 110, 100]))]) fun v21 h => call (.func 130) [v20, v21] h <| pz K fun v22 h => K (.tup []) h

/-! ### 92 proctor/parse.Long$1 -/
noncomputable def p92_1001 (call : CallFn) (n : Nat) (x1 x4 : AV) (h : AHeap) (K : Kont) : Bool :=
  storeNK h 3 x1 x4 fun h => K (.tup []) h
noncomputable def s92 (call : CallFn) (n : Nat) (x0 x1 : AV) (h : AHeap) (K : Kont) : Bool :=
  call (.func 10) [x0] h <| pz K fun v1 h => p92_1001 call n x1 v1 h K

/-! ### 93 slices.EqualFunc[[]proctor/api.Class,[]proctor/api.Class,proctor/api.Class,proctor/api.Class] -/
noncomputable def p93_29001 (call : CallFn) (n : Nat) (B14 : F5) (x1 x2 x15 x16 x17 x29 : AV) (h : AHeap) (K : Kont) : Bool :=
  notK x29 fun v17 => condK v17 (K (.bool false) h) (addK x17 (.int .i64 1) fun v18 => B14 x1 x2 x15 x16 v18 h)
noncomputable def b93_14 (call : CallFn) (n : Nat) (B14 : F5) (x1 x2 x15 x16 x17 : AV) (h : AHeap) (K : Kont) : Bool :=
  lssK x17 x16 fun v5 => condK v5 (iadrK h 3 x15 x17 fun v6 => loadGK h 3 v6 fun v7 => allocK h [.str [], .str [], .nilSlc] 3 fun v8 h => storeNK h 3 v8 v7 fun h => iadrK h 3 x1 x17 fun v10 => loadGK h 3 v10 fun v11 => allocK h [.str [], .str [], .nilSlc] 3 fun v12 h => storeNK h 3 v12 v11 fun h => loadGK h 3 v8 fun v14 => loadGK h 3 v12 fun v15 => callV call x2 [v14, v15] h <| pz K fun v16 h => p93_29001 call n B14 x1 x2 x15 x16 x17 v16 h K) (K (.bool true) h)
noncomputable def l93_14 (call : CallFn) (n : Nat) : Nat → AV → AV → AV → AV → AV → AHeap → Kont → Bool :=
  @Nat.rec (fun _ => AV → AV → AV → AV → AV → AHeap → Kont → Bool) (fun _ _ _ _ _ _ _ => false) (fun _ ih x1 x2 x15 x16 x17 h K => b93_14 call n (fun x1 x2 x15 x16 x17 h => ih x1 x2 x15 x16 x17 h K) x1 x2 x15 x16 x17 h K)
noncomputable def p93_10 (call : CallFn) (n : Nat) (x0 x1 x2 : AV) (h : AHeap) (K : Kont) : Bool :=
  lenK x0 fun v4 => l93_14 call n n x1 x2 x0 v4 (.int .i64 0) h K
noncomputable def s93 (call : CallFn) (n : Nat) (x0 x1 x2 : AV) (h : AHeap) (K : Kont) : Bool :=
  lenK x0 fun v1 => lenK x1 fun v2 => neqK v1 v2 fun v3 => condK v3 (K (.bool false) h) (p93_10 call n x0 x1 x2 h K)

/-! ### 94 proctor/print.sameClass -/
noncomputable def p94_4001 (call : CallFn) (n : Nat) (x17 x22 : AV) (h : AHeap) (K : Kont) : Bool :=
  pickK x17 x22 (.bool false) fun v19 => K v19 h
noncomputable def s94 (call : CallFn) (n : Nat) (x0 x1 : AV) (h : AHeap) (K : Kont) : Bool :=
  optPK (boxA h (none) 3 x0) fun v1 h => optPK (boxA h (none) 3 x1) fun v2 h => fadrK 0 v1 fun v3 => loadK h v3 fun v4 => fadrK 0 v2 fun v5 => loadK h v5 fun v6 => eqlK v4 v6 fun v7 => gK v7 true (fadrK 1 v1) fun v8 => gK v7 true (loadK h v8) fun v9 => gK v7 true (fadrK 1 v2) fun v10 => gK v7 true (loadK h v10) fun v11 => gK v7 true (eqlK v9 v11) fun v12 => pickK v7 v12 (.bool false) fun v13 => gK v13 true (fadrK 2 v1) fun v14 => gK v13 true (loadK h v14) fun v15 => gK v13 true (fadrK 2 v2) fun v16 => gK v13 true (loadK h v16) fun v17 => gP v13 true (fun k => call (.func 138) [v15, v17] h (pz K k)) h fun v18 h => p94_4001 call n v13 v18 h K

/-! ### 95 slices.EqualFunc[[]proctor/api.Rule,[]proctor/api.Rule,proctor/api.Rule,proctor/api.Rule] -/
noncomputable def p95_29001 (call : CallFn) (n : Nat) (B14 : F5) (x1 x2 x15 x16 x17 x29 : AV) (h : AHeap) (K : Kont) : Bool :=
  notK x29 fun v17 => condK v17 (K (.bool false) h) (addK x17 (.int .i64 1) fun v18 => B14 x1 x2 x15 x16 v18 h)
noncomputable def b95_14 (call : CallFn) (n : Nat) (B14 : F5) (x1 x2 x15 x16 x17 : AV) (h : AHeap) (K : Kont) : Bool :=
  lssK x17 x16 fun v5 => condK v5 (iadrK h 8 x15 x17 fun v6 => loadGK h 8 v6 fun v7 => allocK h [.str [], .int .i64 0, .str [], .str [], .bool false, .bool false, .nilSlc, .nilSlc] 8 fun v8 h => storeNK h 8 v8 v7 fun h => iadrK h 8 x1 x17 fun v10 => loadGK h 8 v10 fun v11 => allocK h [.str [], .int .i64 0, .str [], .str [], .bool false, .bool false, .nilSlc, .nilSlc] 8 fun v12 h => storeNK h 8 v12 v11 fun h => loadGK h 8 v8 fun v14 => loadGK h 8 v12 fun v15 => callV call x2 [v14, v15] h <| pz K fun v16 h => p95_29001 call n B14 x1 x2 x15 x16 x17 v16 h K) (K (.bool true) h)
noncomputable def l95_14 (call : CallFn) (n : Nat) : Nat → AV → AV → AV → AV → AV → AHeap → Kont → Bool :=
  @Nat.rec (fun _ => AV → AV → AV → AV → AV → AHeap → Kont → Bool) (fun _ _ _ _ _ _ _ => false) (fun _ ih x1 x2 x15 x16 x17 h K => b95_14 call n (fun x1 x2 x15 x16 x17 h => ih x1 x2 x15 x16 x17 h K) x1 x2 x15 x16 x17 h K)
noncomputable def p95_10 (call : CallFn) (n : Nat) (x0 x1 x2 : AV) (h : AHeap) (K : Kont) : Bool :=
  lenK x0 fun v4 => l95_14 call n n x1 x2 x0 v4 (.int .i64 0) h K
noncomputable def s95 (call : CallFn) (n : Nat) (x0 x1 x2 : AV) (h : AHeap) (K : Kont) : Bool :=
  lenK x0 fun v1 => lenK x1 fun v2 => neqK v1 v2 fun v3 => condK v3 (K (.bool false) h) (p95_10 call n x0 x1 x2 h K)

/-! ### 96 proctor/print.sameRule -/
noncomputable def p96_4002 (call : CallFn) (n : Nat) (x52 x57 : AV) (h : AHeap) (K : Kont) : Bool :=
  pickK x52 x57 (.bool false) fun v49 => K v49 h
noncomputable def p96_4001 (call : CallFn) (n : Nat) (x2 x3 x45 x50 : AV) (h : AHeap) (K : Kont) : Bool :=
  pickK x45 x50 (.bool false) fun v43 => gK v43 true (fadrK 7 x2) fun v44 => gK v43 true (loadK h v44) fun v45 => gK v43 true (fadrK 7 x3) fun v46 => gK v43 true (loadK h v46) fun v47 => gP v43 true (fun k => call (.func 140) [v45, v47, (.fn (.func 141) [] [])] h (pz K k)) h fun v48 h => p96_4002 call n v43 v48 h K
set_option maxRecDepth 100000 in
noncomputable def s96 (call : CallFn) (n : Nat) (x0 x1 : AV) (h : AHeap) (K : Kont) : Bool :=
  optPK (boxA h (none) 8 x0) fun v1 h => optPK (boxA h (none) 8 x1) fun v2 h => fadrK 0 v1 fun v3 => loadK h v3 fun v4 => fadrK 0 v2 fun v5 => loadK h v5 fun v6 => eqlK v4 v6 fun v7 => gK v7 true (fadrK 1 v1) fun v8 => gK v7 true (loadK h v8) fun v9 => gK v7 true (fadrK 1 v2) fun v10 => gK v7 true (loadK h v10) fun v11 => gK v7 true (eqlK v9 v11) fun v12 => pickK v7 v12 (.bool false) fun v13 => gK v13 true (fadrK 2 v1) fun v14 => gK v13 true (loadK h v14) fun v15 => gK v13 true (fadrK 2 v2) fun v16 => gK v13 true (loadK h v16) fun v17 => gK v13 true (eqlK v15 v17) fun v18 => pickK v13 v18 (.bool false) fun v19 => gK v19 true (fadrK 3 v1) fun v20 => gK v19 true (loadK h v20) fun v21 => gK v19 true (fadrK 3 v2) fun v22 => gK v19 true (loadK h v22) fun v23 => gK v19 true (eqlK v21 v23) fun v24 => pickK v19 v24 (.bool false) fun v25 => gK v25 true (fadrK 4 v1) fun v26 => gK v25 true (loadK h v26) fun v27 => gK v25 true (fadrK 4 v2) fun v28 => gK v25 true (loadK h v28) fun v29 => gK v25 true (optK (eqV h false .bool v27 v29)) fun v30 => pickK v25 v30 (.bool false) fun v31 => gK v31 true (fadrK 5 v1) fun v32 => gK v31 true (loadK h v32) fun v33 => gK v31 true (fadrK 5 v2) fun v34 => gK v31 true (loadK h v34) fun v35 => gK v31 true (optK (eqV h false .bool v33 v35)) fun v36 => pickK v31 v36 (.bool false) fun v37 => gK v37 true (fadrK 6 v1) fun v38 => gK v37 true (loadK h v38) fun v39 => gK v37 true (fadrK 6 v2) fun v40 => gK v37 true (loadK h v40) fun v41 => gP v37 true (fun k => call (.func 139) [v39, v41] h (pz K k)) h fun v42 h => p96_4001 call n v1 v2 v37 v42 h K

/-! ### 97 slices.EqualFunc[[]proctor/api.Query,[]proctor/api.Query,proctor/api.Query,proctor/api.Query] -/
noncomputable def p97_29001 (call : CallFn) (n : Nat) (B14 : F5) (x1 x2 x15 x16 x17 x29 : AV) (h : AHeap) (K : Kont) : Bool :=
  notK x29 fun v17 => condK v17 (K (.bool false) h) (addK x17 (.int .i64 1) fun v18 => B14 x1 x2 x15 x16 v18 h)
noncomputable def b97_14 (call : CallFn) (n : Nat) (B14 : F5) (x1 x2 x15 x16 x17 : AV) (h : AHeap) (K : Kont) : Bool :=
  lssK x17 x16 fun v5 => condK v5 (iadrK h 3 x15 x17 fun v6 => loadGK h 3 v6 fun v7 => allocK h [.str [], .nilSlc, .nilSlc] 3 fun v8 h => storeNK h 3 v8 v7 fun h => iadrK h 3 x1 x17 fun v10 => loadGK h 3 v10 fun v11 => allocK h [.str [], .nilSlc, .nilSlc] 3 fun v12 h => storeNK h 3 v12 v11 fun h => loadGK h 3 v8 fun v14 => loadGK h 3 v12 fun v15 => callV call x2 [v14, v15] h <| pz K fun v16 h => p97_29001 call n B14 x1 x2 x15 x16 x17 v16 h K) (K (.bool true) h)
noncomputable def l97_14 (call : CallFn) (n : Nat) : Nat → AV → AV → AV → AV → AV → AHeap → Kont → Bool :=
  @Nat.rec (fun _ => AV → AV → AV → AV → AV → AHeap → Kont → Bool) (fun _ _ _ _ _ _ _ => false) (fun _ ih x1 x2 x15 x16 x17 h K => b97_14 call n (fun x1 x2 x15 x16 x17 h => ih x1 x2 x15 x16 x17 h K) x1 x2 x15 x16 x17 h K)
noncomputable def p97_10 (call : CallFn) (n : Nat) (x0 x1 x2 : AV) (h : AHeap) (K : Kont) : Bool :=
  lenK x0 fun v4 => l97_14 call n n x1 x2 x0 v4 (.int .i64 0) h K
noncomputable def s97 (call : CallFn) (n : Nat) (x0 x1 x2 : AV) (h : AHeap) (K : Kont) : Bool :=
  lenK x0 fun v1 => lenK x1 fun v2 => neqK v1 v2 fun v3 => condK v3 (K (.bool false) h) (p97_10 call n x0 x1 x2 h K)

/-! ### 98 proctor/print.sameQuery -/
noncomputable def p98_4002 (call : CallFn) (n : Nat) (x17 x22 : AV) (h : AHeap) (K : Kont) : Bool :=
  pickK x17 x22 (.bool false) fun v19 => K v19 h
noncomputable def p98_4001 (call : CallFn) (n : Nat) (x2 x3 x10 x15 : AV) (h : AHeap) (K : Kont) : Bool :=
  pickK x10 x15 (.bool false) fun v13 => gK v13 true (fadrK 2 x2) fun v14 => gK v13 true (loadK h v14) fun v15 => gK v13 true (fadrK 2 x3) fun v16 => gK v13 true (loadK h v16) fun v17 => gP v13 true (fun k => call (.func 139) [v15, v17] h (pz K k)) h fun v18 h => p98_4002 call n v13 v18 h K
noncomputable def s98 (call : CallFn) (n : Nat) (x0 x1 : AV) (h : AHeap) (K : Kont) : Bool :=
  optPK (boxA h (none) 3 x0) fun v1 h => optPK (boxA h (none) 3 x1) fun v2 h => fadrK 0 v1 fun v3 => loadK h v3 fun v4 => fadrK 0 v2 fun v5 => loadK h v5 fun v6 => eqlK v4 v6 fun v7 => gK v7 true (fadrK 1 v1) fun v8 => gK v7 true (loadK h v8) fun v9 => gK v7 true (fadrK 1 v2) fun v10 => gK v7 true (loadK h v10) fun v11 => gP v7 true (fun k => call (.func 142) [v9, v11] h (pz K k)) h fun v12 h => p98_4001 call n v1 v2 v7 v12 h K

/-! ### 99 proctor/class.name -/
noncomputable def p99_31001 (call : CallFn) (n : Nat) (x55 x57 : AV) (h : AHeap) (K : Kont) : Bool :=
  gK x55 true (notK x57) fun v40 => pickK x55 v40 (.bool false) fun v41 => K v41 h
noncomputable def p99_29 (call : CallFn) (n : Nat) (x0 : AV) (h : AHeap) (K : Kont) : Bool :=
  lenSK x0 fun v32 => geqK v32 (.int .i64 1) fun v33 => gK v33 true (optK (some x0)) fun v34 => gK v33 true (lenSK v34) fun v35 => gK v33 true (leqK v35 (.int .i64 64)) fun v36 => pickK v33 v36 (.bool false) fun v37 => gK v37 true (optK (some x0)) fun v38 => gP v37 true (fun k => call (.func 143) [v38] h (pz K k)) h fun v39 h => p99_31001 call n v37 v39 h K
noncomputable def b99_6 (call : CallFn) (n : Nat) (B6 : F3) (x0 x7 x8 : AV) (h : AHeap) (K : Kont) : Bool :=
  lssK x8 x7 fun v2 => condK v2 (idxsK x0 x8 fun v3 => geqK v3 (.int .u8 97) fun v4 => gK v4 true (optK (some v3)) fun v5 => gK v4 true (leqK v5 (.int .u8 122)) fun v6 => pickK v4 v6 (.bool false) fun v7 => gK v7 false (optK (some v3)) fun v8 => gK v7 false (geqK v8 (.int .u8 65)) fun v9 => gK v7 false (optK (some v9)) fun v10 => gK v10 true (optK (some v3)) fun v11 => gK v10 true (leqK v11 (.int .u8 90)) fun v12 => gK v7 false (pickK v10 v12 (.bool false)) fun v13 => pickK v7 (.bool true) v13 fun v14 => notK v14 fun v15 => gK v15 true (optK (some x8)) fun v16 => gK v15 true (eqlK v16 (.int .i64 0)) fun v17 => gK v15 true (optK (some v17)) fun v18 => gK v18 false (optK (some v3)) fun v19 => gK v18 false (neqK v19 (.int .u8 95)) fun v20 => gK v18 false (optK (some v20)) fun v21 => gK v21 true (optK (some v3)) fun v22 => gK v21 true (lssK v22 (.int .u8 48)) fun v23 => gK v21 true (optK (some v23)) fun v24 => gK v24 false (optK (some v3)) fun v25 => gK v24 false (gtrK v25 (.int .u8 57)) fun v26 => gK v21 true (pickK v24 (.bool true) v26) fun v27 => gK v18 false (pickK v21 v27 (.bool false)) fun v28 => gK v15 true (pickK v18 (.bool true) v28) fun v29 => pickK v15 v29 (.bool false) fun v30 => condK v30 (K (.bool false) h) (addK x8 (.int .i64 1) fun v31 => B6 x0 x7 v31 h)) (p99_29 call n x0 h K)
noncomputable def l99_6 (call : CallFn) (n : Nat) : Nat → AV → AV → AV → AHeap → Kont → Bool :=
  @Nat.rec (fun _ => AV → AV → AV → AHeap → Kont → Bool) (fun _ _ _ _ _ => false) (fun _ ih x0 x7 x8 h K => b99_6 call n (fun x0 x7 x8 h => ih x0 x7 x8 h K) x0 x7 x8 h K)
noncomputable def s99 (call : CallFn) (n : Nat) (x0 : AV) (h : AHeap) (K : Kont) : Bool :=
  lenSK x0 fun v1 => l99_6 call n n x0 v1 (.int .i64 0) h K

/-! ### 100 (*proctor/class.Table).Has -/
noncomputable def s100 (call : CallFn) (n : Nat) (x0 x1 : AV) (h : AHeap) (K : Kont) : Bool :=
  nilckK x0 fun v1 => fadrK 1 v1 fun v2 => loadK h v2 fun v3 => optK (lookA h (.leaf .str) true (.int .i64 0) v3 x1) fun v4 => extK 0 v4 fun v5 => extK 1 v4 fun v6 => K v6 h

/-! ### 101 (*proctor/class.Table).up -/
noncomputable def s101 (call : CallFn) (n : Nat) (x0 x1 : AV) (h : AHeap) (K : Kont) : Bool :=
  boxK h x0 fun v1 h => boxK h x1 fun v2 h => optK (some (.fn (.func 144) [] [v1, v2])) fun v3 => K v3 h

/-! ### 102 slices.ContainsFunc[[]proctor/api.Class,proctor/api.Class] -/
noncomputable def p102_4001 (call : CallFn) (n : Nat) (x7 : AV) (h : AHeap) (K : Kont) : Bool :=
  geqK x7 (.int .i64 0) fun v2 => K v2 h
noncomputable def s102 (call : CallFn) (n : Nat) (x0 x1 : AV) (h : AHeap) (K : Kont) : Bool :=
  call (.func 145) [x0, x1] h <| pz K fun v1 h => p102_4001 call n v1 h K

/-! ### 103 (*proctor/class.Table).fits$1 -/
noncomputable def s103 (call : CallFn) (n : Nat) (x0 x1 : AV) (h : AHeap) (K : Kont) : Bool :=
  optPK (boxA h (none) 3 x0) fun v1 h => fadrK 0 v1 fun v2 => loadK h v2 fun v3 => fadrK 2 x1 fun v4 => loadK h v4 fun v5 => eqlK v3 v5 fun v6 => K v6 h

/-! ### 104 proctor/check.need -/
noncomputable def s104 (call : CallFn) (n : Nat) (x0 : AV) (h : AHeap) (K : Kont) : Bool :=
  notK x0 fun v1 => condK v1 (buildK [] [] fun v2 => optK (mkifA 158 v2) fun v3 => pncK K v3 h) (K (.tup []) h)

/-! ### 106 maps.Clone[proctor/check.scope,string,proctor/check.state] -/
noncomputable def p106_12001 (call : CallFn) (n : Nat) (x7 : AV) (h : AHeap) (K : Kont) : Bool :=
  optK (tasA 88 false .nilMap x7) fun v4 => K v4 h
noncomputable def s106 (call : CallFn) (n : Nat) (x0 : AV) (h : AHeap) (K : Kont) : Bool :=
  optK (eqV h false .map x0 .nilMap) fun v1 => condK v1 (K .nilMap h) (optK (mkifA 88 x0) fun v2 => call (.func 146) [v2] h <| pz K fun v3 h => p106_12001 call n v3 h K)

/-! ### 107 (*proctor/check.checker).cond -/
noncomputable def p107_34002 (call : CallFn) (n : Nat) (x2 x4 x71 x75 : AV) (h : AHeap) (K : Kont) : Bool :=
  gK x71 true (notK x75) fun v52 => pickK x71 v52 (.bool false) fun v53 => call (.func 104) [v53] h <| pz K fun v54 h => fadrK 1 x4 fun v55 => loadK h v55 fun v56 => call (.func 38) [x2, v56] h <| pz K fun v57 h => K (.tup []) h
noncomputable def p107_34001 (call : CallFn) (n : Nat) (x2 x4 x6 x70 : AV) (h : AHeap) (K : Kont) : Bool :=
  gK x70 true (optK (some x6)) fun v48 => gK x70 true (fadrK 1 x4) fun v49 => gK x70 true (loadK h v49) fun v50 => gP x70 true (fun k => call (.func 37) [v48, v50] h (pz K k)) h fun v51 h => p107_34002 call n x2 x4 x70 v51 h K
noncomputable def p107_78 (call : CallFn) (n : Nat) (B62 : F4) (x2 x124 x125 x126 : AV) (h : AHeap) (K : Kont) : Bool :=
  addK x126 (.int .i64 1) fun v109 => B62 x2 x124 x125 v109 h
noncomputable def b107_62 (call : CallFn) (n : Nat) (B62 : F4) (x2 x124 x125 x126 : AV) (h : AHeap) (K : Kont) : Bool :=
  lssK x126 x125 fun v97 => condK v97 (iadrK h 9 x124 x126 fun v98 => loadGK h 9 v98 fun v99 => allocK h [.str [], .int .i64 0, .str [], .int .i64 0, .bool false, .int .i64 0, .str [], .nilSlc, .nilSlc] 9 fun v100 h => storeNK h 9 v100 v99 fun h => fadrK 1 v100 fun v102 => fadrK 0 v102 fun v103 => loadK h v103 fun v104 => eqlK v104 (.int .i64 0) fun v105 => condK v105 (fadrK 0 v100 fun v106 => loadK h v106 fun v107 => call (.func 38) [x2, v107] h <| pz K fun v108 h => p107_78 call n B62 x2 x124 x125 x126 h K) (p107_78 call n B62 x2 x124 x125 x126 h K)) (K (.tup []) h)
noncomputable def l107_62 (call : CallFn) (n : Nat) : Nat → AV → AV → AV → AV → AHeap → Kont → Bool :=
  @Nat.rec (fun _ => AV → AV → AV → AV → AHeap → Kont → Bool) (fun _ _ _ _ _ _ => false) (fun _ ih x2 x124 x125 x126 h K => b107_62 call n (fun x2 x124 x125 x126 h => ih x2 x124 x125 x126 h K) x2 x124 x125 x126 h K)
noncomputable def p107_59 (call : CallFn) (n : Nat) (x2 x4 : AV) (h : AHeap) (K : Kont) : Bool :=
  fadrK 18 x4 fun v94 => loadK h v94 fun v95 => lenK v95 fun v96 => l107_62 call n n x2 v95 v96 (.int .i64 0) h K
noncomputable def b107_46 (call : CallFn) (n : Nat) (B46 : F5) (x2 x4 x112 x113 x114 : AV) (h : AHeap) (K : Kont) : Bool :=
  lssK x114 x113 fun v85 => condK v85 (iadrK h 9 x112 x114 fun v86 => loadGK h 9 v86 fun v87 => allocK h [.str [], .int .i64 0, .str [], .int .i64 0, .bool false, .int .i64 0, .str [], .nilSlc, .nilSlc] 9 fun v88 h => storeNK h 9 v88 v87 fun h => fadrK 1 v88 fun v90 => loadGK h 8 v90 fun v91 => call (.func 109) [x2, v91] h <| pz K fun v92 h => addK x114 (.int .i64 1) fun v93 => B46 x2 x4 x112 x113 v93 h) (p107_59 call n x2 x4 h K)
noncomputable def l107_46 (call : CallFn) (n : Nat) : Nat → AV → AV → AV → AV → AV → AHeap → Kont → Bool :=
  @Nat.rec (fun _ => AV → AV → AV → AV → AV → AHeap → Kont → Bool) (fun _ _ _ _ _ _ _ => false) (fun _ ih x2 x4 x112 x113 x114 h K => b107_46 call n (fun x2 x4 x112 x113 x114 h => ih x2 x4 x112 x113 x114 h K) x2 x4 x112 x113 x114 h K)
noncomputable def p107_85 (call : CallFn) (n : Nat) (x0 x2 x4 x13 x139 : AV) (h : AHeap) (K : Kont) : Bool :=
  condK x139 (fadrK 5 x4 fun v111 => loadK h v111 fun v112 => call (.func 48) [x0, v112, x2] h <| pz K fun v113 h => K (.tup []) h) (eqlK x13 (.int .i64 4) fun v114 => condK v114 (nilckK x0 fun v115 => fadrK 4 v115 fun v116 => loadK h v116 fun v117 => notK v117 fun v118 => call (.func 104) [v118] h <| pz K fun v119 h => fadrK 6 x4 fun v120 => loadK h v120 fun v121 => fadrK 5 x4 fun v122 => loadK h v122 fun v123 => call (.func 48) [x0, v123, x2] h <| pz K fun v124 h => loadK h v120 <| sameK v121 <| call (.func 48) [x0, v121, v124] h <| pz K fun v125 h => K (.tup []) h) (eqlK x13 (.int .i64 5) fun v126 => condK v126 (nilckK x0 fun v127 => fadrK 5 v127 fun v128 => loadK h v128 fun v129 => eqlK v129 (.int .i64 0) fun v130 => call (.func 104) [v130] h <| pz K fun v131 h => loadGK h 19 x4 fun v132 => call (.func 149) [x0, v132, x2] h <| pz K fun v133 h => K (.tup []) h) (K (.tup []) h)))
set_option maxRecDepth 100000 in
noncomputable def s107 (call : CallFn) (n : Nat) (x0 x1 x2 : AV) (h : AHeap) (K : Kont) : Bool :=
  optPK (boxA h (none) 19 x1) fun v1 h => fadrK 0 v1 fun v2 => loadK h v2 fun v3 => eqlK v3 (.int .i64 1) fun v4 => condK v4 (loadGK h 19 v1 fun v5 => call (.func 147) [x0, v5, x2] h <| pz K fun v6 h => K (.tup []) h) (eqlK v3 (.int .i64 6) fun v7 => condK v7 (fadrK 8 v1 fun v8 => loadGK h 8 v8 fun v9 => call (.func 109) [x2, v9] h <| pz K fun v10 h => fadrK 1 v1 fun v11 => loadK h v11 fun v12 => call (.func 38) [x2, v12] h <| pz K fun v13 h => K (.tup []) h) (eqlK v3 (.int .i64 8) fun v14 => condK v14 (fadrK 8 v1 fun v15 => loadGK h 8 v15 fun v16 => call (.func 109) [x2, v16] h <| pz K fun v17 h => K (.tup []) h) (eqlK v3 (.int .i64 7) fun v18 => condK v18 (nilckK x0 fun v19 => fadrK 4 v19 fun v20 => loadK h v20 fun v21 => notK v21 fun v22 => call (.func 104) [v22] h <| pz K fun v23 h => nilckK x0 fun v24 => fadrK 5 v24 fun v25 => loadK h v25 fun v26 => addK v26 (.int .i64 1) fun v27 => nilckK x0 fun v28 => fadrK 5 v28 fun v29 => storeK h v29 v27 fun h => fadrK 5 v1 fun v31 => loadK h v31 fun v32 => call (.func 48) [x0, v32, x2] h <| pz K fun v33 h => nilckK x0 fun v34 => fadrK 5 v34 fun v35 => loadK h v35 fun v36 => subK v36 (.int .i64 1) fun v37 => nilckK x0 fun v38 => fadrK 5 v38 fun v39 => storeK h v39 v37 fun h => fadrK 8 v1 fun v41 => loadGK h 8 v41 fun v42 => call (.func 109) [v33, v42] h <| pz K fun v43 h => optPK (bsliceV h 5 1 [.str []] [(0, (.str [99, 111, 117, 110, 116])), (1, (.str [115, 117, 109])), (2, (.str [109, 105, 110])), (3, (.str [109, 97, 120])), (4, (.str [108, 105, 115, 116]))]) fun v44 h => fadrK 16 v1 fun v45 => loadK h v45 fun v46 => call (.func 110) [v44, v46] h <| pz K fun v47 h => p107_34001 call n x2 v1 v33 v47 h K) (eqlK v3 (.int .i64 9) fun v58 => condK v58 (nilckK x0 fun v59 => fadrK 0 v59 fun v60 => fadrK 2 v60 fun v61 => loadK h v61 fun v62 => optK (some (.fn (.func 148) [] [v1])) fun v63 => call (.func 58) [v62, v63] h <| pz K fun v64 h => geqK v64 (.int .i64 0) fun v65 => gK v65 true (optK (some x0)) fun v66 => gK v65 true (nilckK v66) fun v67 => gK v65 true (fadrK 0 v67) fun v68 => gK v65 true (fadrK 2 v68) fun v69 => gK v65 true (loadK h v69) fun v70 => gK v65 true (optK (some v64)) fun v71 => gK v65 true (iadrK h 3 v70 v71) fun v72 => gK v65 true (fadrK 1 v72) fun v73 => gK v65 true (loadK h v73) fun v74 => gK v65 true (lenK v74) fun v75 => gK v65 true (fadrK 18 v1) fun v76 => gK v65 true (loadK h v76) fun v77 => gK v65 true (lenK v77) fun v78 => gK v65 true (eqlK v75 v78) fun v79 => pickK v65 v79 (.bool false) fun v80 => call (.func 104) [v80] h <| pz K fun v81 h => fadrK 18 v1 fun v82 => loadK h v82 fun v83 => lenK v83 fun v84 => l107_46 call n n x2 v1 v83 v84 (.int .i64 0) h K) (eqlK v3 (.int .i64 2) fun v110 => condK v110 (p107_85 call n x0 x2 v1 v3 v110 h K) (eqlK v3 (.int .i64 3) fun v134 => p107_85 call n x0 x2 v1 v3 v134 h K))))))

/-! ### 108 (*proctor/check.checker).set -/
noncomputable def p108_30 (call : CallFn) (n : Nat) (B7 : F7) (x0 x2 x4 x6 x8 x12 x13 x14 : AV) (h : AHeap) (K : Kont) : Bool :=
  fadrK 1 x8 fun v34 => loadGK h 8 v34 fun v35 => call (.func 109) [x2, v35] h <| pz K fun v36 h => addK x14 (.int .i64 1) fun v37 => B7 x0 x2 x4 x6 x12 x13 v37 h
noncomputable def p108_20001 (call : CallFn) (n : Nat) (B7 : F7) (x0 x2 x4 x6 x8 x12 x13 x14 x21 : AV) (h : AHeap) (K : Kont) : Bool :=
  notK x21 fun v13 => call (.func 104) [v13] h <| pz K fun v14 h => fadrK 0 x8 fun v15 => loadK h v15 fun v16 => optPK (bsliceV h 1 1 [.str []] [(0, v16)]) fun v17 h => appK h 1 16 x6 v17 fun v18 h => fadrK 0 x4 fun v19 => loadK h v19 fun v20 => neqK v20 (.int .i64 3) fun v21 => condK v21 (nilckK x0 fun v22 => fadrK 3 v22 fun v23 => loadK h v23 fun v24 => fadrK 1 x4 fun v25 => loadK h v25 fun v26 => fadrK 0 x8 fun v27 => loadK h v27 fun v28 => call (.func 150) [v24, v26, v28] h <| pz K fun v29 h => extK 0 v29 fun v30 => extK 1 v29 fun v31 => eqlK v31 (.int .i64 0) fun v32 => call (.func 104) [v32] h <| pz K fun v33 h => p108_30 call n B7 x0 x2 x4 v18 x8 x12 x13 x14 h K) (p108_30 call n B7 x0 x2 x4 v18 x8 x12 x13 x14 h K)
noncomputable def b108_7 (call : CallFn) (n : Nat) (B7 : F7) (x0 x2 x4 x6 x12 x13 x14 : AV) (h : AHeap) (K : Kont) : Bool :=
  lssK x14 x13 fun v5 => condK v5 (iadrK h 9 x12 x14 fun v6 => loadGK h 9 v6 fun v7 => allocK h [.str [], .int .i64 0, .str [], .int .i64 0, .bool false, .int .i64 0, .str [], .nilSlc, .nilSlc] 9 fun v8 h => storeNK h 9 v8 v7 fun h => fadrK 0 v8 fun v10 => loadK h v10 fun v11 => call (.func 110) [x6, v11] h <| pz K fun v12 h => p108_20001 call n B7 x0 x2 x4 x6 v8 x12 x13 x14 v12 h K) (K (.tup []) h)
noncomputable def l108_7 (call : CallFn) (n : Nat) : Nat → AV → AV → AV → AV → AV → AV → AV → AHeap → Kont → Bool :=
  @Nat.rec (fun _ => AV → AV → AV → AV → AV → AV → AV → AHeap → Kont → Bool) (fun _ _ _ _ _ _ _ _ _ => false) (fun _ ih x0 x2 x4 x6 x12 x13 x14 h K => b108_7 call n (fun x0 x2 x4 x6 x12 x13 x14 h => ih x0 x2 x4 x6 x12 x13 x14 h K) x0 x2 x4 x6 x12 x13 x14 h K)
noncomputable def s108 (call : CallFn) (n : Nat) (x0 x1 x2 : AV) (h : AHeap) (K : Kont) : Bool :=
  optPK (boxA h (none) 12 x1) fun v1 h => fadrK 2 v1 fun v2 => loadK h v2 fun v3 => lenK v3 fun v4 => l108_7 call n n x0 x2 v1 .nilSlc v3 v4 (.int .i64 0) h K

/-! ### 109 (proctor/check.scope).expr -/
noncomputable def s109 (call : CallFn) (n : Nat) (x0 x1 : AV) (h : AHeap) (K : Kont) : Bool :=
  boxK h x0 fun v1 h => optPK (boxA h (none) 8 x1) fun v2 h => loadGK h 8 v2 fun v3 => optK (some (.fn (.func 152) [] [v1])) fun v4 => call (.func 151) [v3, v4] h <| pz K fun v5 h => K (.tup []) h

/-! ### 110 slices.Contains[[]string,string] -/
noncomputable def p110_4001 (call : CallFn) (n : Nat) (x7 : AV) (h : AHeap) (K : Kont) : Bool :=
  geqK x7 (.int .i64 0) fun v2 => K v2 h
noncomputable def s110 (call : CallFn) (n : Nat) (x0 x1 : AV) (h : AHeap) (K : Kont) : Bool :=
  call (.func 153) [x0, x1] h <| pz K fun v1 h => p110_4001 call n v1 h K

/-! ### 111 slices.ContainsFunc[[][]proctor/api.Cond,[]proctor/api.Cond] -/
noncomputable def p111_4001 (call : CallFn) (n : Nat) (x7 : AV) (h : AHeap) (K : Kont) : Bool :=
  geqK x7 (.int .i64 0) fun v2 => K v2 h
noncomputable def s111 (call : CallFn) (n : Nat) (x0 x1 : AV) (h : AHeap) (K : Kont) : Bool :=
  call (.func 154) [x0, x1] h <| pz K fun v1 h => p111_4001 call n v1 h K

/-! ### 112 proctor/check.gives$1 -/
noncomputable def p112_4001 (call : CallFn) (n : Nat) (x6 : AV) (h : AHeap) (K : Kont) : Bool :=
  notK x6 fun v3 => K v3 h
noncomputable def s112 (call : CallFn) (n : Nat) (x0 x1 : AV) (h : AHeap) (K : Kont) : Bool :=
  loadK h x1 fun v1 => call (.func 62) [x0, v1] h <| pz K fun v2 h => p112_4001 call n v2 h K

/-! ### 113 proctor/check.has -/
noncomputable def p113_10003 (call : CallFn) (n : Nat) (x41 x45 : AV) (h : AHeap) (K : Kont) : Bool :=
  pickK x41 (.bool true) x45 fun v39 => K v39 h
noncomputable def p113_10002 (call : CallFn) (n : Nat) (x2 x6 x35 x39 : AV) (h : AHeap) (K : Kont) : Bool :=
  pickK x35 (.bool true) x39 fun v34 => gK v34 false (fadrK 7 x2) fun v35 => gK v34 false (loadK h v35) fun v36 => gK v34 false (optK (some x6)) fun v37 => gP v34 false (fun k => call (.func 111) [v36, v37] h (pz K k)) h fun v38 h => p113_10003 call n v34 v38 h K
noncomputable def p113_10001 (call : CallFn) (n : Nat) (x2 x6 x29 x33 : AV) (h : AHeap) (K : Kont) : Bool :=
  pickK x29 (.bool true) x33 fun v29 => gK v29 false (optK (some x6)) fun v30 => gK v29 false (fadrK 6 x2) fun v31 => gK v29 false (loadK h v31) fun v32 => gP v29 false (fun k => callV call v30 [v32] h (pz K k)) h fun v33 h => p113_10002 call n x2 x6 v29 v33 h K
noncomputable def p113_4002 (call : CallFn) (n : Nat) (x2 x3 x17 x21 : AV) (h : AHeap) (K : Kont) : Bool :=
  pickK x17 (.bool true) x21 fun v16 => allocK h [.bool false] 1 fun v17 h => storeK h v17 v16 fun h => loadGK h 19 x2 fun v19 => optPK (bsliceV h 1 19 [.int .i64 0, .str [], .str [], .nilSlc, .nilSlc, .nilSlc, .nilSlc, .nilSlc, .int .i64 0, .str [], .int .i64 0, .bool false, .int .i64 0, .str [], .nilSlc, .nilSlc, .str [], .str [], .nilSlc] [(0, v19)]) fun v20 h => optK (some (.fn (.func 160) [] [v17, x3])) fun v21 => call (.func 159) [v20, (.int .i64 1), v21] h <| pz K fun v22 h => optK (some (.fn (.func 161) [] [x3])) fun v23 => loadK h v17 fun v24 => gK v24 false (optK (some v23)) fun v25 => gK v24 false (fadrK 5 x2) fun v26 => gK v24 false (loadK h v26) fun v27 => gP v24 false (fun k => callV call v25 [v27] h (pz K k)) h fun v28 h => p113_10001 call n x2 v23 v24 v28 h K
noncomputable def p113_4001 (call : CallFn) (n : Nat) (x2 x3 x11 x15 : AV) (h : AHeap) (K : Kont) : Bool :=
  pickK x11 (.bool true) x15 fun v11 => gK v11 false (fadrK 18 x2) fun v12 => gK v11 false (loadK h v12) fun v13 => gK v11 false (optK (some (.fn (.func 158) [] [x3]))) fun v14 => gP v11 false (fun k => call (.func 157) [v13, v14] h (pz K k)) h fun v15 h => p113_4002 call n x2 x3 v11 v15 h K
noncomputable def s113 (call : CallFn) (n : Nat) (x0 x1 : AV) (h : AHeap) (K : Kont) : Bool :=
  optPK (boxA h (none) 19 x0) fun v1 h => boxK h x1 fun v2 h => fadrK 1 v1 fun v3 => loadK h v3 fun v4 => loadK h v2 fun v5 => eqlK v4 v5 fun v6 => gK v6 false (fadrK 3 v1) fun v7 => gK v6 false (loadK h v7) fun v8 => gK v6 false (optK (some (.fn (.func 156) [] [v2]))) fun v9 => gP v6 false (fun k => call (.func 155) [v8, v9] h (pz K k)) h fun v10 h => p113_4001 call n v1 v2 v6 v10 h K

/-! ### 114 slices.IndexFunc[[]proctor/check.step,proctor/check.step] -/
noncomputable def b114_6 (call : CallFn) (n : Nat) (B6 : F4) (x0 x1 x7 x8 : AV) (h : AHeap) (K : Kont) : Bool :=
  lssK x8 x7 fun v2 => condK v2 (iadrK h 3 x0 x8 fun v3 => loadGK h 3 v3 fun v4 => callV call x1 [v4] h <| pz K fun v5 h => condK v5 (K x8 h) (addK x8 (.int .i64 1) fun v6 => B6 x0 x1 x7 v6 h)) (K (.int .i64 (-1)) h)
noncomputable def l114_6 (call : CallFn) (n : Nat) : Nat → AV → AV → AV → AV → AHeap → Kont → Bool :=
  @Nat.rec (fun _ => AV → AV → AV → AV → AHeap → Kont → Bool) (fun _ _ _ _ _ _ => false) (fun _ ih x0 x1 x7 x8 h K => b114_6 call n (fun x0 x1 x7 x8 h => ih x0 x1 x7 x8 h K) x0 x1 x7 x8 h K)
noncomputable def s114 (call : CallFn) (n : Nat) (x0 x1 : AV) (h : AHeap) (K : Kont) : Bool :=
  lenK x0 fun v1 => l114_6 call n n x0 x1 v1 (.int .i64 0) h K

/-! ### 115 proctor/check.choices -/
noncomputable def p115_11002 (call : CallFn) (n : Nat) (x18 : AV) (h : AHeap) (K : Kont) : Bool :=
  optPK (bsliceV h 1 1 [.int .i64 0] [(0, x18)]) fun v9 h => K v9 h
noncomputable def p115_11001 (call : CallFn) (n : Nat) (x17 : AV) (h : AHeap) (K : Kont) : Bool :=
  call (.func 164) [x17] h <| pz K fun v8 h => p115_11002 call n v8 h K
noncomputable def p115_23001 (call : CallFn) (n : Nat) (x29 : AV) (h : AHeap) (K : Kont) : Bool :=
  addK (.int .i64 1) x29 fun v17 => optPK (bsliceV h 1 1 [.int .i64 0] [(0, v17)]) fun v18 h => K v18 h
noncomputable def p115_27001 (call : CallFn) (n : Nat) (x33 : AV) (h : AHeap) (K : Kont) : Bool :=
  optPK (bsliceV h 1 1 [.int .i64 0] [(0, x33)]) fun v20 h => K v20 h
noncomputable def p115_50 (call : CallFn) (n : Nat) (x4 : AV) (h : AHeap) (K : Kont) : Bool :=
  optPK (bsliceV h 1 1 [.int .i64 0] [(0, x4)]) fun v37 h => K v37 h
noncomputable def b115_37 (call : CallFn) (n : Nat) (B37 : F5) (x4 x5 x43 x44 x45 : AV) (h : AHeap) (K : Kont) : Bool :=
  lssK x45 x44 fun v30 => condK v30 (iadrK h 1 x43 x45 fun v31 => loadK h v31 fun v32 => addK (.int .i64 1) v32 fun v33 => addK v33 x5 fun v34 => addK x4 v34 fun v35 => addK x45 (.int .i64 1) fun v36 => B37 v35 x5 x43 x44 v36 h) (p115_50 call n x4 h K)
noncomputable def l115_37 (call : CallFn) (n : Nat) : Nat → AV → AV → AV → AV → AV → AHeap → Kont → Bool :=
  @Nat.rec (fun _ => AV → AV → AV → AV → AV → AHeap → Kont → Bool) (fun _ _ _ _ _ _ _ => false) (fun _ ih x4 x5 x43 x44 x45 h K => b115_37 call n (fun x4 x5 x43 x44 x45 h => ih x4 x5 x43 x44 x45 h K) x4 x5 x43 x44 x45 h K)
noncomputable def p115_36001 (call : CallFn) (n : Nat) (x4 x5 x43 : AV) (h : AHeap) (K : Kont) : Bool :=
  lenK x43 fun v29 => l115_37 call n n x4 x5 x43 v29 (.int .i64 0) h K
noncomputable def p115_33001 (call : CallFn) (n : Nat) (x1 x39 : AV) (h : AHeap) (K : Kont) : Bool :=
  call (.func 164) [x39] h <| pz K fun v25 h => fadrK 5 x1 fun v26 => loadK h v26 fun v27 => call (.func 68) [v27] h <| pz K fun v28 h => p115_36001 call n (.int .i64 0) v25 v28 h K
noncomputable def p115_58002 (call : CallFn) (n : Nat) (x63 : AV) (h : AHeap) (K : Kont) : Bool :=
  optPK (bsliceV h 1 1 [.int .i64 0] [(0, x63)]) fun v43 h => K v43 h
noncomputable def p115_58001 (call : CallFn) (n : Nat) (x62 : AV) (h : AHeap) (K : Kont) : Bool :=
  call (.func 164) [x62] h <| pz K fun v42 h => p115_58002 call n v42 h K
noncomputable def p115_80001 (call : CallFn) (n : Nat) (B68 : F4) (x68 x69 x70 x74 x76 : AV) (h : AHeap) (K : Kont) : Bool :=
  appK h 1 8 x74 x76 fun v52 h => addK x70 (.int .i64 1) fun v53 => B68 v52 x68 x69 v53 h
noncomputable def p115_81 (call : CallFn) (n : Nat) (x8 : AV) (h : AHeap) (K : Kont) : Bool :=
  lenK x8 fun v54 => leqK v54 (.int .i64 512) fun v55 => call (.func 104) [v55] h <| pz K fun v56 h => K x8 h
noncomputable def b115_68 (call : CallFn) (n : Nat) (B68 : F4) (x8 x68 x69 x70 : AV) (h : AHeap) (K : Kont) : Bool :=
  lssK x70 x69 fun v48 => condK v48 (iadrK h 1 x68 x70 fun v49 => loadK h v49 fun v50 => call (.func 68) [v50] h <| pz K fun v51 h => p115_80001 call n B68 x68 x69 x70 x8 v51 h K) (p115_81 call n x8 h K)
noncomputable def l115_68 (call : CallFn) (n : Nat) : Nat → AV → AV → AV → AV → AHeap → Kont → Bool :=
  @Nat.rec (fun _ => AV → AV → AV → AV → AHeap → Kont → Bool) (fun _ _ _ _ _ _ => false) (fun _ ih x8 x68 x69 x70 h K => b115_68 call n (fun x8 x68 x69 x70 h => ih x8 x68 x69 x70 h K) x8 x68 x69 x70 h K)
noncomputable def p115_87 (call : CallFn) (n : Nat) (h : AHeap) (K : Kont) : Bool :=
  optPK (bsliceV h 1 1 [.int .i64 0] [(0, (.int .i64 1))]) fun v57 h => K v57 h
noncomputable def s115 (call : CallFn) (n : Nat) (x0 : AV) (h : AHeap) (K : Kont) : Bool :=
  optPK (boxA h (none) 19 x0) fun v1 h => fadrK 0 v1 fun v2 => loadK h v2 fun v3 => eqlK v3 (.int .i64 2) fun v4 => condK v4 (fadrK 5 v1 fun v5 => loadK h v5 fun v6 => call (.func 68) [v6] h <| pz K fun v7 h => p115_11001 call n v7 h K) (eqlK v3 (.int .i64 3) fun v10 => condK v10 (fadrK 5 v1 fun v11 => loadK h v11 fun v12 => call (.func 68) [v12] h <| pz K fun v13 h => lenK v13 fun v14 => gtrK v14 (.int .i64 1) fun v15 => condK v15 (call (.func 164) [v13] h <| pz K fun v16 h => p115_23001 call n v16 h K) (call (.func 164) [v13] h <| pz K fun v19 h => p115_27001 call n v19 h K)) (eqlK v3 (.int .i64 4) fun v21 => condK v21 (fadrK 6 v1 fun v22 => loadK h v22 fun v23 => call (.func 68) [v23] h <| pz K fun v24 h => p115_33001 call n v1 v24 h K) (eqlK v3 (.int .i64 7) fun v38 => condK v38 (fadrK 5 v1 fun v39 => loadK h v39 fun v40 => call (.func 68) [v40] h <| pz K fun v41 h => p115_58001 call n v41 h K) (eqlK v3 (.int .i64 5) fun v44 => condK v44 (fadrK 7 v1 fun v45 => loadK h v45 fun v46 => lenK v46 fun v47 => l115_68 call n n .nilSlc v46 v47 (.int .i64 0) h K) (p115_87 call n  h K)))))

/-! ### 116 proctor/check.binds$1 -/
noncomputable def p116_2001 (call : CallFn) (n : Nat) (x0 x1 x5 x8 : AV) (h : AHeap) (K : Kont) : Bool :=
  gK x5 true (notK x8) fun v5 => pickK x5 v5 (.bool false) fun v6 => condK v6 (loadK h x1 fun v7 => optPK (bsliceV h 1 1 [.str []] [(0, x0)]) fun v8 h => appK h 1 16 v7 v8 fun v9 h => storeK h x1 v9 fun h => K (.tup []) h) (K (.tup []) h)
noncomputable def s116 (call : CallFn) (n : Nat) (x0 x1 : AV) (h : AHeap) (K : Kont) : Bool :=
  neqK x0 (.str []) fun v1 => gK v1 true (loadK h x1) fun v2 => gK v1 true (optK (some x0)) fun v3 => gP v1 true (fun k => call (.func 110) [v2, v3] h (pz K k)) h fun v4 h => p116_2001 call n x0 x1 v1 v4 h K

/-! ### 117 proctor/check.common -/
noncomputable def p117_27 (call : CallFn) (n : Nat) (B8 : F5) (x1 x5 x8 x10 x11 x12 : AV) (h : AHeap) (K : Kont) : Bool :=
  optK (some (.fn (.func 166) [] [x8])) fun v13 => call (.func 165) [x5, v13] h <| pz K fun v14 h => addK x12 (.int .i64 1) fun v15 => B8 x1 v14 x10 x11 v15 h
noncomputable def p117_21001 (call : CallFn) (n : Nat) (B8 : F5) (x1 x5 x6 x10 x11 x12 x19 : AV) (h : AHeap) (K : Kont) : Bool :=
  allocK h [.nilSlc] 1 fun v9 h => storeK h v9 x19 fun h => eqlK x6 (.int .i64 0) fun v11 => condK v11 (loadK h v9 fun v12 => p117_27 call n B8 x1 v12 v9 x10 x11 x12 h K) (p117_27 call n B8 x1 x5 v9 x10 x11 x12 h K)
noncomputable def b117_8 (call : CallFn) (n : Nat) (B8 : F5) (x1 x5 x10 x11 x12 : AV) (h : AHeap) (K : Kont) : Bool :=
  lssK x12 x11 fun v5 => condK v5 (iadrK h 1 x10 x12 fun v6 => loadK h v6 fun v7 => call (.func 70) [v7, .nilSlc, x1] h <| pz K fun v8 h => p117_21001 call n B8 x1 x5 x12 x10 x11 x12 v8 h K) (K x5 h)
noncomputable def l117_8 (call : CallFn) (n : Nat) : Nat → AV → AV → AV → AV → AV → AHeap → Kont → Bool :=
  @Nat.rec (fun _ => AV → AV → AV → AV → AV → AHeap → Kont → Bool) (fun _ _ _ _ _ _ _ => false) (fun _ ih x1 x5 x10 x11 x12 h K => b117_8 call n (fun x1 x5 x10 x11 x12 h => ih x1 x5 x10 x11 x12 h K) x1 x5 x10 x11 x12 h K)
noncomputable def s117 (call : CallFn) (n : Nat) (x0 x1 : AV) (h : AHeap) (K : Kont) : Bool :=
  optPK (boxA h (none) 19 x0) fun v1 h => fadrK 7 v1 fun v2 => loadK h v2 fun v3 => lenK v3 fun v4 => l117_8 call n n x1 .nilSlc v3 v4 (.int .i64 0) h K

/-! ### 118 (*proctor/lex.lexer).all -/
noncomputable def s118 (call : CallFn) (n : Nat) (x0 : AV) (h : AHeap) (K : Kont) : Bool :=
  boxK h x0 fun v1 h => optK (some (.fn (.func 167) [] [v1])) fun v2 => K v2 h

/-! ### 120 (*proctor/parse.parser).place -/
noncomputable def s120 (call : CallFn) (n : Nat) (x0 : AV) (h : AHeap) (K : Kont) : Bool :=
  nilckK x0 fun v1 => fadrK 1 v1 fun v2 => loadK h v2 fun v3 => nilckK x0 fun v4 => fadrK 0 v4 fun v5 => loadK h v5 fun v6 => lenK v6 fun v7 => lssK v3 v7 fun v8 => condK v8 (nilckK x0 fun v9 => fadrK 0 v9 fun v10 => loadK h v10 fun v11 => nilckK x0 fun v12 => fadrK 1 v12 fun v13 => loadK h v13 fun v14 => iadrK h 4 v11 v14 fun v15 => fadrK 2 v15 fun v16 => loadK h v16 fun v17 => K v17 h) (nilckK x0 fun v18 => fadrK 2 v18 fun v19 => loadK h v19 fun v20 => K v20 h)

/-! ### 121 (*proctor/parse.parser).ahead -/
noncomputable def s121 (call : CallFn) (n : Nat) (x0 x1 : AV) (h : AHeap) (K : Kont) : Bool :=
  allocK h [.int .i64 0, .str [], .int .i64 0, .int .i64 0] 4 fun v1 h => nilckK x0 fun v2 => fadrK 1 v2 fun v3 => loadK h v3 fun v4 => addK v4 x1 fun v5 => nilckK x0 fun v6 => fadrK 0 v6 fun v7 => loadK h v7 fun v8 => lenK v8 fun v9 => lssK v5 v9 fun v10 => condK v10 (nilckK x0 fun v11 => fadrK 0 v11 fun v12 => loadK h v12 fun v13 => nilckK x0 fun v14 => fadrK 1 v14 fun v15 => loadK h v15 fun v16 => addK v16 x1 fun v17 => iadrK h 4 v13 v17 fun v18 => loadGK h 4 v18 fun v19 => storeNK h 4 v1 v19 fun h => optR (resV h [(v1, some (true, 4))]) h K) (buildK [.int .i64 0, .str [], .int .i64 0, .int .i64 0] [(0, 1, (.int .i64 (-1)))] fun v21 => storeNK h 4 v1 v21 fun h => optR (resV h [(v1, some (true, 4))]) h K)

/-! ### 122 proctor/lex.Key -/
noncomputable def p122_156 (call : CallFn) (n : Nat) (x4 : AV) (h : AHeap) (K : Kont) : Bool :=
  condK x4 (K (.bool true) h) (K (.bool false) h)
set_option maxRecDepth 100000 in
noncomputable def s122 (call : CallFn) (n : Nat) (x0 : AV) (h : AHeap) (K : Kont) : Bool :=
  eqlK x0 (.str [99, 108, 97, 115, 115]) fun v1 => condK v1 (p122_156 call n v1 h K) (eqlK x0 (.str [101, 120, 116, 101, 110, 100, 115]) fun v2 => condK v2 (p122_156 call n v2 h K) (eqlK x0 (.str [114, 117, 108, 101]) fun v3 => condK v3 (p122_156 call n v3 h K) (eqlK x0 (.str [113, 117, 101, 114, 121]) fun v4 => condK v4 (p122_156 call n v4 h K) (eqlK x0 (.str [119, 104, 101, 110]) fun v5 => condK v5 (p122_156 call n v5 h K) (eqlK x0 (.str [116, 104, 101, 110]) fun v6 => condK v6 (p122_156 call n v6 h K) (eqlK x0 (.str [101, 110, 100]) fun v7 => condK v7 (p122_156 call n v7 h K) (eqlK x0 (.str [115, 97, 108, 105, 101, 110, 99, 101]) fun v8 => condK v8 (p122_156 call n v8 h K) (eqlK x0 (.str [103, 114, 111, 117, 112]) fun v9 => condK v9 (p122_156 call n v9 h K) (eqlK x0 (.str [102, 108, 111, 119]) fun v10 => condK v10 (p122_156 call n v10 h K) (eqlK x0 (.str [110, 111, 108, 111, 111, 112]) fun v11 => condK v11 (p122_156 call n v11 h K) (eqlK x0 (.str [108, 111, 99, 107]) fun v12 => condK v12 (p122_156 call n v12 h K) (eqlK x0 (.str [110, 111, 116]) fun v13 => condK v13 (p122_156 call n v13 h K) (eqlK x0 (.str [101, 120, 105, 115, 116, 115]) fun v14 => condK v14 (p122_156 call n v14 h K) (eqlK x0 (.str [102, 111, 114, 97, 108, 108]) fun v15 => condK v15 (p122_156 call n v15 h K) (eqlK x0 (.str [111, 114]) fun v16 => condK v16 (p122_156 call n v16 h K) (eqlK x0 (.str [102, 114, 111, 109]) fun v17 => condK v17 (p122_156 call n v17 h K) (eqlK x0 (.str [101, 118, 97, 108]) fun v18 => condK v18 (p122_156 call n v18 h K) (eqlK x0 (.str [97, 99, 99]) fun v19 => condK v19 (p122_156 call n v19 h K) (eqlK x0 (.str [111, 118, 101, 114]) fun v20 => condK v20 (p122_156 call n v20 h K) (eqlK x0 (.str [105, 110, 115, 101, 114, 116]) fun v21 => condK v21 (p122_156 call n v21 h K) (eqlK x0 (.str [108, 111, 103, 105, 99, 97, 108]) fun v22 => condK v22 (p122_156 call n v22 h K) (eqlK x0 (.str [117, 112, 100, 97, 116, 101]) fun v23 => condK v23 (p122_156 call n v23 h K) (eqlK x0 (.str [100, 101, 108, 101, 116, 101]) fun v24 => condK v24 (p122_156 call n v24 h K) (eqlK x0 (.str [102, 111, 99, 117, 115]) fun v25 => condK v25 (p122_156 call n v25 h K) (eqlK x0 (.str [112, 114, 105, 110, 116]) fun v26 => condK v26 (p122_156 call n v26 h K) (eqlK x0 (.str [104, 97, 108, 116]) fun v27 => condK v27 (p122_156 call n v27 h K) (eqlK x0 (.str [116, 114, 117, 101]) fun v28 => condK v28 (p122_156 call n v28 h K) (eqlK x0 (.str [102, 97, 108, 115, 101]) fun v29 => condK v29 (p122_156 call n v29 h K) (eqlK x0 (.str [110, 117, 108, 108]) fun v30 => condK v30 (p122_156 call n v30 h K) (eqlK x0 (.str [115, 105, 122, 101]) fun v31 => condK v31 (p122_156 call n v31 h K) (eqlK x0 (.str [104, 97, 115]) fun v32 => condK v32 (p122_156 call n v32 h K) (eqlK x0 (.str [105, 110, 116]) fun v33 => condK v33 (p122_156 call n v33 h K) (eqlK x0 (.str [98, 111, 111, 108]) fun v34 => condK v34 (p122_156 call n v34 h K) (eqlK x0 (.str [116, 101, 120, 116]) fun v35 => condK v35 (p122_156 call n v35 h K) (eqlK x0 (.str [108, 105, 115, 116]) fun v36 => condK v36 (p122_156 call n v36 h K) (eqlK x0 (.str [97, 110, 121]) fun v37 => condK v37 (p122_156 call n v37 h K) (eqlK x0 (.str [114, 101, 102]) fun v38 => p122_156 call n v38 h K)))))))))))))))))))))))))))))))))))))

/-! ### 123 (*proctor/parse.parser).text -/
noncomputable def s123 (call : CallFn) (n : Nat) (x0 : AV) (h : AHeap) (K : Kont) : Bool :=
  nilckK x0 fun v1 => fadrK 1 v1 fun v2 => loadK h v2 fun v3 => addK v3 (.int .i64 1) fun v4 => nilckK x0 fun v5 => fadrK 1 v5 fun v6 => storeK h v6 v4 fun h => nilckK x0 fun v8 => fadrK 0 v8 fun v9 => loadK h v9 fun v10 => nilckK x0 fun v11 => fadrK 1 v11 fun v12 => loadK h v12 fun v13 => subK v13 (.int .i64 1) fun v14 => iadrK h 4 v10 v14 fun v15 => fadrK 1 v15 fun v16 => loadK h v16 fun v17 => K v17 h

/-! ### 124 (*proctor/parse.parser).enter -/
noncomputable def s124 (call : CallFn) (n : Nat) (x0 x1 : AV) (h : AHeap) (K : Kont) : Bool :=
  nilckK x0 fun v1 => fadrK 3 v1 fun v2 => loadK h v2 fun v3 => addK v3 (.int .i64 1) fun v4 => nilckK x0 fun v5 => fadrK 3 v5 fun v6 => storeK h v6 v4 fun h => nilckK x0 fun v8 => fadrK 3 v8 fun v9 => loadK h v9 fun v10 => gtrK v10 (.int .i64 30) fun v11 => condK v11 (call (.func 119) [x1] h <| pz K fun v12 h => K (.tup []) h) (K (.tup []) h)

/-! ### 125 (*proctor/parse.parser).kind -/
noncomputable def p125_4001 (call : CallFn) (n : Nat) (x1 x6 : AV) (h : AHeap) (K : Kont) : Bool :=
  fldK 0 x6 fun v2 => eqlK v2 x1 fun v3 => K v3 h
noncomputable def s125 (call : CallFn) (n : Nat) (x0 x1 : AV) (h : AHeap) (K : Kont) : Bool :=
  call (.func 121) [x0, (.int .i64 0)] h <| pz K fun v1 h => p125_4001 call n x1 v1 h K

/-! ### 127 (*proctor/parse.parser).cond -/
noncomputable def p127_9001 (call : CallFn) (n : Nat) (x2 x10 : AV) (h : AHeap) (K : Kont) : Bool :=
  buildK [.int .i64 0, .str [], .str [], .nilSlc, .nilSlc, .nilSlc, .nilSlc, .nilSlc, .int .i64 0, .str [], .int .i64 0, .bool false, .int .i64 0, .str [], .nilSlc, .nilSlc, .str [], .str [], .nilSlc] [(0, 1, (.int .i64 2)), (5, 1, x10)] fun v4 => storeNK h 19 x2 v4 fun h => optR (resV h [(x2, some (true, 19))]) h K
noncomputable def p127_15001 (call : CallFn) (n : Nat) (x2 x16 : AV) (h : AHeap) (K : Kont) : Bool :=
  buildK [.int .i64 0, .str [], .str [], .nilSlc, .nilSlc, .nilSlc, .nilSlc, .nilSlc, .int .i64 0, .str [], .int .i64 0, .bool false, .int .i64 0, .str [], .nilSlc, .nilSlc, .str [], .str [], .nilSlc] [(0, 1, (.int .i64 3)), (5, 1, x16)] fun v8 => storeNK h 19 x2 v8 fun h => optR (resV h [(x2, some (true, 19))]) h K
noncomputable def p127_27001 (call : CallFn) (n : Nat) (x0 x2 x3 x32 : AV) (h : AHeap) (K : Kont) : Bool :=
  fadrK 6 x3 fun v21 => storeK h v21 x32 fun h => call (.func 80) [x0, (.str [41])] h <| pz K fun v23 h => loadGK h 19 x3 fun v24 => storeNK h 19 x2 v24 fun h => optR (resV h [(x2, some (true, 19))]) h K
noncomputable def p127_23001 (call : CallFn) (n : Nat) (x0 x2 x25 : AV) (h : AHeap) (K : Kont) : Bool :=
  buildK [.int .i64 0, .str [], .str [], .nilSlc, .nilSlc, .nilSlc, .nilSlc, .nilSlc, .int .i64 0, .str [], .int .i64 0, .bool false, .int .i64 0, .str [], .nilSlc, .nilSlc, .str [], .str [], .nilSlc] [(0, 1, (.int .i64 4)), (5, 1, x25)] fun v14 => allocK h [.int .i64 0, .str [], .str [], .nilSlc, .nilSlc, .nilSlc, .nilSlc, .nilSlc, .int .i64 0, .str [], .int .i64 0, .bool false, .int .i64 0, .str [], .nilSlc, .nilSlc, .str [], .str [], .nilSlc] 19 fun v15 h => storeNK h 19 v15 v14 fun h => optPK (bsliceV h 1 1 [.str []] [(0, (.str [59]))]) fun v17 h => call (.func 26) [x0, v17] h <| pz K fun v18 h => optPK (bsliceV h 1 1 [.str []] [(0, (.str [41]))]) fun v19 h => call (.func 173) [x0, v19] h <| pz K fun v20 h => p127_27001 call n x0 x2 v15 v20 h K
noncomputable def p127_37001 (call : CallFn) (n : Nat) (x2 x41 : AV) (h : AHeap) (K : Kont) : Bool :=
  storeNK h 19 x2 x41 fun h => optR (resV h [(x2, some (true, 19))]) h K
noncomputable def p127_45001 (call : CallFn) (n : Nat) (x0 x2 x48 : AV) (h : AHeap) (K : Kont) : Bool :=
  buildK [.int .i64 0, .str [], .str [], .nilSlc, .nilSlc, .nilSlc, .nilSlc, .nilSlc, .int .i64 0, .str [], .int .i64 0, .bool false, .int .i64 0, .str [], .nilSlc, .nilSlc, .str [], .str [], .nilSlc] [(0, 1, (.int .i64 8)), (8, 8, x48)] fun v32 => allocK h [.int .i64 0, .str [], .str [], .nilSlc, .nilSlc, .nilSlc, .nilSlc, .nilSlc, .int .i64 0, .str [], .int .i64 0, .bool false, .int .i64 0, .str [], .nilSlc, .nilSlc, .str [], .str [], .nilSlc] 19 fun v33 h => storeNK h 19 v33 v32 fun h => call (.func 80) [x0, (.str [41])] h <| pz K fun v35 h => loadGK h 19 v33 fun v36 => storeNK h 19 x2 v36 fun h => optR (resV h [(x2, some (true, 19))]) h K
noncomputable def p127_55001 (call : CallFn) (n : Nat) (x2 x57 : AV) (h : AHeap) (K : Kont) : Bool :=
  storeNK h 19 x2 x57 fun h => optR (resV h [(x2, some (true, 19))]) h K
noncomputable def p127_61001 (call : CallFn) (n : Nat) (x2 x62 : AV) (h : AHeap) (K : Kont) : Bool :=
  storeNK h 19 x2 x62 fun h => optR (resV h [(x2, some (true, 19))]) h K
noncomputable def p127_71001 (call : CallFn) (n : Nat) (x2 x5 x78 : AV) (h : AHeap) (K : Kont) : Bool :=
  fadrK 8 x5 fun v56 => storeNK h 8 v56 x78 fun h => loadGK h 19 x5 fun v58 => storeNK h 19 x2 v58 fun h => optR (resV h [(x2, some (true, 19))]) h K
noncomputable def p127_67001 (call : CallFn) (n : Nat) (x0 x2 x72 : AV) (h : AHeap) (K : Kont) : Bool :=
  buildK [.int .i64 0, .str [], .str [], .nilSlc, .nilSlc, .nilSlc, .nilSlc, .nilSlc, .int .i64 0, .str [], .int .i64 0, .bool false, .int .i64 0, .str [], .nilSlc, .nilSlc, .str [], .str [], .nilSlc] [(0, 1, (.int .i64 6)), (1, 1, x72)] fun v50 => allocK h [.int .i64 0, .str [], .str [], .nilSlc, .nilSlc, .nilSlc, .nilSlc, .nilSlc, .int .i64 0, .str [], .int .i64 0, .bool false, .int .i64 0, .str [], .nilSlc, .nilSlc, .str [], .str [], .nilSlc] 19 fun v51 h => storeNK h 19 v51 v50 fun h => optPK (bsliceV h 1 1 [.str []] [(0, (.str [102, 114, 111, 109]))]) fun v53 h => call (.func 26) [x0, v53] h <| pz K fun v54 h => call (.func 129) [x0] h <| pz K fun v55 h => p127_71001 call n x2 v51 v55 h K
noncomputable def p127_77001 (call : CallFn) (n : Nat) (x2 x82 : AV) (h : AHeap) (K : Kont) : Bool :=
  storeNK h 19 x2 x82 fun h => optR (resV h [(x2, some (true, 19))]) h K
noncomputable def p127_64002 (call : CallFn) (n : Nat) (x0 x2 x66 x68 : AV) (h : AHeap) (K : Kont) : Bool :=
  gK x66 true (notK x68) fun v47 => pickK x66 v47 (.bool false) fun v48 => condK v48 (call (.func 87) [x0] h <| pz K fun v49 h => p127_67001 call n x0 x2 v49 h K) (call (.func 177) [x0] h <| pz K fun v60 h => p127_77001 call n x2 v60 h K)
noncomputable def p127_64001 (call : CallFn) (n : Nat) (x0 x2 x65 : AV) (h : AHeap) (K : Kont) : Bool :=
  gK x65 true (optK (some x0)) fun v45 => gP x65 true (fun k => call (.func 75) [v45, (.int .i64 1), (.str [58])] h (pz K k)) h fun v46 h => p127_64002 call n x0 x2 x65 v46 h K
set_option maxRecDepth 100000 in
noncomputable def s127 (call : CallFn) (n : Nat) (x0 : AV) (h : AHeap) (K : Kont) : Bool :=
  allocK h [.int .i64 0, .str [], .str [], .nilSlc, .nilSlc, .nilSlc, .nilSlc, .nilSlc, .int .i64 0, .str [], .int .i64 0, .bool false, .int .i64 0, .str [], .nilSlc, .nilSlc, .str [], .str [], .nilSlc] 19 fun v1 h => call (.func 23) [x0, (.str [110, 111, 116])] h <| pz K fun v2 h => condK v2 (call (.func 172) [x0] h <| pz K fun v3 h => p127_9001 call n v1 v3 h K) (call (.func 23) [x0, (.str [101, 120, 105, 115, 116, 115])] h <| pz K fun v6 h => condK v6 (call (.func 172) [x0] h <| pz K fun v7 h => p127_15001 call n v1 v7 h K) (call (.func 23) [x0, (.str [102, 111, 114, 97, 108, 108])] h <| pz K fun v10 h => condK v10 (call (.func 77) [x0, (.str [40])] h <| pz K fun v11 h => optPK (bsliceV h 1 1 [.str []] [(0, (.str [59]))]) fun v12 h => call (.func 173) [x0, v12] h <| pz K fun v13 h => p127_23001 call n x0 v1 v13 h K) (call (.func 75) [x0, (.int .i64 0), (.str [40])] h <| pz K fun v26 h => condK v26 (call (.func 174) [x0] h <| pz K fun v27 h => p127_37001 call n v1 v27 h K) (call (.func 23) [x0, (.str [101, 118, 97, 108])] h <| pz K fun v29 h => condK v29 (call (.func 77) [x0, (.str [40])] h <| pz K fun v30 h => call (.func 129) [x0] h <| pz K fun v31 h => p127_45001 call n x0 v1 v31 h K) (call (.func 23) [x0, (.str [97, 99, 99])] h <| pz K fun v38 h => condK v38 (call (.func 175) [x0] h <| pz K fun v39 h => p127_55001 call n v1 v39 h K) (call (.func 23) [x0, (.str [63])] h <| pz K fun v41 h => condK v41 (call (.func 176) [x0] h <| pz K fun v42 h => p127_61001 call n v1 v42 h K) (call (.func 125) [x0, (.int .i64 1)] h <| pz K fun v44 h => p127_64001 call n x0 v1 v44 h K)))))))

/-! ### 128 (*proctor/parse.parser).sets -/
noncomputable def p128_12 (call : CallFn) (n : Nat) (x2 x5 : AV) (h : AHeap) (K : Kont) : Bool :=
  loadK h x2 fun v11 => optK (some (.fn (.func 178) [] [x2, x5])) fun v12 => call (.func 85) [v11, (.str [125]), v12] h <| pz K fun v13 h => loadK h x5 fun v14 => K v14 h
noncomputable def s128 (call : CallFn) (n : Nat) (x0 x1 : AV) (h : AHeap) (K : Kont) : Bool :=
  boxK h x0 fun v1 h => allocK h [.nilSlc] 1 fun v2 h => loadK h v1 fun v3 => call (.func 77) [v3, (.str [123])] h <| pz K fun v4 h => gtrK x1 (.int .i64 0) fun v5 => condK v5 (loadK h v1 fun v6 => loadK h v1 fun v7 => call (.func 75) [v7, (.int .i64 0), (.str [125])] h <| pz K fun v8 h => loadK h v1 <| sameK v6 <| notK v8 fun v9 => call (.func 74) [v6, v9] h <| pz K fun v10 h => p128_12 call n v1 v2 h K) (p128_12 call n v1 v2 h K)

/-! ### 129 (*proctor/parse.parser).expr -/
noncomputable def p129_4001 (call : CallFn) (n : Nat) (x2 x4 : AV) (h : AHeap) (K : Kont) : Bool :=
  optK (fldA true 0 8 x4) fun v3 => storeNK h 8 x2 v3 fun h => optR (resV h [(x2, some (true, 8))]) h K
noncomputable def s129 (call : CallFn) (n : Nat) (x0 : AV) (h : AHeap) (K : Kont) : Bool :=
  allocK h [.int .i64 0, .str [], .int .i64 0, .bool false, .int .i64 0, .str [], .nilSlc, .nilSlc] 8 fun v1 h => call (.func 179) [x0, (.int .i64 0)] h <| pz K fun v2 h => p129_4001 call n v1 v2 h K

/-! ### 130 (*proctor/print.writer).put -/
noncomputable def p130_28 (call : CallFn) (n : Nat) (B3 : F4) (x0 x5 x6 x7 x8 : AV) (h : AHeap) (K : Kont) : Bool :=
  nilckK x0 fun v35 => fadrK 0 v35 fun v36 => fadrK 0 v36 fun v37 => loadK h v37 fun v38 => optPK (appbA h 5 v38 x5) fun v39 h => nilckK x0 fun v40 => fadrK 0 v40 fun v41 => fadrK 0 v41 fun v42 => storeK h v42 v39 fun h => addK x8 (.int .i64 1) fun v44 => B3 x0 x6 x7 v44 h
noncomputable def p130_22 (call : CallFn) (n : Nat) (B3 : F4) (x0 x5 x6 x7 x8 : AV) (h : AHeap) (K : Kont) : Bool :=
  nilckK x0 fun v19 => fadrK 0 v19 fun v20 => fadrK 0 v20 fun v21 => loadK h v21 fun v22 => lenK v22 fun v23 => gtrK v23 (.int .i64 0) fun v24 => condK v24 (nilckK x0 fun v25 => fadrK 0 v25 fun v26 => fadrK 0 v26 fun v27 => loadK h v27 fun v28 => optPK (bsliceV h 1 1 [.int .u8 0] [(0, (.int .u8 32))]) fun v29 h => optPK (appbA h 5 v28 v29) fun v30 h => nilckK x0 fun v31 => fadrK 0 v31 fun v32 => fadrK 0 v32 fun v33 => storeK h v33 v30 fun h => p130_28 call n B3 x0 x5 x6 x7 x8 h K) (p130_28 call n B3 x0 x5 x6 x7 x8 h K)
noncomputable def b130_3 (call : CallFn) (n : Nat) (B3 : F4) (x0 x6 x7 x8 : AV) (h : AHeap) (K : Kont) : Bool :=
  lssK x8 x7 fun v2 => condK v2 (iadrK h 1 x6 x8 fun v3 => loadK h v3 fun v4 => nilckK x0 fun v5 => fadrK 1 v5 fun v6 => loadK h v6 fun v7 => addK v7 (.int .i64 1) fun v8 => nilckK x0 fun v9 => fadrK 1 v9 fun v10 => storeK h v10 v8 fun h => nilckK x0 fun v12 => fadrK 1 v12 fun v13 => loadK h v13 fun v14 => gtrK v14 (.int .i64 4096) fun v15 => condK v15 (buildK [] [] fun v16 => optK (mkifA 136 v16) fun v17 => pncK K v17 h) (p130_22 call n B3 x0 v4 x6 x7 x8 h K)) (K (.tup []) h)
noncomputable def l130_3 (call : CallFn) (n : Nat) : Nat → AV → AV → AV → AV → AHeap → Kont → Bool :=
  @Nat.rec (fun _ => AV → AV → AV → AV → AHeap → Kont → Bool) (fun _ _ _ _ _ _ => false) (fun _ ih x0 x6 x7 x8 h K => b130_3 call n (fun x0 x6 x7 x8 h => ih x0 x6 x7 x8 h K) x0 x6 x7 x8 h K)
noncomputable def s130 (call : CallFn) (n : Nat) (x0 x1 : AV) (h : AHeap) (K : Kont) : Bool :=
  lenK x1 fun v1 => l130_3 call n n x0 x1 v1 (.int .i64 0) h K

/-! ### 131 proctor/lex.Quote -/
noncomputable def p131_30 (call : CallFn) (n : Nat) (B10 : F4) (x0 x3 x8 x9 : AV) (h : AHeap) (K : Kont) : Bool :=
  addK x9 (.int .i64 1) fun v11 => B10 x0 x3 x8 v11 h
noncomputable def p131_31 (call : CallFn) (n : Nat) (x3 : AV) (h : AHeap) (K : Kont) : Bool :=
  call (.func 180) [x3, (.int .u8 34)] h <| pz K fun v14 h => call (.func 182) [x3] h <| pz K fun v15 h => K v15 h
noncomputable def b131_10 (call : CallFn) (n : Nat) (B10 : F4) (x0 x3 x8 x9 : AV) (h : AHeap) (K : Kont) : Bool :=
  lssK x9 x8 fun v4 => condK v4 (idxsK x0 x9 fun v5 => call (.func 181) [(.str [34, 92, 10, 9]), v5] h <| pz K fun v6 h => geqK v6 (.int .i64 0) fun v7 => condK v7 (call (.func 180) [x3, (.int .u8 92)] h <| pz K fun v8 h => idxsK (.str [34, 92, 110, 116]) v6 fun v9 => call (.func 180) [x3, v9] h <| pz K fun v10 h => p131_30 call n B10 x0 x3 x8 x9 h K) (idxsK x0 x9 fun v12 => call (.func 180) [x3, v12] h <| pz K fun v13 h => p131_30 call n B10 x0 x3 x8 x9 h K)) (p131_31 call n x3 h K)
noncomputable def l131_10 (call : CallFn) (n : Nat) : Nat → AV → AV → AV → AV → AHeap → Kont → Bool :=
  @Nat.rec (fun _ => AV → AV → AV → AV → AHeap → Kont → Bool) (fun _ _ _ _ _ _ => false) (fun _ ih x0 x3 x8 x9 h K => b131_10 call n (fun x0 x3 x8 x9 h => ih x0 x3 x8 x9 h K) x0 x3 x8 x9 h K)
noncomputable def s131 (call : CallFn) (n : Nat) (x0 : AV) (h : AHeap) (K : Kont) : Bool :=
  optPK (allotV h 233 [.nilPtr, .nilSlc]) fun v1 h => call (.func 180) [v1, (.int .u8 34)] h <| pz K fun v2 h => lenSK x0 fun v3 => l131_10 call n n x0 v1 v3 (.int .i64 0) h K

/-! ### 132 proctor/print.need -/
noncomputable def s132 (call : CallFn) (n : Nat) (x0 : AV) (h : AHeap) (K : Kont) : Bool :=
  notK x0 fun v1 => condK v1 (buildK [] [] fun v2 => optK (mkifA 136 v2) fun v3 => pncK K v3 h) (K (.tup []) h)

/-! ### 133 strconv.FormatInt -/
noncomputable def s133 (call : CallFn) (n : Nat) (x0 x1 : AV) (h : AHeap) (K : Kont) : Bool :=
  call (.func 183) [x0, x1] h <| pz K fun v1 h => K v1 h

/-! ### 134 (*proctor/print.writer).conds -/
noncomputable def b134_3 (call : CallFn) (n : Nat) (B3 : F4) (x0 x6 x7 x8 : AV) (h : AHeap) (K : Kont) : Bool :=
  lssK x8 x7 fun v2 => condK v2 (iadrK h 19 x6 x8 fun v3 => loadGK h 19 v3 fun v4 => allocK h [.int .i64 0, .str [], .str [], .nilSlc, .nilSlc, .nilSlc, .nilSlc, .nilSlc, .int .i64 0, .str [], .int .i64 0, .bool false, .int .i64 0, .str [], .nilSlc, .nilSlc, .str [], .str [], .nilSlc] 19 fun v5 h => storeNK h 19 v5 v4 fun h => loadGK h 19 v5 fun v7 => call (.func 184) [x0, v7] h <| pz K fun v8 h => addK x8 (.int .i64 1) fun v9 => B3 x0 x6 x7 v9 h) (K (.tup []) h)
noncomputable def l134_3 (call : CallFn) (n : Nat) : Nat → AV → AV → AV → AV → AHeap → Kont → Bool :=
  @Nat.rec (fun _ => AV → AV → AV → AV → AHeap → Kont → Bool) (fun _ _ _ _ _ _ => false) (fun _ ih x0 x6 x7 x8 h K => b134_3 call n (fun x0 x6 x7 x8 h => ih x0 x6 x7 x8 h K) x0 x6 x7 x8 h K)
noncomputable def s134 (call : CallFn) (n : Nat) (x0 x1 : AV) (h : AHeap) (K : Kont) : Bool :=
  lenK x1 fun v1 => l134_3 call n n x0 x1 v1 (.int .i64 0) h K

/-! ### 135 (*proctor/print.writer).action -/
noncomputable def p135_43 (call : CallFn) (n : Nat) (x0 : AV) (h : AHeap) (K : Kont) : Bool :=
  optPK (bsliceV h 1 1 [.str []] [(0, (.str [59]))]) fun v17 h => call (.func 130) [x0, v17] h <| pz K fun v18 h => K (.tup []) h
noncomputable def p135_38001 (call : CallFn) (n : Nat) (x0 x55 x58 : AV) (h : AHeap) (K : Kont) : Bool :=
  optPK (bsliceV h 2 1 [.str []] [(0, (.str [102, 111, 99, 117, 115])), (1, x58)]) fun v43 h => call (.func 130) [x55, v43] h <| pz K fun v44 h => p135_43 call n x0 h K
noncomputable def p135_30 (call : CallFn) (n : Nat) (x0 x3 x5 x38 : AV) (h : AHeap) (K : Kont) : Bool :=
  condK x38 (optPK (bsliceV h 7 1 [.str []] [(4, (.str [100, 101, 108, 101, 116, 101])), (6, (.str [112, 114, 105, 110, 116]))]) fun v29 h => fadrK 0 x3 fun v30 => loadK h v30 fun v31 => iadrK h 1 v29 v31 fun v32 => loadK h v32 fun v33 => optPK (bsliceV h 1 1 [.str []] [(0, v33)]) fun v34 h => call (.func 130) [x0, v34] h <| pz K fun v35 h => fadrK 3 x3 fun v36 => loadGK h 8 v36 fun v37 => call (.func 186) [x0, v37, (.int .i64 0)] h <| pz K fun v38 h => p135_43 call n x0 h K) (eqlK x5 (.int .i64 5) fun v39 => condK v39 (fadrK 11 x3 fun v40 => loadK h v40 fun v41 => call (.func 131) [v41] h <| pz K fun v42 h => p135_38001 call n x0 x0 v42 h K) (eqlK x5 (.int .i64 7) fun v45 => condK v45 (optPK (bsliceV h 1 1 [.str []] [(0, (.str [104, 97, 108, 116]))]) fun v46 h => call (.func 130) [x0, v46] h <| pz K fun v47 h => p135_43 call n x0 h K) (buildK [] [] fun v48 => optK (mkifA 136 v48) fun v49 => pncK K v49 h)))
noncomputable def p135_12 (call : CallFn) (n : Nat) (x0 x3 x5 x8 : AV) (h : AHeap) (K : Kont) : Bool :=
  condK x8 (fadrK 0 x3 fun v5 => loadK h v5 fun v6 => fadrK 1 x3 fun v7 => loadK h v7 fun v8 => optPK (bsliceV h 3 1 [.str []] [(1, (.str [105, 110, 115, 101, 114, 116])), (2, (.str [108, 111, 103, 105, 99, 97, 108]))]) fun v9 h => loadK h v5 <| sameK v6 <| loadK h v7 <| sameK v8 <| iadrK h 1 v9 v6 fun v10 => loadK h v10 fun v11 => optPK (bsliceV h 2 1 [.str []] [(0, v11), (1, v8)]) fun v12 h => loadK h v5 <| sameK v6 <| iadrK h 1 v9 v6 <| sameK v10 <| loadK h v10 <| sameK v11 <| loadK h v7 <| sameK v8 <| call (.func 130) [x0, v12] h <| pz (goneQ [v12, v9] K) fun v13 h => fadrK 2 x3 fun v14 => loadK h v14 fun v15 => call (.func 185) [x0, v15] h <| pz K fun v16 h => p135_43 call n x0 h K) (eqlK x5 (.int .i64 3) fun v19 => condK v19 (optPK (bsliceV h 1 1 [.str []] [(0, (.str [117, 112, 100, 97, 116, 101]))]) fun v20 h => call (.func 130) [x0, v20] h <| pz K fun v21 h => fadrK 3 x3 fun v22 => loadGK h 8 v22 fun v23 => call (.func 186) [x0, v23, (.int .i64 0)] h <| pz K fun v24 h => fadrK 2 x3 fun v25 => loadK h v25 fun v26 => call (.func 185) [x0, v26] h <| pz K fun v27 h => p135_43 call n x0 h K) (eqlK x5 (.int .i64 4) fun v28 => condK v28 (p135_30 call n x0 x3 x5 v28 h K) (eqlK x5 (.int .i64 6) fun v51 => p135_30 call n x0 x3 x5 v51 h K)))
noncomputable def s135 (call : CallFn) (n : Nat) (x0 x1 : AV) (h : AHeap) (K : Kont) : Bool :=
  optPK (boxA h (none) 12 x1) fun v1 h => fadrK 0 v1 fun v2 => loadK h v2 fun v3 => eqlK v3 (.int .i64 1) fun v4 => condK v4 (p135_12 call n x0 v1 v3 v4 h K) (eqlK v3 (.int .i64 2) fun v52 => p135_12 call n x0 v1 v3 v52 h K)

/-! ### 136 proctor/print.commas[string] -/
noncomputable def p136_20 (call : CallFn) (n : Nat) (B3 : F5) (x0 x2 x7 x8 x9 x10 : AV) (h : AHeap) (K : Kont) : Bool :=
  callV call x2 [x7] h <| pz K fun v8 h => addK x10 (.int .i64 1) fun v9 => B3 x0 x2 x8 x9 v9 h
noncomputable def b136_3 (call : CallFn) (n : Nat) (B3 : F5) (x0 x2 x8 x9 x10 : AV) (h : AHeap) (K : Kont) : Bool :=
  lssK x10 x9 fun v2 => condK v2 (iadrK h 1 x8 x10 fun v3 => loadK h v3 fun v4 => gtrK x10 (.int .i64 0) fun v5 => condK v5 (optPK (bsliceV h 1 1 [.str []] [(0, (.str [44]))]) fun v6 h => call (.func 130) [x0, v6] h <| pz K fun v7 h => p136_20 call n B3 x0 x2 v4 x8 x9 x10 h K) (p136_20 call n B3 x0 x2 v4 x8 x9 x10 h K)) (K (.tup []) h)
noncomputable def l136_3 (call : CallFn) (n : Nat) : Nat → AV → AV → AV → AV → AV → AHeap → Kont → Bool :=
  @Nat.rec (fun _ => AV → AV → AV → AV → AV → AHeap → Kont → Bool) (fun _ _ _ _ _ _ _ => false) (fun _ ih x0 x2 x8 x9 x10 h K => b136_3 call n (fun x0 x2 x8 x9 x10 h => ih x0 x2 x8 x9 x10 h K) x0 x2 x8 x9 x10 h K)
noncomputable def s136 (call : CallFn) (n : Nat) (x0 x1 x2 : AV) (h : AHeap) (K : Kont) : Bool :=
  lenK x1 fun v1 => l136_3 call n n x0 x2 x1 v1 (.int .i64 0) h K

/-! ### 137 (*proctor/print.writer).query$1 -/
noncomputable def s137 (call : CallFn) (n : Nat) (x0 x1 : AV) (h : AHeap) (K : Kont) : Bool :=
  loadK h x1 fun v1 => addK (.str [36]) x0 fun v2 => optPK (bsliceV h 1 1 [.str []] [(0, v2)]) fun v3 h => call (.func 130) [v1, v3] h <| pz K fun v4 h => K (.tup []) h

/-! ### 138 slices.Equal[[]proctor/api.Field,proctor/api.Field] -/
noncomputable def b138_14 (call : CallFn) (n : Nat) (B14 : F4) (x0 x1 x12 x13 : AV) (h : AHeap) (K : Kont) : Bool :=
  lssK x13 x12 fun v5 => condK v5 (iadrK h 3 x0 x13 fun v6 => loadGK h 3 v6 fun v7 => iadrK h 3 x1 x13 fun v8 => loadGK h 3 v8 fun v9 => optK (eqV h true (.agg [.str, .int, .str]) v7 v9) fun v10 => condK v10 (K (.bool false) h) (addK x13 (.int .i64 1) fun v11 => B14 x0 x1 x12 v11 h)) (K (.bool true) h)
noncomputable def l138_14 (call : CallFn) (n : Nat) : Nat → AV → AV → AV → AV → AHeap → Kont → Bool :=
  @Nat.rec (fun _ => AV → AV → AV → AV → AHeap → Kont → Bool) (fun _ _ _ _ _ _ => false) (fun _ ih x0 x1 x12 x13 h K => b138_14 call n (fun x0 x1 x12 x13 h => ih x0 x1 x12 x13 h K) x0 x1 x12 x13 h K)
noncomputable def p138_10 (call : CallFn) (n : Nat) (x0 x1 : AV) (h : AHeap) (K : Kont) : Bool :=
  lenK x0 fun v4 => l138_14 call n n x0 x1 v4 (.int .i64 0) h K
noncomputable def s138 (call : CallFn) (n : Nat) (x0 x1 : AV) (h : AHeap) (K : Kont) : Bool :=
  lenK x0 fun v1 => lenK x1 fun v2 => neqK v1 v2 fun v3 => condK v3 (K (.bool false) h) (p138_10 call n x0 x1 h K)

/-! ### 139 proctor/print.sameConds -/
noncomputable def s139 (call : CallFn) (n : Nat) (x0 x1 : AV) (h : AHeap) (K : Kont) : Bool :=
  call (.func 187) [x0, x1, (.fn (.func 188) [] [])] h <| pz K fun v1 h => K v1 h

/-! ### 140 slices.EqualFunc[[]proctor/api.Action,[]proctor/api.Action,proctor/api.Action,proctor/api.Action] -/
noncomputable def p140_29001 (call : CallFn) (n : Nat) (B14 : F5) (x1 x2 x15 x16 x17 x29 : AV) (h : AHeap) (K : Kont) : Bool :=
  notK x29 fun v17 => condK v17 (K (.bool false) h) (addK x17 (.int .i64 1) fun v18 => B14 x1 x2 x15 x16 v18 h)
noncomputable def b140_14 (call : CallFn) (n : Nat) (B14 : F5) (x1 x2 x15 x16 x17 : AV) (h : AHeap) (K : Kont) : Bool :=
  lssK x17 x16 fun v5 => condK v5 (iadrK h 12 x15 x17 fun v6 => loadGK h 12 v6 fun v7 => allocK h [.int .i64 0, .str [], .nilSlc, .int .i64 0, .str [], .int .i64 0, .bool false, .int .i64 0, .str [], .nilSlc, .nilSlc, .str []] 12 fun v8 h => storeNK h 12 v8 v7 fun h => iadrK h 12 x1 x17 fun v10 => loadGK h 12 v10 fun v11 => allocK h [.int .i64 0, .str [], .nilSlc, .int .i64 0, .str [], .int .i64 0, .bool false, .int .i64 0, .str [], .nilSlc, .nilSlc, .str []] 12 fun v12 h => storeNK h 12 v12 v11 fun h => loadGK h 12 v8 fun v14 => loadGK h 12 v12 fun v15 => callV call x2 [v14, v15] h <| pz K fun v16 h => p140_29001 call n B14 x1 x2 x15 x16 x17 v16 h K) (K (.bool true) h)
noncomputable def l140_14 (call : CallFn) (n : Nat) : Nat → AV → AV → AV → AV → AV → AHeap → Kont → Bool :=
  @Nat.rec (fun _ => AV → AV → AV → AV → AV → AHeap → Kont → Bool) (fun _ _ _ _ _ _ _ => false) (fun _ ih x1 x2 x15 x16 x17 h K => b140_14 call n (fun x1 x2 x15 x16 x17 h => ih x1 x2 x15 x16 x17 h K) x1 x2 x15 x16 x17 h K)
noncomputable def p140_10 (call : CallFn) (n : Nat) (x0 x1 x2 : AV) (h : AHeap) (K : Kont) : Bool :=
  lenK x0 fun v4 => l140_14 call n n x1 x2 x0 v4 (.int .i64 0) h K
noncomputable def s140 (call : CallFn) (n : Nat) (x0 x1 x2 : AV) (h : AHeap) (K : Kont) : Bool :=
  lenK x0 fun v1 => lenK x1 fun v2 => neqK v1 v2 fun v3 => condK v3 (K (.bool false) h) (p140_10 call n x0 x1 x2 h K)

/-! ### 141 proctor/print.sameAction -/
noncomputable def p141_4002 (call : CallFn) (n : Nat) (x31 x36 : AV) (h : AHeap) (K : Kont) : Bool :=
  pickK x31 x36 (.bool false) fun v31 => K v31 h
noncomputable def p141_4001 (call : CallFn) (n : Nat) (x2 x3 x24 x29 : AV) (h : AHeap) (K : Kont) : Bool :=
  pickK x24 x29 (.bool false) fun v25 => gK v25 true (fadrK 3 x2) fun v26 => gK v25 true (loadGK h 8 v26) fun v27 => gK v25 true (fadrK 3 x3) fun v28 => gK v25 true (loadGK h 8 v28) fun v29 => gP v25 true (fun k => call (.func 191) [v27, v29] h (pz K k)) h fun v30 h => p141_4002 call n v25 v30 h K
noncomputable def s141 (call : CallFn) (n : Nat) (x0 x1 : AV) (h : AHeap) (K : Kont) : Bool :=
  optPK (boxA h (none) 12 x0) fun v1 h => optPK (boxA h (none) 12 x1) fun v2 h => fadrK 0 v1 fun v3 => loadK h v3 fun v4 => fadrK 0 v2 fun v5 => loadK h v5 fun v6 => eqlK v4 v6 fun v7 => gK v7 true (fadrK 1 v1) fun v8 => gK v7 true (loadK h v8) fun v9 => gK v7 true (fadrK 1 v2) fun v10 => gK v7 true (loadK h v10) fun v11 => gK v7 true (eqlK v9 v11) fun v12 => pickK v7 v12 (.bool false) fun v13 => gK v13 true (fadrK 11 v1) fun v14 => gK v13 true (loadK h v14) fun v15 => gK v13 true (fadrK 11 v2) fun v16 => gK v13 true (loadK h v16) fun v17 => gK v13 true (eqlK v15 v17) fun v18 => pickK v13 v18 (.bool false) fun v19 => gK v19 true (fadrK 2 v1) fun v20 => gK v19 true (loadK h v20) fun v21 => gK v19 true (fadrK 2 v2) fun v22 => gK v19 true (loadK h v22) fun v23 => gP v19 true (fun k => call (.func 189) [v21, v23, (.fn (.func 190) [] [])] h (pz K k)) h fun v24 h => p141_4001 call n v1 v2 v19 v24 h K

/-! ### 142 slices.Equal[[]string,string] -/
noncomputable def b142_14 (call : CallFn) (n : Nat) (B14 : F4) (x0 x1 x12 x13 : AV) (h : AHeap) (K : Kont) : Bool :=
  lssK x13 x12 fun v5 => condK v5 (iadrK h 1 x0 x13 fun v6 => loadK h v6 fun v7 => iadrK h 1 x1 x13 fun v8 => loadK h v8 fun v9 => neqK v7 v9 fun v10 => condK v10 (K (.bool false) h) (addK x13 (.int .i64 1) fun v11 => B14 x0 x1 x12 v11 h)) (K (.bool true) h)
noncomputable def l142_14 (call : CallFn) (n : Nat) : Nat → AV → AV → AV → AV → AHeap → Kont → Bool :=
  @Nat.rec (fun _ => AV → AV → AV → AV → AHeap → Kont → Bool) (fun _ _ _ _ _ _ => false) (fun _ ih x0 x1 x12 x13 h K => b142_14 call n (fun x0 x1 x12 x13 h => ih x0 x1 x12 x13 h K) x0 x1 x12 x13 h K)
noncomputable def p142_10 (call : CallFn) (n : Nat) (x0 x1 : AV) (h : AHeap) (K : Kont) : Bool :=
  lenK x0 fun v4 => l142_14 call n n x0 x1 v4 (.int .i64 0) h K
noncomputable def s142 (call : CallFn) (n : Nat) (x0 x1 : AV) (h : AHeap) (K : Kont) : Bool :=
  lenK x0 fun v1 => lenK x1 fun v2 => neqK v1 v2 fun v3 => condK v3 (K (.bool false) h) (p142_10 call n x0 x1 h K)

/-! ### 143 proctor/class.key -/
noncomputable def p143_156 (call : CallFn) (n : Nat) (x4 : AV) (h : AHeap) (K : Kont) : Bool :=
  condK x4 (K (.bool true) h) (K (.bool false) h)
set_option maxRecDepth 100000 in
noncomputable def s143 (call : CallFn) (n : Nat) (x0 : AV) (h : AHeap) (K : Kont) : Bool :=
  eqlK x0 (.str [99, 108, 97, 115, 115]) fun v1 => condK v1 (p143_156 call n v1 h K) (eqlK x0 (.str [101, 120, 116, 101, 110, 100, 115]) fun v2 => condK v2 (p143_156 call n v2 h K) (eqlK x0 (.str [114, 117, 108, 101]) fun v3 => condK v3 (p143_156 call n v3 h K) (eqlK x0 (.str [113, 117, 101, 114, 121]) fun v4 => condK v4 (p143_156 call n v4 h K) (eqlK x0 (.str [119, 104, 101, 110]) fun v5 => condK v5 (p143_156 call n v5 h K) (eqlK x0 (.str [116, 104, 101, 110]) fun v6 => condK v6 (p143_156 call n v6 h K) (eqlK x0 (.str [101, 110, 100]) fun v7 => condK v7 (p143_156 call n v7 h K) (eqlK x0 (.str [115, 97, 108, 105, 101, 110, 99, 101]) fun v8 => condK v8 (p143_156 call n v8 h K) (eqlK x0 (.str [103, 114, 111, 117, 112]) fun v9 => condK v9 (p143_156 call n v9 h K) (eqlK x0 (.str [102, 108, 111, 119]) fun v10 => condK v10 (p143_156 call n v10 h K) (eqlK x0 (.str [110, 111, 108, 111, 111, 112]) fun v11 => condK v11 (p143_156 call n v11 h K) (eqlK x0 (.str [108, 111, 99, 107]) fun v12 => condK v12 (p143_156 call n v12 h K) (eqlK x0 (.str [110, 111, 116]) fun v13 => condK v13 (p143_156 call n v13 h K) (eqlK x0 (.str [101, 120, 105, 115, 116, 115]) fun v14 => condK v14 (p143_156 call n v14 h K) (eqlK x0 (.str [102, 111, 114, 97, 108, 108]) fun v15 => condK v15 (p143_156 call n v15 h K) (eqlK x0 (.str [111, 114]) fun v16 => condK v16 (p143_156 call n v16 h K) (eqlK x0 (.str [102, 114, 111, 109]) fun v17 => condK v17 (p143_156 call n v17 h K) (eqlK x0 (.str [101, 118, 97, 108]) fun v18 => condK v18 (p143_156 call n v18 h K) (eqlK x0 (.str [97, 99, 99]) fun v19 => condK v19 (p143_156 call n v19 h K) (eqlK x0 (.str [111, 118, 101, 114]) fun v20 => condK v20 (p143_156 call n v20 h K) (eqlK x0 (.str [105, 110, 115, 101, 114, 116]) fun v21 => condK v21 (p143_156 call n v21 h K) (eqlK x0 (.str [108, 111, 103, 105, 99, 97, 108]) fun v22 => condK v22 (p143_156 call n v22 h K) (eqlK x0 (.str [117, 112, 100, 97, 116, 101]) fun v23 => condK v23 (p143_156 call n v23 h K) (eqlK x0 (.str [100, 101, 108, 101, 116, 101]) fun v24 => condK v24 (p143_156 call n v24 h K) (eqlK x0 (.str [102, 111, 99, 117, 115]) fun v25 => condK v25 (p143_156 call n v25 h K) (eqlK x0 (.str [112, 114, 105, 110, 116]) fun v26 => condK v26 (p143_156 call n v26 h K) (eqlK x0 (.str [104, 97, 108, 116]) fun v27 => condK v27 (p143_156 call n v27 h K) (eqlK x0 (.str [116, 114, 117, 101]) fun v28 => condK v28 (p143_156 call n v28 h K) (eqlK x0 (.str [102, 97, 108, 115, 101]) fun v29 => condK v29 (p143_156 call n v29 h K) (eqlK x0 (.str [110, 117, 108, 108]) fun v30 => condK v30 (p143_156 call n v30 h K) (eqlK x0 (.str [115, 105, 122, 101]) fun v31 => condK v31 (p143_156 call n v31 h K) (eqlK x0 (.str [104, 97, 115]) fun v32 => condK v32 (p143_156 call n v32 h K) (eqlK x0 (.str [105, 110, 116]) fun v33 => condK v33 (p143_156 call n v33 h K) (eqlK x0 (.str [98, 111, 111, 108]) fun v34 => condK v34 (p143_156 call n v34 h K) (eqlK x0 (.str [116, 101, 120, 116]) fun v35 => condK v35 (p143_156 call n v35 h K) (eqlK x0 (.str [108, 105, 115, 116]) fun v36 => condK v36 (p143_156 call n v36 h K) (eqlK x0 (.str [97, 110, 121]) fun v37 => condK v37 (p143_156 call n v37 h K) (eqlK x0 (.str [114, 101, 102]) fun v38 => p143_156 call n v38 h K)))))))))))))))))))))))))))))))))))))

/-! ### 144 (*proctor/class.Table).up$1 -/
noncomputable def p144_14001 (call : CallFn) (n : Nat) (B3 : F4) (x0 x1 x4 x40 : AV) (h : AHeap) (K : Kont) : Bool :=
  notK x40 fun v16 => condK v16 (K (.tup []) h) (loadK h x1 fun v17 => nilckK v17 fun v18 => fadrK 1 v18 fun v19 => loadK h v19 fun v20 => loadK h x1 fun v21 => nilckK v21 fun v22 => fadrK 0 v22 fun v23 => loadK h v23 fun v24 => iadrK h 3 v24 x4 fun v25 => fadrK 1 v25 fun v26 => loadK h v26 fun v27 => optK (lookA h (.leaf .str) true (.int .i64 0) v20 v27) fun v28 => extK 0 v28 fun v29 => extK 1 v28 fun v30 => B3 x0 x1 v29 v30 h)
noncomputable def b144_3 (call : CallFn) (n : Nat) (B3 : F4) (x0 x1 x4 x5 : AV) (h : AHeap) (K : Kont) : Bool :=
  condK x5 (loadK h x1 fun v9 => nilckK v9 fun v10 => fadrK 0 v10 fun v11 => loadK h v11 fun v12 => iadrK h 3 v12 x4 fun v13 => loadGK h 3 v13 fun v14 => callV call x0 [v14] h <| pz K fun v15 h => p144_14001 call n B3 x0 x1 x4 v15 h K) (K (.tup []) h)
noncomputable def l144_3 (call : CallFn) (n : Nat) : Nat → AV → AV → AV → AV → AHeap → Kont → Bool :=
  @Nat.rec (fun _ => AV → AV → AV → AV → AHeap → Kont → Bool) (fun _ _ _ _ _ _ => false) (fun _ ih x0 x1 x4 x5 h K => b144_3 call n (fun x0 x1 x4 x5 h => ih x0 x1 x4 x5 h K) x0 x1 x4 x5 h K)
noncomputable def s144 (call : CallFn) (n : Nat) (x0 x1 x2 : AV) (h : AHeap) (K : Kont) : Bool :=
  loadK h x1 fun v1 => nilckK v1 fun v2 => fadrK 1 v2 fun v3 => loadK h v3 fun v4 => loadK h x2 fun v5 => optK (lookA h (.leaf .str) true (.int .i64 0) v4 v5) fun v6 => extK 0 v6 fun v7 => extK 1 v6 fun v8 => l144_3 call n n x0 x1 v7 v8 h K

/-! ### 145 slices.IndexFunc[[]proctor/api.Class,proctor/api.Class] -/
noncomputable def b145_6 (call : CallFn) (n : Nat) (B6 : F4) (x0 x1 x7 x8 : AV) (h : AHeap) (K : Kont) : Bool :=
  lssK x8 x7 fun v2 => condK v2 (iadrK h 3 x0 x8 fun v3 => loadGK h 3 v3 fun v4 => callV call x1 [v4] h <| pz K fun v5 h => condK v5 (K x8 h) (addK x8 (.int .i64 1) fun v6 => B6 x0 x1 x7 v6 h)) (K (.int .i64 (-1)) h)
noncomputable def l145_6 (call : CallFn) (n : Nat) : Nat → AV → AV → AV → AV → AHeap → Kont → Bool :=
  @Nat.rec (fun _ => AV → AV → AV → AV → AHeap → Kont → Bool) (fun _ _ _ _ _ _ => false) (fun _ ih x0 x1 x7 x8 h K => b145_6 call n (fun x0 x1 x7 x8 h => ih x0 x1 x7 x8 h K) x0 x1 x7 x8 h K)
noncomputable def s145 (call : CallFn) (n : Nat) (x0 x1 : AV) (h : AHeap) (K : Kont) : Bool :=
  lenK x0 fun v1 => l145_6 call n n x0 x1 v1 (.int .i64 0) h K

/-! ### 147 (*proctor/check.checker).pattern -/
noncomputable def p147_50 (call : CallFn) (n : Nat) (x2 x6 : AV) (h : AHeap) (K : Kont) : Bool :=
  loadK h x6 fun v81 => call (.func 193) [x2, v81] h <| pz K fun v82 h => K (.tup []) h
noncomputable def b147_37 (call : CallFn) (n : Nat) (B37 : F7) (x2 x3 x4 x6 x82 x83 x84 : AV) (h : AHeap) (K : Kont) : Bool :=
  lssK x84 x83 fun v72 => condK v72 (iadrK h 8 x82 x84 fun v73 => loadGK h 8 v73 fun v74 => allocK h [.int .i64 0, .str [], .int .i64 0, .bool false, .int .i64 0, .str [], .nilSlc, .nilSlc] 8 fun v75 h => storeNK h 8 v75 v74 fun h => loadGK h 8 v75 fun v77 => optK (some (.fn (.func 192) [] [x6, x3, x4])) fun v78 => call (.func 151) [v77, v78] h <| pz K fun v79 h => addK x84 (.int .i64 1) fun v80 => B37 x2 x3 x4 x6 x82 x83 v80 h) (p147_50 call n x2 x6 h K)
noncomputable def l147_37 (call : CallFn) (n : Nat) : Nat → AV → AV → AV → AV → AV → AV → AV → AHeap → Kont → Bool :=
  @Nat.rec (fun _ => AV → AV → AV → AV → AV → AV → AV → AHeap → Kont → Bool) (fun _ _ _ _ _ _ _ _ _ => false) (fun _ ih x2 x3 x4 x6 x82 x83 x84 h K => b147_37 call n (fun x2 x3 x4 x6 x82 x83 x84 h => ih x2 x3 x4 x6 x82 x83 x84 h K) x2 x3 x4 x6 x82 x83 x84 h K)
noncomputable def p147_33 (call : CallFn) (n : Nat) (x2 x3 x4 x6 : AV) (h : AHeap) (K : Kont) : Bool :=
  fadrK 4 x4 fun v69 => loadK h v69 fun v70 => lenK v70 fun v71 => l147_37 call n n x2 x3 x4 x6 v70 v71 (.int .i64 0) h K
noncomputable def p147_27 (call : CallFn) (n : Nat) (x2 x3 x4 x6 : AV) (h : AHeap) (K : Kont) : Bool :=
  fadrK 1 x4 fun v62 => loadK h v62 fun v63 => neqK v63 (.str []) fun v64 => condK v64 (loadK h x6 fun v65 => fadrK 1 x4 fun v66 => loadK h v66 fun v67 => call (.func 38) [v65, v67] h <| pz K fun v68 h => p147_33 call n x2 x3 x4 x6 h K) (p147_33 call n x2 x3 x4 x6 h K)
noncomputable def b147_10 (call : CallFn) (n : Nat) (B10 : F7) (x2 x3 x4 x6 x36 x37 x38 : AV) (h : AHeap) (K : Kont) : Bool :=
  lssK x38 x37 fun v28 => condK v28 (iadrK h 2 x36 x38 fun v29 => loadGK h 2 v29 fun v30 => allocK h [.str [], .str []] 2 fun v31 h => storeNK h 2 v31 v30 fun h => loadK h x3 fun v33 => nilckK v33 fun v34 => fadrK 3 v34 fun v35 => loadK h v35 fun v36 => fadrK 2 x4 fun v37 => loadK h v37 fun v38 => fadrK 1 v31 fun v39 => loadK h v39 fun v40 => call (.func 150) [v36, v38, v40] h <| pz K fun v41 h => extK 0 v41 fun v42 => extK 1 v41 fun v43 => eqlK v43 (.int .i64 0) fun v44 => gK v44 true (fadrK 1 x4) fun v45 => gK v44 true (loadK h v45) fun v46 => gK v44 true (eqlK v46 (.str [])) fun v47 => gK v44 true (optK (some v47)) fun v48 => gK v48 false (fadrK 0 v31) fun v49 => gK v48 false (loadK h v49) fun v50 => gK v48 false (fadrK 1 x4) fun v51 => gK v48 false (loadK h v51) fun v52 => gK v48 false (neqK v50 v52) fun v53 => gK v44 true (pickK v48 (.bool true) v53) fun v54 => pickK v44 v54 (.bool false) fun v55 => call (.func 104) [v55] h <| pz K fun v56 h => loadK h x6 fun v57 => fadrK 0 v31 fun v58 => loadK h v58 fun v59 => call (.func 38) [v57, v59] h <| pz K fun v60 h => addK x38 (.int .i64 1) fun v61 => B10 x2 x3 x4 x6 x36 x37 v61 h) (p147_27 call n x2 x3 x4 x6 h K)
noncomputable def l147_10 (call : CallFn) (n : Nat) : Nat → AV → AV → AV → AV → AV → AV → AV → AHeap → Kont → Bool :=
  @Nat.rec (fun _ => AV → AV → AV → AV → AV → AV → AV → AHeap → Kont → Bool) (fun _ _ _ _ _ _ _ _ _ => false) (fun _ ih x2 x3 x4 x6 x36 x37 x38 h K => b147_10 call n (fun x2 x3 x4 x6 x36 x37 x38 h => ih x2 x3 x4 x6 x36 x37 x38 h K) x2 x3 x4 x6 x36 x37 x38 h K)
noncomputable def p147_6001 (call : CallFn) (n : Nat) (x2 x3 x4 x34 : AV) (h : AHeap) (K : Kont) : Bool :=
  allocK h [.nilMap] 1 fun v23 h => storeK h v23 x34 fun h => fadrK 3 x4 fun v25 => loadK h v25 fun v26 => lenK v26 fun v27 => l147_10 call n n x2 x3 x4 v23 v26 v27 (.int .i64 0) h K
noncomputable def s147 (call : CallFn) (n : Nat) (x0 x1 x2 : AV) (h : AHeap) (K : Kont) : Bool :=
  boxK h x0 fun v1 h => optPK (boxA h (none) 19 x1) fun v2 h => loadK h v1 fun v3 => nilckK v3 fun v4 => fadrK 3 v4 fun v5 => loadK h v5 fun v6 => fadrK 2 v2 fun v7 => loadK h v7 fun v8 => call (.func 100) [v6, v8] h <| pz K fun v9 h => gK v9 true (fadrK 1 v2) fun v10 => gK v9 true (loadK h v10) fun v11 => gK v9 true (eqlK v11 (.str [])) fun v12 => gK v9 true (optK (some v12)) fun v13 => gK v13 false (optK (some x2)) fun v14 => gK v13 false (fadrK 1 v2) fun v15 => gK v13 false (loadK h v15) fun v16 => gP v13 false (fun k => call (.func 37) [v14, v16] h (pz K k)) h fun v17 h => gK v13 false (notK v17) fun v18 => gK v9 true (pickK v13 (.bool true) v18) fun v19 => pickK v9 v19 (.bool false) fun v20 => call (.func 104) [v20] h <| pz K fun v21 h => call (.func 106) [x2] h <| pz K fun v22 h => p147_6001 call n x2 v1 v2 v22 h K

/-! ### 148 (*proctor/check.checker).cond$1 -/
noncomputable def s148 (call : CallFn) (n : Nat) (x0 x1 : AV) (h : AHeap) (K : Kont) : Bool :=
  optPK (boxA h (none) 3 x0) fun v1 h => fadrK 0 v1 fun v2 => loadK h v2 fun v3 => fadrK 17 x1 fun v4 => loadK h v4 fun v5 => eqlK v3 v5 fun v6 => K v6 h

/-! ### 149 (*proctor/check.checker).or -/
noncomputable def p149_37 (call : CallFn) (n : Nat) (B8 : F7) (x0 x2 x4 x6 x15 x16 x17 : AV) (h : AHeap) (K : Kont) : Bool :=
  addK x17 (.int .i64 1) fun v27 => B8 x0 x2 x4 x6 x15 x16 v27 h
noncomputable def b149_22 (call : CallFn) (n : Nat) (B8 : F7) (B22 : F8) (x0 x2 x4 x6 x15 x16 x17 x25 : AV) (h : AHeap) (K : Kont) : Bool :=
  nextA h x25 fun v11 h => extK 0 v11 fun v12 => condK v12 (optK (entA h x25) fun v13 => extK 0 v13 fun v14 => extK 1 v13 fun v15 => eqlK v15 (.int .i64 1) fun v16 => condK v16 (optK (lookA h (.leaf .str) false (.int .i64 0) x6 v14) fun v17 => addK v17 (.int .i64 1) fun v18 => optPK (unit (mupdA h (.leaf .str) x6 v14 v18)) fun _ h => B22 x0 x2 x4 x6 x15 x16 x17 x25 h) (optK (lookA h (.leaf .str) false (.int .i64 0) x6 v14) fun v20 => fadrK 7 x4 fun v21 => loadK h v21 fun v22 => lenK v22 fun v23 => addK v23 (.int .i64 1) fun v24 => subK v20 v24 fun v25 => optPK (unit (mupdA h (.leaf .str) x6 v14 v25)) fun _ h => B22 x0 x2 x4 x6 x15 x16 x17 x25 h)) (p149_37 call n B8 x0 x2 x4 x6 x15 x16 x17 h K)
noncomputable def l149_22 (call : CallFn) (n : Nat) (B8 : F7) : Nat → AV → AV → AV → AV → AV → AV → AV → AV → AHeap → Kont → Bool :=
  @Nat.rec (fun _ => AV → AV → AV → AV → AV → AV → AV → AV → AHeap → Kont → Bool) (fun _ _ _ _ _ _ _ _ _ _ => false) (fun _ ih x0 x2 x4 x6 x15 x16 x17 x25 h K => b149_22 call n B8 (fun x0 x2 x4 x6 x15 x16 x17 x25 h => ih x0 x2 x4 x6 x15 x16 x17 x25 h K) x0 x2 x4 x6 x15 x16 x17 x25 h K)
noncomputable def p149_21001 (call : CallFn) (n : Nat) (B8 : F7) (x0 x2 x4 x6 x15 x16 x17 x24 : AV) (h : AHeap) (K : Kont) : Bool :=
  optPK (rngA h x24) fun v10 h => l149_22 call n B8 n x0 x2 x4 x6 x15 x16 x17 v10 h K
noncomputable def p149_15 (call : CallFn) (n : Nat) (B8 : F7) (x0 x2 x4 x6 x15 x16 x17 : AV) (h : AHeap) (K : Kont) : Bool :=
  iadrK h 1 x15 x17 fun v7 => loadK h v7 fun v8 => call (.func 48) [x0, v8, x2] h <| pz K fun v9 h => p149_21001 call n B8 x0 x2 x4 x6 x15 x16 x17 v9 h K
noncomputable def b149_41 (call : CallFn) (n : Nat) (B41 : F3) (x2 x4 x47 : AV) (h : AHeap) (K : Kont) : Bool :=
  nextA h x47 fun v29 h => extK 0 v29 fun v30 => condK v30 (optK (entA h x47) fun v31 => extK 0 v31 fun v32 => extK 1 v31 fun v33 => call (.func 37) [x2, v32] h <| pz K fun v34 h => condK v34 (B41 x2 x4 x47 h) (fadrK 7 x4 fun v35 => loadK h v35 fun v36 => lenK v36 fun v37 => eqlK v33 v37 fun v38 => condK v38 (optPK (unit (mupdA h (.leaf .str) x2 v32 (.int .i64 1))) fun _ h => B41 x2 x4 x47 h) (optPK (unit (mupdA h (.leaf .str) x2 v32 (.int .i64 2))) fun _ h => B41 x2 x4 x47 h))) (K (.tup []) h)
noncomputable def l149_41 (call : CallFn) (n : Nat) : Nat → AV → AV → AV → AHeap → Kont → Bool :=
  @Nat.rec (fun _ => AV → AV → AV → AHeap → Kont → Bool) (fun _ _ _ _ _ => false) (fun _ ih x2 x4 x47 h K => b149_41 call n (fun x2 x4 x47 h => ih x2 x4 x47 h K) x2 x4 x47 h K)
noncomputable def p149_38 (call : CallFn) (n : Nat) (x2 x4 x6 : AV) (h : AHeap) (K : Kont) : Bool :=
  optPK (rngA h x6) fun v28 h => l149_41 call n n x2 x4 v28 h K
noncomputable def b149_8 (call : CallFn) (n : Nat) (B8 : F7) (x0 x2 x4 x6 x15 x16 x17 : AV) (h : AHeap) (K : Kont) : Bool :=
  lssK x17 x16 fun v6 => condK v6 (p149_15 call n B8 x0 x2 x4 x6 x15 x16 x17 h K) (p149_38 call n x2 x4 x6 h K)
noncomputable def l149_8 (call : CallFn) (n : Nat) : Nat → AV → AV → AV → AV → AV → AV → AV → AHeap → Kont → Bool :=
  @Nat.rec (fun _ => AV → AV → AV → AV → AV → AV → AV → AHeap → Kont → Bool) (fun _ _ _ _ _ _ _ _ _ => false) (fun _ ih x0 x2 x4 x6 x15 x16 x17 h K => b149_8 call n (fun x0 x2 x4 x6 x15 x16 x17 h => ih x0 x2 x4 x6 x15 x16 x17 h K) x0 x2 x4 x6 x15 x16 x17 h K)
noncomputable def s149 (call : CallFn) (n : Nat) (x0 x1 x2 : AV) (h : AHeap) (K : Kont) : Bool :=
  optPK (boxA h (none) 19 x1) fun v1 h => optPK (mkmapV h) fun v2 h => fadrK 7 v1 fun v3 => loadK h v3 fun v4 => lenK v4 fun v5 => l149_8 call n n x0 x2 v1 v2 v4 v5 (.int .i64 0) h K

/-! ### 150 (*proctor/class.Table).Index -/
noncomputable def p150_4001 (call : CallFn) (n : Nat) (x5 x14 : AV) (h : AHeap) (K : Kont) : Bool :=
  extK 0 x14 fun v3 => extK 1 x14 fun v4 => neqK v4 (.int .i64 0) fun v5 => condK v5 (K (.tup [(.int .i64 0), v4]) h) (optK (some (.fn (.func 196) [] [x5])) fun v6 => call (.func 195) [v3, v6] h <| pz K fun v7 h => lssK v7 (.int .i64 0) fun v8 => condK v8 (K (.tup [(.int .i64 0), (.int .i64 11)]) h) (K (.tup [v7, (.int .i64 0)]) h))
noncomputable def s150 (call : CallFn) (n : Nat) (x0 x1 x2 : AV) (h : AHeap) (K : Kont) : Bool :=
  boxK h x2 fun v1 h => call (.func 194) [x0, x1] h <| pz K fun v2 h => p150_4001 call n v1 v2 h K

/-! ### 151 proctor/check.walk -/
noncomputable def b151_7 (call : CallFn) (n : Nat) (B7 : F4) (x1 x10 x11 x12 : AV) (h : AHeap) (K : Kont) : Bool :=
  lssK x12 x11 fun v7 => condK v7 (iadrK h 8 x10 x12 fun v8 => loadGK h 8 v8 fun v9 => allocK h [.int .i64 0, .str [], .int .i64 0, .bool false, .int .i64 0, .str [], .nilSlc, .nilSlc] 8 fun v10 h => storeNK h 8 v10 v9 fun h => loadGK h 8 v10 fun v12 => call (.func 151) [v12, x1] h <| pz K fun v13 h => addK x12 (.int .i64 1) fun v14 => B7 x1 x10 x11 v14 h) (K (.tup []) h)
noncomputable def l151_7 (call : CallFn) (n : Nat) : Nat → AV → AV → AV → AV → AHeap → Kont → Bool :=
  @Nat.rec (fun _ => AV → AV → AV → AV → AHeap → Kont → Bool) (fun _ _ _ _ _ _ => false) (fun _ ih x1 x10 x11 x12 h K => b151_7 call n (fun x1 x10 x11 x12 h => ih x1 x10 x11 x12 h K) x1 x10 x11 x12 h K)
noncomputable def s151 (call : CallFn) (n : Nat) (x0 x1 : AV) (h : AHeap) (K : Kont) : Bool :=
  optPK (boxA h (none) 8 x0) fun v1 h => loadGK h 8 v1 fun v2 => callV call x1 [v2] h <| pz K fun v3 h => fadrK 7 v1 fun v4 => loadK h v4 fun v5 => lenK v5 fun v6 => l151_7 call n n x1 v5 v6 (.int .i64 0) h K

/-! ### 152 (proctor/check.scope).expr$1 -/
noncomputable def p152_5001 (call : CallFn) (n : Nat) (x10 x14 : AV) (h : AHeap) (K : Kont) : Bool :=
  pickK x10 (.bool true) x14 fun v13 => call (.func 104) [v13] h <| pz K fun v14 h => K (.tup []) h
noncomputable def s152 (call : CallFn) (n : Nat) (x0 x1 : AV) (h : AHeap) (K : Kont) : Bool :=
  optPK (boxA h (none) 8 x0) fun v1 h => fadrK 0 v1 fun v2 => loadK h v2 fun v3 => neqK v3 (.int .i64 3) fun v4 => call (.func 104) [v4] h <| pz K fun v5 h => fadrK 0 v1 fun v6 => loadK h v6 fun v7 => neqK v7 (.int .i64 2) fun v8 => gK v8 false (loadK h x1) fun v9 => gK v8 false (fadrK 1 v1) fun v10 => gK v8 false (loadK h v10) fun v11 => gP v8 false (fun k => call (.func 37) [v9, v11] h (pz K k)) h fun v12 h => p152_5001 call n v8 v12 h K

/-! ### 153 slices.Index[[]string,string] -/
noncomputable def b153_6 (call : CallFn) (n : Nat) (B6 : F4) (x0 x1 x7 x8 : AV) (h : AHeap) (K : Kont) : Bool :=
  lssK x8 x7 fun v2 => condK v2 (iadrK h 1 x0 x8 fun v3 => loadK h v3 fun v4 => eqlK x1 v4 fun v5 => condK v5 (K x8 h) (addK x8 (.int .i64 1) fun v6 => B6 x0 x1 x7 v6 h)) (K (.int .i64 (-1)) h)
noncomputable def l153_6 (call : CallFn) (n : Nat) : Nat → AV → AV → AV → AV → AHeap → Kont → Bool :=
  @Nat.rec (fun _ => AV → AV → AV → AV → AHeap → Kont → Bool) (fun _ _ _ _ _ _ => false) (fun _ ih x0 x1 x7 x8 h K => b153_6 call n (fun x0 x1 x7 x8 h => ih x0 x1 x7 x8 h K) x0 x1 x7 x8 h K)
noncomputable def s153 (call : CallFn) (n : Nat) (x0 x1 : AV) (h : AHeap) (K : Kont) : Bool :=
  lenK x0 fun v1 => l153_6 call n n x0 x1 v1 (.int .i64 0) h K

/-! ### 154 slices.IndexFunc[[][]proctor/api.Cond,[]proctor/api.Cond] -/
noncomputable def b154_6 (call : CallFn) (n : Nat) (B6 : F4) (x0 x1 x7 x8 : AV) (h : AHeap) (K : Kont) : Bool :=
  lssK x8 x7 fun v2 => condK v2 (iadrK h 1 x0 x8 fun v3 => loadK h v3 fun v4 => callV call x1 [v4] h <| pz K fun v5 h => condK v5 (K x8 h) (addK x8 (.int .i64 1) fun v6 => B6 x0 x1 x7 v6 h)) (K (.int .i64 (-1)) h)
noncomputable def l154_6 (call : CallFn) (n : Nat) : Nat → AV → AV → AV → AV → AHeap → Kont → Bool :=
  @Nat.rec (fun _ => AV → AV → AV → AV → AHeap → Kont → Bool) (fun _ _ _ _ _ _ => false) (fun _ ih x0 x1 x7 x8 h K => b154_6 call n (fun x0 x1 x7 x8 h => ih x0 x1 x7 x8 h K) x0 x1 x7 x8 h K)
noncomputable def s154 (call : CallFn) (n : Nat) (x0 x1 : AV) (h : AHeap) (K : Kont) : Bool :=
  lenK x0 fun v1 => l154_6 call n n x0 x1 v1 (.int .i64 0) h K

/-! ### 155 slices.ContainsFunc[[]proctor/api.Bind,proctor/api.Bind] -/
noncomputable def p155_4001 (call : CallFn) (n : Nat) (x7 : AV) (h : AHeap) (K : Kont) : Bool :=
  geqK x7 (.int .i64 0) fun v2 => K v2 h
noncomputable def s155 (call : CallFn) (n : Nat) (x0 x1 : AV) (h : AHeap) (K : Kont) : Bool :=
  call (.func 197) [x0, x1] h <| pz K fun v1 h => p155_4001 call n v1 h K

/-! ### 156 proctor/check.has$1 -/
noncomputable def s156 (call : CallFn) (n : Nat) (x0 x1 : AV) (h : AHeap) (K : Kont) : Bool :=
  optPK (boxA h (none) 2 x0) fun v1 h => fadrK 0 v1 fun v2 => loadK h v2 fun v3 => loadK h x1 fun v4 => eqlK v3 v4 fun v5 => K v5 h

/-! ### 157 slices.ContainsFunc[[]proctor/api.Arg,proctor/api.Arg] -/
noncomputable def p157_4001 (call : CallFn) (n : Nat) (x7 : AV) (h : AHeap) (K : Kont) : Bool :=
  geqK x7 (.int .i64 0) fun v2 => K v2 h
noncomputable def s157 (call : CallFn) (n : Nat) (x0 x1 : AV) (h : AHeap) (K : Kont) : Bool :=
  call (.func 198) [x0, x1] h <| pz K fun v1 h => p157_4001 call n v1 h K

/-! ### 159 proctor/check.exprs -/
noncomputable def p159_76 (call : CallFn) (n : Nat) (B9 : F5) (x1 x2 x16 x17 x18 : AV) (h : AHeap) (K : Kont) : Bool :=
  addK x18 (.int .i64 1) fun v51 => B9 x1 x2 x16 x17 v51 h
noncomputable def b159_63 (call : CallFn) (n : Nat) (B9 : F5) (B63 : F8) (x1 x2 x16 x17 x18 x62 x63 x64 : AV) (h : AHeap) (K : Kont) : Bool :=
  lssK x64 x63 fun v45 => condK v45 (iadrK h 1 x62 x64 fun v46 => loadK h v46 fun v47 => addK x1 (.int .i64 1) fun v48 => call (.func 159) [v47, v48, x2] h <| pz K fun v49 h => addK x64 (.int .i64 1) fun v50 => B63 x1 x2 x16 x17 x18 x62 x63 v50 h) (p159_76 call n B9 x1 x2 x16 x17 x18 h K)
noncomputable def l159_63 (call : CallFn) (n : Nat) (B9 : F5) : Nat → AV → AV → AV → AV → AV → AV → AV → AV → AHeap → Kont → Bool :=
  @Nat.rec (fun _ => AV → AV → AV → AV → AV → AV → AV → AV → AHeap → Kont → Bool) (fun _ _ _ _ _ _ _ _ _ _ => false) (fun _ ih x1 x2 x16 x17 x18 x62 x63 x64 h K => b159_63 call n B9 (fun x1 x2 x16 x17 x18 x62 x63 x64 h => ih x1 x2 x16 x17 x18 x62 x63 x64 h K) x1 x2 x16 x17 x18 x62 x63 x64 h K)
noncomputable def p159_56 (call : CallFn) (n : Nat) (B9 : F5) (x1 x2 x7 x16 x17 x18 : AV) (h : AHeap) (K : Kont) : Bool :=
  fadrK 5 x7 fun v34 => loadK h v34 fun v35 => addK x1 (.int .i64 1) fun v36 => call (.func 159) [v35, v36, x2] h <| pz K fun v37 h => fadrK 6 x7 fun v38 => loadK h v38 fun v39 => addK x1 (.int .i64 1) fun v40 => call (.func 159) [v39, v40, x2] h <| pz K fun v41 h => fadrK 7 x7 fun v42 => loadK h v42 fun v43 => lenK v43 fun v44 => l159_63 call n B9 n x1 x2 x16 x17 x18 v43 v44 (.int .i64 0) h K
noncomputable def b159_43 (call : CallFn) (n : Nat) (B9 : F5) (B43 : F9) (x1 x2 x7 x16 x17 x18 x38 x39 x40 : AV) (h : AHeap) (K : Kont) : Bool :=
  lssK x40 x39 fun v25 => condK v25 (iadrK h 9 x38 x40 fun v26 => loadGK h 9 v26 fun v27 => allocK h [.str [], .int .i64 0, .str [], .int .i64 0, .bool false, .int .i64 0, .str [], .nilSlc, .nilSlc] 9 fun v28 h => storeNK h 9 v28 v27 fun h => fadrK 1 v28 fun v30 => loadGK h 8 v30 fun v31 => call (.func 151) [v31, x2] h <| pz K fun v32 h => addK x40 (.int .i64 1) fun v33 => B43 x1 x2 x7 x16 x17 x18 x38 x39 v33 h) (p159_56 call n B9 x1 x2 x7 x16 x17 x18 h K)
noncomputable def l159_43 (call : CallFn) (n : Nat) (B9 : F5) : Nat → AV → AV → AV → AV → AV → AV → AV → AV → AV → AHeap → Kont → Bool :=
  @Nat.rec (fun _ => AV → AV → AV → AV → AV → AV → AV → AV → AV → AHeap → Kont → Bool) (fun _ _ _ _ _ _ _ _ _ _ _ => false) (fun _ ih x1 x2 x7 x16 x17 x18 x38 x39 x40 h K => b159_43 call n B9 (fun x1 x2 x7 x16 x17 x18 x38 x39 x40 h => ih x1 x2 x7 x16 x17 x18 x38 x39 x40 h K) x1 x2 x7 x16 x17 x18 x38 x39 x40 h K)
noncomputable def p159_37 (call : CallFn) (n : Nat) (B9 : F5) (x1 x2 x7 x16 x17 x18 : AV) (h : AHeap) (K : Kont) : Bool :=
  fadrK 8 x7 fun v19 => loadGK h 8 v19 fun v20 => call (.func 151) [v20, x2] h <| pz K fun v21 h => fadrK 18 x7 fun v22 => loadK h v22 fun v23 => lenK v23 fun v24 => l159_43 call n B9 n x1 x2 x7 x16 x17 x18 v23 v24 (.int .i64 0) h K
noncomputable def b159_24 (call : CallFn) (n : Nat) (B9 : F5) (B24 : F9) (x1 x2 x7 x16 x17 x18 x23 x24 x25 : AV) (h : AHeap) (K : Kont) : Bool :=
  lssK x25 x24 fun v11 => condK v11 (iadrK h 8 x23 x25 fun v12 => loadGK h 8 v12 fun v13 => allocK h [.int .i64 0, .str [], .int .i64 0, .bool false, .int .i64 0, .str [], .nilSlc, .nilSlc] 8 fun v14 h => storeNK h 8 v14 v13 fun h => loadGK h 8 v14 fun v16 => call (.func 151) [v16, x2] h <| pz K fun v17 h => addK x25 (.int .i64 1) fun v18 => B24 x1 x2 x7 x16 x17 x18 x23 x24 v18 h) (p159_37 call n B9 x1 x2 x7 x16 x17 x18 h K)
noncomputable def l159_24 (call : CallFn) (n : Nat) (B9 : F5) : Nat → AV → AV → AV → AV → AV → AV → AV → AV → AV → AHeap → Kont → Bool :=
  @Nat.rec (fun _ => AV → AV → AV → AV → AV → AV → AV → AV → AV → AHeap → Kont → Bool) (fun _ _ _ _ _ _ _ _ _ _ _ => false) (fun _ ih x1 x2 x7 x16 x17 x18 x23 x24 x25 h K => b159_24 call n B9 (fun x1 x2 x7 x16 x17 x18 x23 x24 x25 h => ih x1 x2 x7 x16 x17 x18 x23 x24 x25 h K) x1 x2 x7 x16 x17 x18 x23 x24 x25 h K)
noncomputable def p159_16 (call : CallFn) (n : Nat) (B9 : F5) (x1 x2 x16 x17 x18 : AV) (h : AHeap) (K : Kont) : Bool :=
  iadrK h 19 x16 x18 fun v4 => loadGK h 19 v4 fun v5 => allocK h [.int .i64 0, .str [], .str [], .nilSlc, .nilSlc, .nilSlc, .nilSlc, .nilSlc, .int .i64 0, .str [], .int .i64 0, .bool false, .int .i64 0, .str [], .nilSlc, .nilSlc, .str [], .str [], .nilSlc] 19 fun v6 h => storeNK h 19 v6 v5 fun h => fadrK 4 v6 fun v8 => loadK h v8 fun v9 => lenK v9 fun v10 => l159_24 call n B9 n x1 x2 v6 x16 x17 x18 v9 v10 (.int .i64 0) h K
noncomputable def b159_9 (call : CallFn) (n : Nat) (B9 : F5) (x1 x2 x16 x17 x18 : AV) (h : AHeap) (K : Kont) : Bool :=
  lssK x18 x17 fun v3 => condK v3 (p159_16 call n B9 x1 x2 x16 x17 x18 h K) (K (.tup []) h)
noncomputable def l159_9 (call : CallFn) (n : Nat) : Nat → AV → AV → AV → AV → AV → AHeap → Kont → Bool :=
  @Nat.rec (fun _ => AV → AV → AV → AV → AV → AHeap → Kont → Bool) (fun _ _ _ _ _ _ _ => false) (fun _ ih x1 x2 x16 x17 x18 h K => b159_9 call n (fun x1 x2 x16 x17 x18 h => ih x1 x2 x16 x17 x18 h K) x1 x2 x16 x17 x18 h K)
noncomputable def p159_6 (call : CallFn) (n : Nat) (x0 x1 x2 : AV) (h : AHeap) (K : Kont) : Bool :=
  lenK x0 fun v2 => l159_9 call n n x1 x2 x0 v2 (.int .i64 0) h K
noncomputable def s159 (call : CallFn) (n : Nat) (x0 x1 x2 : AV) (h : AHeap) (K : Kont) : Bool :=
  gtrK x1 (.int .i64 30) fun v1 => condK v1 (K (.tup []) h) (p159_6 call n x0 x1 x2 h K)

/-! ### 160 proctor/check.has$3 -/
noncomputable def s160 (call : CallFn) (n : Nat) (x0 x1 x2 : AV) (h : AHeap) (K : Kont) : Bool :=
  optPK (boxA h (none) 8 x0) fun v1 h => loadK h x1 fun v2 => gK v2 false (fadrK 0 v1) fun v3 => gK v2 false (loadK h v3) fun v4 => gK v2 false (eqlK v4 (.int .i64 2)) fun v5 => gK v2 false (optK (some v5)) fun v6 => gK v6 true (fadrK 1 v1) fun v7 => gK v6 true (loadK h v7) fun v8 => gK v6 true (loadK h x2) fun v9 => gK v6 true (eqlK v8 v9) fun v10 => gK v2 false (pickK v6 v10 (.bool false)) fun v11 => pickK v2 (.bool true) v11 fun v12 => storeK h x1 v12 fun h => K (.tup []) h

/-! ### 161 proctor/check.has$4 -/
noncomputable def s161 (call : CallFn) (n : Nat) (x0 x1 : AV) (h : AHeap) (K : Kont) : Bool :=
  optK (some (.fn (.func 163) [] [x1])) fun v1 => call (.func 162) [x0, v1] h <| pz K fun v2 h => K v2 h

/-! ### 162 slices.ContainsFunc[[]proctor/api.Cond,proctor/api.Cond] -/
noncomputable def p162_4001 (call : CallFn) (n : Nat) (x7 : AV) (h : AHeap) (K : Kont) : Bool :=
  geqK x7 (.int .i64 0) fun v2 => K v2 h
noncomputable def s162 (call : CallFn) (n : Nat) (x0 x1 : AV) (h : AHeap) (K : Kont) : Bool :=
  call (.func 199) [x0, x1] h <| pz K fun v1 h => p162_4001 call n v1 h K

/-! ### 163 proctor/check.has$4$1 -/
noncomputable def s163 (call : CallFn) (n : Nat) (x0 x1 : AV) (h : AHeap) (K : Kont) : Bool :=
  optPK (boxA h (none) 19 x0) fun v1 h => loadGK h 19 v1 fun v2 => loadK h x1 fun v3 => call (.func 113) [v2, v3] h <| pz K fun v4 h => K v4 h

/-! ### 164 proctor/check.sum -/
noncomputable def b164_8 (call : CallFn) (n : Nat) (B8 : F4) (x3 x6 x7 x8 : AV) (h : AHeap) (K : Kont) : Bool :=
  lssK x8 x7 fun v2 => condK v2 (iadrK h 1 x6 x8 fun v3 => loadK h v3 fun v4 => addK (.int .i64 1) v4 fun v5 => addK x3 v5 fun v6 => addK x8 (.int .i64 1) fun v7 => B8 v6 x6 x7 v7 h) (K x3 h)
noncomputable def l164_8 (call : CallFn) (n : Nat) : Nat → AV → AV → AV → AV → AHeap → Kont → Bool :=
  @Nat.rec (fun _ => AV → AV → AV → AV → AHeap → Kont → Bool) (fun _ _ _ _ _ _ => false) (fun _ ih x3 x6 x7 x8 h K => b164_8 call n (fun x3 x6 x7 x8 h => ih x3 x6 x7 x8 h K) x3 x6 x7 x8 h K)
noncomputable def s164 (call : CallFn) (n : Nat) (x0 : AV) (h : AHeap) (K : Kont) : Bool :=
  lenK x0 fun v1 => l164_8 call n n (.int .i64 0) x0 v1 (.int .i64 0) h K

/-! ### 165 slices.DeleteFunc[[]string,string] -/
noncomputable def p165_34 (call : CallFn) (n : Nat) (B16 : F4) (x0 x1 x5 x6 : AV) (h : AHeap) (K : Kont) : Bool :=
  addK x6 (.int .i64 1) fun v13 => B16 x0 x1 x5 v13 h
noncomputable def p165_29001 (call : CallFn) (n : Nat) (B16 : F4) (x0 x1 x5 x6 x7 x28 : AV) (h : AHeap) (K : Kont) : Bool :=
  notK x28 fun v9 => condK v9 (iadrK h 1 x0 x5 fun v10 => storeK h v10 x7 fun h => addK x5 (.int .i64 1) fun v12 => p165_34 call n B16 x0 x1 v12 x6 h K) (p165_34 call n B16 x0 x1 x5 x6 h K)
noncomputable def p165_35 (call : CallFn) (n : Nat) (x0 x5 : AV) (h : AHeap) (K : Kont) : Bool :=
  optK (sliceV h 1 x0 (some x5) none none) fun v14 => optPK (unit (clrA h 1 [.str []] v14)) fun _ h => optK (sliceV h 1 x0 none (some x5) none) fun v16 => K v16 h
noncomputable def b165_16 (call : CallFn) (n : Nat) (B16 : F4) (x0 x1 x5 x6 : AV) (h : AHeap) (K : Kont) : Bool :=
  lenK x0 fun v4 => lssK x6 v4 fun v5 => condK v5 (iadrK h 1 x0 x6 fun v6 => loadK h v6 fun v7 => callV call x1 [v7] h <| pz K fun v8 h => p165_29001 call n B16 x0 x1 x5 x6 v7 v8 h K) (p165_35 call n x0 x5 h K)
noncomputable def l165_16 (call : CallFn) (n : Nat) : Nat → AV → AV → AV → AV → AHeap → Kont → Bool :=
  @Nat.rec (fun _ => AV → AV → AV → AV → AHeap → Kont → Bool) (fun _ _ _ _ _ _ => false) (fun _ ih x0 x1 x5 x6 h K => b165_16 call n (fun x0 x1 x5 x6 h => ih x0 x1 x5 x6 h K) x0 x1 x5 x6 h K)
noncomputable def p165_12 (call : CallFn) (n : Nat) (x0 x1 x5 : AV) (h : AHeap) (K : Kont) : Bool :=
  addK x5 (.int .i64 1) fun v3 => l165_16 call n n x0 x1 x5 v3 h K
noncomputable def s165 (call : CallFn) (n : Nat) (x0 x1 : AV) (h : AHeap) (K : Kont) : Bool :=
  call (.func 200) [x0, x1] h <| pz K fun v1 h => eqlK v1 (.int .i64 (-1)) fun v2 => condK v2 (K x0 h) (p165_12 call n x0 x1 v1 h K)

/-! ### 166 proctor/check.common$1 -/
noncomputable def p166_4001 (call : CallFn) (n : Nat) (x6 : AV) (h : AHeap) (K : Kont) : Bool :=
  notK x6 fun v3 => K v3 h
noncomputable def s166 (call : CallFn) (n : Nat) (x0 x1 : AV) (h : AHeap) (K : Kont) : Bool :=
  loadK h x1 fun v1 => call (.func 110) [v1, x0] h <| pz K fun v2 h => p166_4001 call n v2 h K

end Go.Proofs.YtnapiobolehfhaaGreatDoor
