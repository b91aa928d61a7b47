/-
  The functions as functions of Lean (printed by wip/tools/gen2.py).
-/
import Derived.Test.YtgdccjbnakolmaaGreatDoorAbDn
namespace Go.Proofs.YtgdccjbnakolmaaGreatDoor
open Go.Ab
set_option linter.unusedVariables false

/-! ### 4 proctor/parse.Parse -/
noncomputable def p4_6001 (call : CallFn) (n : Nat) (x2 x5 x11 : AV) (h : AHeap) (K : Kont) : Bool :=
  extK 0 x11 fun v5 => extK 1 x11 fun v6 => neqK v6 (.int .i64 0) fun v7 => condK v7 (buildK [.nilSlc, .nilSlc, .nilSlc] [] fun v8 => storeNK h 3 x2 v8 fun h => optR (resV h [(x2, some (true, 3)), (v5, none), (v6, none)]) h K) (loadGK h 3 x5 fun v10 => storeNK h 3 x2 v10 fun h => optR (resV h [(x2, some (true, 3)), ((.int .i64 0), none), ((.int .i64 0), none)]) h K)
noncomputable def s4 (call : CallFn) (n : Nat) (x0 : AV) (h : AHeap) (K : Kont) : Bool :=
  allocK h [.nilSlc, .nilSlc, .nilSlc] 3 fun v1 h => allocK h [.nilSlc, .nilSlc, .nilSlc] 3 fun v2 h => optK (some (.fn (.func 10) [] [v2])) fun v3 => call (.func 9) [x0, v3] h <| pz K fun v4 h => p4_6001 call n v1 v2 v4 h K

/-! ### 5 proctor/strat.Check -/
noncomputable def p5_4001 (call : CallFn) (n : Nat) (x7 : AV) (h : AHeap) (K : Kont) : Bool :=
  extK 0 x7 fun v4 => extK 1 x7 fun v5 => K v5 h
noncomputable def s5 (call : CallFn) (n : Nat) (x0 : AV) (h : AHeap) (K : Kont) : Bool :=
  optPK (boxA h (none) 3 x0) fun v1 h => loadGK h 3 v1 fun v2 => call (.func 7) [v2] h <| pz K fun v3 h => p5_4001 call n v3 h K

/-! ### 6 proctor/proctorlaw8.parsed -/
noncomputable def p6_4001 (call : CallFn) (n : Nat) (x2 x8 : AV) (h : AHeap) (K : Kont) : Bool :=
  extK 0 x8 fun v3 => extK 1 x8 fun v4 => extK 2 x8 fun v5 => allocK h [.nilSlc, .nilSlc, .nilSlc] 3 fun v6 h => storeNK h 3 v6 v3 fun h => loadGK h 3 v6 fun v8 => storeNK h 3 x2 v8 fun h => optR (resV h [(x2, some (true, 3))]) h K
noncomputable def s6 (call : CallFn) (n : Nat) (x0 : AV) (h : AHeap) (K : Kont) : Bool :=
  allocK h [.nilSlc, .nilSlc, .nilSlc] 3 fun v1 h => call (.func 4) [x0] h <| pz K fun v2 h => p6_4001 call n v1 v2 h K

/-! ### 7 proctor/strat.Strata -/
noncomputable def p7_51 (call : CallFn) (n : Nat) (B28 : F5) (x6 x8 x28 x29 x30 : AV) (h : AHeap) (K : Kont) : Bool :=
  addK x30 (.int .i64 1) fun v41 => B28 x6 x8 x28 x29 v41 h
noncomputable def p7_50 (call : CallFn) (n : Nat) (B28 : F5) (x6 x8 x10 x28 x29 x30 : AV) (h : AHeap) (K : Kont) : Bool :=
  fadrK 0 x10 fun v27 => loadK h v27 fun v28 => optK (lookA h (.leaf .str) false (.int .i64 0) x6 v28) fun v29 => fadrK 0 x10 fun v30 => loadK h v30 fun v31 => optK (lookA h (.leaf .str) false (.int .i64 0) x6 v31) fun v32 => iadrK h 1 x8 v32 fun v33 => loadK h v33 fun v34 => fadrK 0 x10 fun v35 => loadK h v35 fun v36 => optPK (bsliceV h 1 1 [.str []] [(0, v36)]) fun v37 h => loadK h v27 <| sameK v28 <| optK (lookA h (.leaf .str) false (.int .i64 0) x6 v28) <| sameK v29 <| loadK h v30 <| sameK v31 <| optK (lookA h (.leaf .str) false (.int .i64 0) x6 v31) <| sameK v32 <| iadrK h 1 x8 v32 <| sameK v33 <| loadK h v33 <| sameK v34 <| loadK h v35 <| sameK v36 <| appK h 1 16 v34 v37 fun v38 h => loadK h v27 <| sameK v28 <| optK (lookA h (.leaf .str) false (.int .i64 0) x6 v28) <| sameK v29 <| iadrK h 1 x8 v29 fun v39 => storeK h v39 v38 fun h => p7_51 call n B28 x6 x8 x28 x29 x30 h K
noncomputable def b7_41 (call : CallFn) (n : Nat) (B28 : F5) (B41 : F6) (x6 x8 x10 x28 x29 x30 : AV) (h : AHeap) (K : Kont) : Bool :=
  lenK x8 fun v20 => fadrK 0 x10 fun v21 => loadK h v21 fun v22 => optK (lookA h (.leaf .str) false (.int .i64 0) x6 v22) fun v23 => leqK v20 v23 fun v24 => condK v24 (optPK (bsliceV h 1 1 [.nilSlc] [(0, .nilSlc)]) fun v25 h => appK h 1 24 x8 v25 fun v26 h => B41 x6 v26 x10 x28 x29 x30 h) (p7_50 call n B28 x6 x8 x10 x28 x29 x30 h K)
noncomputable def l7_41 (call : CallFn) (n : Nat) (B28 : F5) : Nat → AV → AV → AV → AV → AV → AV → AHeap → Kont → Bool :=
  @Nat.rec (fun _ => AV → AV → AV → AV → AV → AV → AHeap → Kont → Bool) (fun _ _ _ _ _ _ _ _ => false) (fun _ ih x6 x8 x10 x28 x29 x30 h K => b7_41 call n B28 (fun x6 x8 x10 x28 x29 x30 h => ih x6 x8 x10 x28 x29 x30 h K) x6 x8 x10 x28 x29 x30 h K)
noncomputable def p7_35 (call : CallFn) (n : Nat) (B28 : F5) (x6 x8 x28 x29 x30 : AV) (h : AHeap) (K : Kont) : Bool :=
  iadrK h 3 x28 x30 fun v16 => loadGK h 3 v16 fun v17 => allocK h [.str [], .str [], .nilSlc] 3 fun v18 h => storeNK h 3 v18 v17 fun h => l7_41 call n B28 n x6 x8 v18 x28 x29 x30 h K
noncomputable def p7_52 (call : CallFn) (n : Nat) (x8 : AV) (h : AHeap) (K : Kont) : Bool :=
  call (.func 14) [x8, (.fn (.func 15) [] [])] h <| pz K fun v42 h => K (.tup [v42, (.int .i64 0)]) h
noncomputable def b7_28 (call : CallFn) (n : Nat) (B28 : F5) (x6 x8 x28 x29 x30 : AV) (h : AHeap) (K : Kont) : Bool :=
  lssK x30 x29 fun v15 => condK v15 (p7_35 call n B28 x6 x8 x28 x29 x30 h K) (p7_52 call n x8 h K)
noncomputable def l7_28 (call : CallFn) (n : Nat) : Nat → AV → AV → AV → AV → AV → AHeap → Kont → Bool :=
  @Nat.rec (fun _ => AV → AV → AV → AV → AV → AHeap → Kont → Bool) (fun _ _ _ _ _ _ _ => false) (fun _ ih x6 x8 x28 x29 x30 h K => b7_28 call n (fun x6 x8 x28 x29 x30 h => ih x6 x8 x28 x29 x30 h K) x6 x8 x28 x29 x30 h K)
noncomputable def p7_22 (call : CallFn) (n : Nat) (x1 x6 : AV) (h : AHeap) (K : Kont) : Bool :=
  fadrK 0 x1 fun v12 => loadK h v12 fun v13 => lenK v13 fun v14 => l7_28 call n n x6 .nilSlc v13 v14 (.int .i64 0) h K
noncomputable def p7_14001 (call : CallFn) (n : Nat) (x1 x22 : AV) (h : AHeap) (K : Kont) : Bool :=
  extK 0 x22 fun v9 => extK 1 x22 fun v10 => notK v10 fun v11 => condK v11 (K (.tup [.nilSlc, (.int .i64 23)]) h) (p7_22 call n x1 v9 h K)
noncomputable def p7_12 (call : CallFn) (n : Nat) (x1 x4 : AV) (h : AHeap) (K : Kont) : Bool :=
  loadGK h 3 x1 fun v7 => call (.func 13) [v7, x4] h <| pz K fun v8 h => p7_14001 call n x1 v8 h K
noncomputable def p7_4001 (call : CallFn) (n : Nat) (x1 x13 : AV) (h : AHeap) (K : Kont) : Bool :=
  extK 0 x13 fun v4 => extK 1 x13 fun v5 => neqK v5 (.int .i64 0) fun v6 => condK v6 (K (.tup [.nilSlc, v5]) h) (p7_12 call n x1 v4 h K)
noncomputable def s7 (call : CallFn) (n : Nat) (x0 : AV) (h : AHeap) (K : Kont) : Bool :=
  optPK (boxA h (none) 3 x0) fun v1 h => loadGK h 3 v1 fun v2 => call (.func 12) [v2] h <| pz K fun v3 h => p7_4001 call n v1 v3 h K

/-! ### 8 proctor/proctorlaw8.wakes -/
noncomputable def p8_10002 (call : CallFn) (n : Nat) (x2 x3 x18 : AV) (h : AHeap) (K : Kont) : Bool :=
  extK 0 x18 fun v10 => extK 1 x18 fun v11 => eqlK x2 (.int .i64 23) fun v12 => gK v12 true (optK (some x3)) fun v13 => gK v12 true (eqlK v13 (.int .i64 0)) fun v14 => pickK v12 v14 (.bool false) fun v15 => gK v15 true (optK (some v11)) fun v16 => gK v15 true (eqlK v16 (.int .i64 0)) fun v17 => pickK v15 v17 (.bool false) fun v18 => gK v18 true (optK (some v10)) fun v19 => gK v18 true (lenK v19) fun v20 => gK v18 true (eqlK v20 (.int .i64 1)) fun v21 => pickK v18 v21 (.bool false) fun v22 => gK v22 true (optK (some v10)) fun v23 => gK v22 true (iadrK h 3 v23 (.int .i64 0)) fun v24 => gK v22 true (fadrK 0 v24) fun v25 => gK v22 true (loadK h v25) fun v26 => gK v22 true (eqlK v26 (.str [66])) fun v27 => pickK v22 v27 (.bool false) fun v28 => gK v28 true (optK (some v10)) fun v29 => gK v28 true (iadrK h 3 v29 (.int .i64 0)) fun v30 => gK v28 true (fadrK 1 v30) fun v31 => gK v28 true (loadK h v31) fun v32 => gK v28 true (eqlK v32 (.str [65])) fun v33 => pickK v28 v33 (.bool false) fun v34 => gK v34 true (optK (some v10)) fun v35 => gK v34 true (iadrK h 3 v35 (.int .i64 0)) fun v36 => gK v34 true (fadrK 2 v36) fun v37 => gK v34 true (loadK h v37) fun v38 => gK v34 true (notK v38) fun v39 => pickK v34 v39 (.bool false) fun v40 => K v40 h
noncomputable def p8_10001 (call : CallFn) (n : Nat) (x2 x3 x17 : AV) (h : AHeap) (K : Kont) : Bool :=
  call (.func 12) [x17] h <| pz K fun v9 h => p8_10002 call n x2 x3 v9 h K
noncomputable def p8_8001 (call : CallFn) (n : Nat) (x1 x2 x12 : AV) (h : AHeap) (K : Kont) : Bool :=
  call (.func 5) [x12] h <| pz K fun v6 h => addK x1 (.str [114, 117, 108, 101, 32, 34, 114, 34, 32, 119, 104, 101, 110, 32, 66, 40, 41, 32, 116, 104, 101, 110, 32, 108, 111, 103, 105, 99, 97, 108, 32, 65, 32, 123, 32, 125, 59, 32, 101, 110, 100]) fun v7 => call (.func 6) [v7] h <| pz K fun v8 h => p8_10001 call n x2 v6 v8 h K
noncomputable def p8_6001 (call : CallFn) (n : Nat) (x1 x8 : AV) (h : AHeap) (K : Kont) : Bool :=
  call (.func 5) [x8] h <| pz K fun v3 h => addK x1 (.str [114, 117, 108, 101, 32, 34, 114, 34, 32, 119, 104, 101, 110, 32, 66, 40, 41, 32, 116, 104, 101, 110, 32, 108, 111, 103, 105, 99, 97, 108, 32, 65, 32, 123, 32, 125, 59, 32, 101, 110, 100]) fun v4 => call (.func 6) [v4] h <| pz K fun v5 h => p8_8001 call n x1 v3 v5 h K
noncomputable def s8 (call : CallFn) (n : Nat) (h : AHeap) (K : Kont) : Bool :=
  addK (.str [99, 108, 97, 115, 115, 32, 65, 32, 123, 32, 125, 32, 99, 108, 97, 115, 115, 32, 66, 32, 123, 32, 125, 32]) (.str [114, 117, 108, 101, 32, 34, 114, 34, 32, 119, 104, 101, 110, 32, 110, 111, 116, 32, 40, 66, 40, 41, 41, 32, 116, 104, 101, 110, 32, 108, 111, 103, 105, 99, 97, 108, 32, 65, 32, 123, 32, 125, 59, 32, 101, 110, 100, 32, 114, 117, 108, 101, 32, 34, 115, 34, 32, 119, 104, 101, 110, 32, 65, 40, 41, 32, 116, 104, 101, 110, 32, 108, 111, 103, 105, 99, 97, 108, 32, 66, 32, 123, 32, 125, 59, 32, 101, 110, 100]) fun v1 => call (.func 6) [v1] h <| pz K fun v2 h => p8_6001 call n (.str [99, 108, 97, 115, 115, 32, 65, 32, 123, 32, 125, 32, 99, 108, 97, 115, 115, 32, 66, 32, 123, 32, 125, 32]) v2 h K

/-! ### 9 proctor/parse.caught -/
noncomputable def p9_14001 (call : CallFn) (n : Nat) (x21 : AV) (h : AHeap) (K : Kont) : Bool :=
  extK 0 x21 fun v8 => extK 1 x21 fun v9 => K (.tup [v8, v9]) h
noncomputable def p9_4001 (call : CallFn) (n : Nat) (x0 x1 x9 : AV) (h : AHeap) (K : Kont) : Bool :=
  extK 0 x9 fun v2 => extK 1 x9 fun v3 => extK 2 x9 fun v4 => neqK v4 (.int .i64 0) fun v5 => condK v5 (K (.tup [v3, v4]) h) (lenSK x0 fun v6 => call (.func 17) [v2, v6, x1] h <| pz K fun v7 h => p9_14001 call n v7 h K)
noncomputable def s9 (call : CallFn) (n : Nat) (x0 x1 : AV) (h : AHeap) (K : Kont) : Bool :=
  call (.func 16) [x0] h <| pz K fun v1 h => p9_4001 call n x0 x1 v1 h K

/-! ### 10 proctor/parse.Parse$1 -/
noncomputable def p10_1001 (call : CallFn) (n : Nat) (x1 x4 : AV) (h : AHeap) (K : Kont) : Bool :=
  storeNK h 3 x1 x4 fun h => K (.tup []) h
noncomputable def s10 (call : CallFn) (n : Nat) (x0 x1 : AV) (h : AHeap) (K : Kont) : Bool :=
  call (.func 11) [x0] h <| pz K fun v1 h => p10_1001 call n x1 v1 h K

/-! ### 11 (*proctor/parse.parser).base -/
noncomputable def p11_26 (call : CallFn) (n : Nat) (x2 x3 : AV) (h : AHeap) (K : Kont) : Bool :=
  loadGK h 3 x3 fun v36 => storeNK h 3 x2 v36 fun h => optR (resV h [(x2, some (true, 3))]) h K
set_option maxRecDepth 100000 in
noncomputable def b11_6 (call : CallFn) (n : Nat) (B6 : F3) (x0 x2 x3 : AV) (h : AHeap) (K : Kont) : Bool :=
  nilckK x0 fun v3 => fadrK 1 v3 fun v4 => loadK h v4 fun v5 => nilckK x0 fun v6 => fadrK 0 v6 fun v7 => loadK h v7 fun v8 => lenK v8 fun v9 => lssK v5 v9 fun v10 => condK v10 (call (.func 18) [x0, (.str [99, 108, 97, 115, 115])] h <| pz K fun v11 h => condK v11 (fadrK 0 x3 fun v12 => loadK h v12 fun v13 => call (.func 19) [x0] h <| pz K fun v14 h => loadK h v12 <| sameK v13 <| optPK (bsliceV h 1 3 [.str [], .str [], .nilSlc] [(0, v14)]) fun v15 h => loadK h v12 <| sameK v13 <| appK h 3 56 v13 v15 fun v16 h => fadrK 0 x3 fun v17 => storeK h v17 v16 fun h => B6 x0 x2 x3 h) (call (.func 18) [x0, (.str [114, 117, 108, 101])] h <| pz K fun v19 h => condK v19 (fadrK 1 x3 fun v20 => loadK h v20 fun v21 => call (.func 20) [x0] h <| pz K fun v22 h => loadK h v20 <| sameK v21 <| optPK (bsliceV h 1 8 [.str [], .int .i64 0, .str [], .str [], .bool false, .bool false, .nilSlc, .nilSlc] [(0, v22)]) fun v23 h => loadK h v20 <| sameK v21 <| appK h 8 112 v21 v23 fun v24 h => fadrK 1 x3 fun v25 => storeK h v25 v24 fun h => B6 x0 x2 x3 h) (optPK (bsliceV h 1 1 [.str []] [(0, (.str [113, 117, 101, 114, 121]))]) fun v27 h => call (.func 21) [x0, v27] h <| pz K fun v28 h => fadrK 2 x3 fun v29 => loadK h v29 fun v30 => call (.func 22) [x0] h <| pz K fun v31 h => loadK h v29 <| sameK v30 <| optPK (bsliceV h 1 3 [.str [], .nilSlc, .nilSlc] [(0, v31)]) fun v32 h => loadK h v29 <| sameK v30 <| appK h 3 64 v30 v32 fun v33 h => fadrK 2 x3 fun v34 => storeK h v34 v33 fun h => B6 x0 x2 x3 h))) (p11_26 call n x2 x3 h K)
noncomputable def l11_6 (call : CallFn) (n : Nat) : Nat → AV → AV → AV → AHeap → Kont → Bool :=
  @Nat.rec (fun _ => AV → AV → AV → AHeap → Kont → Bool) (fun _ _ _ _ _ => false) (fun _ ih x0 x2 x3 h K => b11_6 call n (fun x0 x2 x3 h => ih x0 x2 x3 h K) x0 x2 x3 h K)
noncomputable def s11 (call : CallFn) (n : Nat) (x0 : AV) (h : AHeap) (K : Kont) : Bool :=
  allocK h [.nilSlc, .nilSlc, .nilSlc] 3 fun v1 h => allocK h [.nilSlc, .nilSlc, .nilSlc] 3 fun v2 h => l11_6 call n n x0 v1 v2 h K

/-! ### 12 proctor/strat.Edges -/
noncomputable def p12_50 (call : CallFn) (n : Nat) (B18 : F5) (B32 : F9) (x1 x6 x8 x25 x26 x27 x32 x33 x34 : AV) (h : AHeap) (K : Kont) : Bool :=
  addK x34 (.int .i64 1) fun v36 => B32 x1 x6 x8 x25 x26 x27 x32 x33 v36 h
noncomputable def p12_51 (call : CallFn) (n : Nat) (B18 : F5) (x1 x6 x25 x26 x27 : AV) (h : AHeap) (K : Kont) : Bool :=
  addK x27 (.int .i64 1) fun v37 => B18 x1 x6 x25 x26 v37 h
noncomputable def b12_32 (call : CallFn) (n : Nat) (B18 : F5) (B32 : F9) (x1 x6 x8 x25 x26 x27 x32 x33 x34 : AV) (h : AHeap) (K : Kont) : Bool :=
  lssK x34 x33 fun v19 => condK v19 (iadrK h 12 x32 x34 fun v20 => loadGK h 12 v20 fun v21 => allocK h [.int .i64 0, .str [], .nilSlc, .int .i64 0, .str [], .int .i64 0, .bool false, .int .i64 0, .str [], .nilSlc, .nilSlc, .str []] 12 fun v22 h => storeNK h 12 v22 v21 fun h => fadrK 0 v22 fun v24 => loadK h v24 fun v25 => eqlK v25 (.int .i64 2) fun v26 => condK v26 (loadGK h 3 x1 fun v27 => fadrK 1 v22 fun v28 => loadK h v28 fun v29 => optPK (mkmapV h) fun v30 h => buildK [.nilSlc, .nilSlc, .nilSlc, .str [], .nilMap, .nilMap] [(0, 3, v27), (3, 1, v29), (4, 1, x6), (5, 1, v30)] fun v31 => optPK (boxA h (none) 6 v31) fun v32 h => fadrK 6 x8 fun v33 => loadK h v33 fun v34 => call (.func 24) [v32, v34, (.bool false)] h <| pz K fun v35 h => p12_50 call n B18 B32 x1 x6 x8 x25 x26 x27 x32 x33 x34 h K) (p12_50 call n B18 B32 x1 x6 x8 x25 x26 x27 x32 x33 x34 h K)) (p12_51 call n B18 x1 x6 x25 x26 x27 h K)
noncomputable def l12_32 (call : CallFn) (n : Nat) (B18 : F5) : Nat → AV → AV → AV → AV → AV → AV → AV → AV → AV → AHeap → Kont → Bool :=
  @Nat.rec (fun _ => AV → AV → AV → AV → AV → AV → AV → AV → AV → AHeap → Kont → Bool) (fun _ _ _ _ _ _ _ _ _ _ _ => false) (fun _ ih x1 x6 x8 x25 x26 x27 x32 x33 x34 h K => b12_32 call n B18 (fun x1 x6 x8 x25 x26 x27 x32 x33 x34 h => ih x1 x6 x8 x25 x26 x27 x32 x33 x34 h K) x1 x6 x8 x25 x26 x27 x32 x33 x34 h K)
noncomputable def p12_25 (call : CallFn) (n : Nat) (B18 : F5) (x1 x6 x25 x26 x27 : AV) (h : AHeap) (K : Kont) : Bool :=
  iadrK h 8 x25 x27 fun v12 => loadGK h 8 v12 fun v13 => allocK h [.str [], .int .i64 0, .str [], .str [], .bool false, .bool false, .nilSlc, .nilSlc] 8 fun v14 h => storeNK h 8 v14 v13 fun h => fadrK 7 v14 fun v16 => loadK h v16 fun v17 => lenK v17 fun v18 => l12_32 call n B18 n x1 x6 v14 x25 x26 x27 v17 v18 (.int .i64 0) h K
noncomputable def p12_69 (call : CallFn) (n : Nat) (x12 : AV) (h : AHeap) (K : Kont) : Bool :=
  allocK h [.nilFn] 1 fun v48 h => storeK h v48 (.fn (.func 25) [] []) fun h => optK (some (.fn (.func 27) [] [v48])) fun v50 => call (.func 26) [x12, v50] h <| pz K fun v51 h => K (.tup [x12, (.int .i64 0)]) h
noncomputable def b12_58 (call : CallFn) (n : Nat) (B58 : F2) (x12 x55 : AV) (h : AHeap) (K : Kont) : Bool :=
  nextA h x55 fun v39 h => extK 0 v39 fun v40 => condK v40 (optK (entA h x55) fun v41 => extK 0 v41 fun v42 => allocK h [.str [], .str [], .bool false] 3 fun v43 h => storeNK h 3 v43 v42 fun h => loadGK h 3 v43 fun v45 => optPK (bsliceV h 1 3 [.str [], .str [], .bool false] [(0, v45)]) fun v46 h => appK h 3 40 x12 v46 fun v47 h => B58 v47 x55 h) (p12_69 call n x12 h K)
noncomputable def l12_58 (call : CallFn) (n : Nat) : Nat → AV → AV → AHeap → Kont → Bool :=
  @Nat.rec (fun _ => AV → AV → AHeap → Kont → Bool) (fun _ _ _ _ => false) (fun _ ih x12 x55 h K => b12_58 call n (fun x12 x55 h => ih x12 x55 h K) x12 x55 h K)
noncomputable def p12_52 (call : CallFn) (n : Nat) (x6 : AV) (h : AHeap) (K : Kont) : Bool :=
  optPK (rngA h x6) fun v38 h => l12_58 call n n .nilSlc v38 h K
noncomputable def b12_18 (call : CallFn) (n : Nat) (B18 : F5) (x1 x6 x25 x26 x27 : AV) (h : AHeap) (K : Kont) : Bool :=
  lssK x27 x26 fun v11 => condK v11 (p12_25 call n B18 x1 x6 x25 x26 x27 h K) (p12_52 call n x6 h K)
noncomputable def l12_18 (call : CallFn) (n : Nat) : Nat → AV → AV → AV → AV → AV → AHeap → Kont → Bool :=
  @Nat.rec (fun _ => AV → AV → AV → AV → AV → AHeap → Kont → Bool) (fun _ _ _ _ _ _ _ => false) (fun _ ih x1 x6 x25 x26 x27 h K => b12_18 call n (fun x1 x6 x25 x26 x27 h => ih x1 x6 x25 x26 x27 h K) x1 x6 x25 x26 x27 h K)
noncomputable def p12_12 (call : CallFn) (n : Nat) (x1 : AV) (h : AHeap) (K : Kont) : Bool :=
  optPK (mkmapV h) fun v7 h => fadrK 1 x1 fun v8 => loadK h v8 fun v9 => lenK v9 fun v10 => l12_18 call n n x1 v7 v9 v10 (.int .i64 0) h K
noncomputable def p12_5001 (call : CallFn) (n : Nat) (x1 x17 : AV) (h : AHeap) (K : Kont) : Bool :=
  extK 0 x17 fun v4 => extK 1 x17 fun v5 => neqK v5 (.int .i64 0) fun v6 => condK v6 (K (.tup [.nilSlc, v5]) h) (p12_12 call n x1 h K)
noncomputable def s12 (call : CallFn) (n : Nat) (x0 : AV) (h : AHeap) (K : Kont) : Bool :=
  optPK (boxA h (none) 3 x0) fun v1 h => loadGK h 3 v1 fun v2 => call (.func 23) [v2] h <| pz K fun v3 h => p12_5001 call n v1 v3 h K

/-! ### 13 proctor/strat.numbers -/
noncomputable def p13_131 (call : CallFn) (n : Nat) (B2 : F4) (B82 : F4) (B88 : F7) (B105 : F12) (x1 x2 x6 x8 x10 x11 x22 x23 x24 x33 x34 x35 : AV) (h : AHeap) (K : Kont) : Bool :=
  addK x35 (.int .i64 1) fun v25 => B105 x1 x2 x6 x8 x10 x11 x22 x23 x24 x33 x34 v25 h
noncomputable def p13_130 (call : CallFn) (n : Nat) (B2 : F4) (B82 : F4) (B88 : F7) (B105 : F12) (x1 x2 x6 x8 x10 x11 x14 x22 x23 x24 x33 x34 x35 : AV) (h : AHeap) (K : Kont) : Bool :=
  optK (mmV true [x11, x14]) fun v32 => p13_131 call n B2 B82 B88 B105 x1 x2 x6 x8 x10 v32 x22 x23 x24 x33 x34 x35 h K
noncomputable def p13_119001 (call : CallFn) (n : Nat) (B2 : F4) (B82 : F4) (B88 : F7) (B105 : F12) (x1 x2 x6 x8 x10 x11 x13 x22 x23 x24 x33 x34 x35 x44 : AV) (h : AHeap) (K : Kont) : Bool :=
  notK x44 fun v24 => condK v24 (p13_131 call n B2 B82 B88 B105 x1 x2 x6 x8 x10 x11 x22 x23 x24 x33 x34 x35 h K) (fadrK 0 x13 fun v26 => loadK h v26 fun v27 => optK (lookA h (.leaf .str) false (.int .i64 0) x8 v27) fun v28 => fadrK 2 x10 fun v29 => loadK h v29 fun v30 => condK v30 (addK v28 (.int .i64 1) fun v31 => p13_130 call n B2 B82 B88 B105 x1 x2 x6 x8 x10 x11 v31 x22 x23 x24 x33 x34 x35 h K) (p13_130 call n B2 B82 B88 B105 x1 x2 x6 x8 x10 x11 v28 x22 x23 x24 x33 x34 x35 h K))
noncomputable def p13_147 (call : CallFn) (n : Nat) (B2 : F4) (B82 : F4) (B88 : F7) (x1 x2 x6 x8 x22 x23 x24 : AV) (h : AHeap) (K : Kont) : Bool :=
  addK x24 (.int .i64 1) fun v44 => B88 x1 x2 x6 x8 x22 x23 v44 h
noncomputable def p13_132 (call : CallFn) (n : Nat) (B2 : F4) (B82 : F4) (B88 : F7) (x1 x2 x6 x8 x10 x11 x22 x23 x24 : AV) (h : AHeap) (K : Kont) : Bool :=
  fadrK 0 x2 fun v33 => loadK h v33 fun v34 => lenK v34 fun v35 => gtrK x11 v35 fun v36 => condK v36 (K (.tup [.nilMap, (.bool false)]) h) (fadrK 1 x10 fun v37 => loadK h v37 fun v38 => optK (lookA h (.leaf .str) false (.int .i64 0) x8 v38) fun v39 => gtrK x11 v39 fun v40 => condK v40 (fadrK 1 x10 fun v41 => loadK h v41 fun v42 => optPK (unit (mupdA h (.leaf .str) x8 v42 x11)) fun _ h => B82 x1 x2 x6 x8 h) (p13_147 call n B2 B82 B88 x1 x2 x6 x8 x22 x23 x24 h K))
noncomputable def b13_105 (call : CallFn) (n : Nat) (B2 : F4) (B82 : F4) (B88 : F7) (B105 : F12) (x1 x2 x6 x8 x10 x11 x22 x23 x24 x33 x34 x35 : AV) (h : AHeap) (K : Kont) : Bool :=
  lssK x35 x34 fun v14 => condK v14 (iadrK h 3 x33 x35 fun v15 => loadGK h 3 v15 fun v16 => allocK h [.str [], .str [], .nilSlc] 3 fun v17 h => storeNK h 3 v17 v16 fun h => fadrK 0 v17 fun v19 => loadK h v19 fun v20 => fadrK 0 x10 fun v21 => loadK h v21 fun v22 => call (.func 32) [x6, v20, v22] h <| pz K fun v23 h => p13_119001 call n B2 B82 B88 B105 x1 x2 x6 x8 x10 x11 v17 x22 x23 x24 x33 x34 x35 v23 h K) (p13_132 call n B2 B82 B88 x1 x2 x6 x8 x10 x11 x22 x23 x24 h K)
noncomputable def l13_105 (call : CallFn) (n : Nat) (B2 : F4) (B82 : F4) (B88 : F7) : Nat → AV → AV → AV → AV → AV → AV → AV → AV → AV → AV → AV → AV → AHeap → Kont → Bool :=
  @Nat.rec (fun _ => AV → AV → AV → AV → AV → AV → AV → AV → AV → AV → AV → AV → AHeap → Kont → Bool) (fun _ _ _ _ _ _ _ _ _ _ _ _ _ _ => false) (fun _ ih x1 x2 x6 x8 x10 x11 x22 x23 x24 x33 x34 x35 h K => b13_105 call n B2 B82 B88 (fun x1 x2 x6 x8 x10 x11 x22 x23 x24 x33 x34 x35 h => ih x1 x2 x6 x8 x10 x11 x22 x23 x24 x33 x34 x35 h K) x1 x2 x6 x8 x10 x11 x22 x23 x24 x33 x34 x35 h K)
noncomputable def p13_95 (call : CallFn) (n : Nat) (B2 : F4) (B82 : F4) (B88 : F7) (x1 x2 x6 x8 x22 x23 x24 : AV) (h : AHeap) (K : Kont) : Bool :=
  iadrK h 3 x22 x24 fun v4 => loadGK h 3 v4 fun v5 => allocK h [.str [], .str [], .bool false] 3 fun v6 h => storeNK h 3 v6 v5 fun h => fadrK 1 v6 fun v8 => loadK h v8 fun v9 => optK (lookA h (.leaf .str) false (.int .i64 0) x8 v9) fun v10 => fadrK 0 x2 fun v11 => loadK h v11 fun v12 => lenK v12 fun v13 => l13_105 call n B2 B82 B88 n x1 x2 x6 x8 v6 v10 x22 x23 x24 v12 v13 (.int .i64 0) h K
noncomputable def b13_88 (call : CallFn) (n : Nat) (B2 : F4) (B82 : F4) (B88 : F7) (x1 x2 x6 x8 x22 x23 x24 : AV) (h : AHeap) (K : Kont) : Bool :=
  lssK x24 x23 fun v3 => condK v3 (p13_95 call n B2 B82 B88 x1 x2 x6 x8 x22 x23 x24 h K) (K (.tup [x8, (.bool true)]) h)
noncomputable def l13_88 (call : CallFn) (n : Nat) (B2 : F4) (B82 : F4) : Nat → AV → AV → AV → AV → AV → AV → AV → AHeap → Kont → Bool :=
  @Nat.rec (fun _ => AV → AV → AV → AV → AV → AV → AV → AHeap → Kont → Bool) (fun _ _ _ _ _ _ _ _ _ => false) (fun _ ih x1 x2 x6 x8 x22 x23 x24 h K => b13_88 call n B2 B82 (fun x1 x2 x6 x8 x22 x23 x24 h => ih x1 x2 x6 x8 x22 x23 x24 h K) x1 x2 x6 x8 x22 x23 x24 h K)
noncomputable def b13_82 (call : CallFn) (n : Nat) (B2 : F4) (B82 : F4) (x1 x2 x6 x8 : AV) (h : AHeap) (K : Kont) : Bool :=
  lenK x1 fun v2 => l13_88 call n B2 B82 n x1 x2 x6 x8 x1 v2 (.int .i64 0) h K
noncomputable def l13_82 (call : CallFn) (n : Nat) (B2 : F4) : Nat → AV → AV → AV → AV → AHeap → Kont → Bool :=
  @Nat.rec (fun _ => AV → AV → AV → AV → AHeap → Kont → Bool) (fun _ _ _ _ _ _ => false) (fun _ ih x1 x2 x6 x8 h K => b13_82 call n B2 (fun x1 x2 x6 x8 h => ih x1 x2 x6 x8 h K) x1 x2 x6 x8 h K)
noncomputable def j13_2 (call : CallFn) (n : Nat) (B2 : F4) (x1 x2 x6 x8 : AV) (h : AHeap) (K : Kont) : Bool :=
  l13_82 call n B2 n x1 x2 x6 x8 h K
noncomputable def g13_2 (call : CallFn) (n : Nat) : Nat → AV → AV → AV → AV → AHeap → Kont → Bool :=
  @Nat.rec (fun _ => AV → AV → AV → AV → AHeap → Kont → Bool) (fun _ _ _ _ _ _ => false) (fun _ ih x1 x2 x6 x8 h K => j13_2 call n (fun x1 x2 x6 x8 h => ih x1 x2 x6 x8 h K) x1 x2 x6 x8 h K)
noncomputable def p13_59 (call : CallFn) (n : Nat) (B2 : F4) (B10 : F4) (B16 : F7) (B33 : F12) (x1 x2 x6 x8 x10 x11 x22 x23 x24 x33 x34 x35 : AV) (h : AHeap) (K : Kont) : Bool :=
  addK x35 (.int .i64 1) fun v74 => B33 x1 x2 x6 x8 x10 x11 x22 x23 x24 x33 x34 v74 h
noncomputable def p13_58 (call : CallFn) (n : Nat) (B2 : F4) (B10 : F4) (B16 : F7) (B33 : F12) (x1 x2 x6 x8 x10 x11 x14 x22 x23 x24 x33 x34 x35 : AV) (h : AHeap) (K : Kont) : Bool :=
  optK (mmV true [x11, x14]) fun v81 => p13_59 call n B2 B10 B16 B33 x1 x2 x6 x8 x10 v81 x22 x23 x24 x33 x34 x35 h K
noncomputable def p13_47001 (call : CallFn) (n : Nat) (B2 : F4) (B10 : F4) (B16 : F7) (B33 : F12) (x1 x2 x6 x8 x10 x11 x13 x22 x23 x24 x33 x34 x35 x44 : AV) (h : AHeap) (K : Kont) : Bool :=
  notK x44 fun v73 => condK v73 (p13_59 call n B2 B10 B16 B33 x1 x2 x6 x8 x10 x11 x22 x23 x24 x33 x34 x35 h K) (fadrK 0 x13 fun v75 => loadK h v75 fun v76 => optK (lookA h (.leaf .str) false (.int .i64 0) x8 v76) fun v77 => fadrK 2 x10 fun v78 => loadK h v78 fun v79 => condK v79 (addK v77 (.int .i64 1) fun v80 => p13_58 call n B2 B10 B16 B33 x1 x2 x6 x8 x10 x11 v80 x22 x23 x24 x33 x34 x35 h K) (p13_58 call n B2 B10 B16 B33 x1 x2 x6 x8 x10 x11 v77 x22 x23 x24 x33 x34 x35 h K))
noncomputable def p13_75 (call : CallFn) (n : Nat) (B2 : F4) (B10 : F4) (B16 : F7) (x1 x2 x6 x8 x22 x23 x24 : AV) (h : AHeap) (K : Kont) : Bool :=
  addK x24 (.int .i64 1) fun v93 => B16 x1 x2 x6 x8 x22 x23 v93 h
noncomputable def p13_60 (call : CallFn) (n : Nat) (B2 : F4) (B10 : F4) (B16 : F7) (x1 x2 x6 x8 x10 x11 x22 x23 x24 : AV) (h : AHeap) (K : Kont) : Bool :=
  fadrK 0 x2 fun v82 => loadK h v82 fun v83 => lenK v83 fun v84 => gtrK x11 v84 fun v85 => condK v85 (K (.tup [.nilMap, (.bool false)]) h) (fadrK 1 x10 fun v86 => loadK h v86 fun v87 => optK (lookA h (.leaf .str) false (.int .i64 0) x8 v87) fun v88 => gtrK x11 v88 fun v89 => condK v89 (fadrK 1 x10 fun v90 => loadK h v90 fun v91 => optPK (unit (mupdA h (.leaf .str) x8 v91 x11)) fun _ h => B10 x1 x2 x6 x8 h) (p13_75 call n B2 B10 B16 x1 x2 x6 x8 x22 x23 x24 h K))
noncomputable def b13_33 (call : CallFn) (n : Nat) (B2 : F4) (B10 : F4) (B16 : F7) (B33 : F12) (x1 x2 x6 x8 x10 x11 x22 x23 x24 x33 x34 x35 : AV) (h : AHeap) (K : Kont) : Bool :=
  lssK x35 x34 fun v63 => condK v63 (iadrK h 3 x33 x35 fun v64 => loadGK h 3 v64 fun v65 => allocK h [.str [], .str [], .nilSlc] 3 fun v66 h => storeNK h 3 v66 v65 fun h => fadrK 0 v66 fun v68 => loadK h v68 fun v69 => fadrK 0 x10 fun v70 => loadK h v70 fun v71 => call (.func 32) [x6, v69, v71] h <| pz K fun v72 h => p13_47001 call n B2 B10 B16 B33 x1 x2 x6 x8 x10 x11 v66 x22 x23 x24 x33 x34 x35 v72 h K) (p13_60 call n B2 B10 B16 x1 x2 x6 x8 x10 x11 x22 x23 x24 h K)
noncomputable def l13_33 (call : CallFn) (n : Nat) (B2 : F4) (B10 : F4) (B16 : F7) : Nat → AV → AV → AV → AV → AV → AV → AV → AV → AV → AV → AV → AV → AHeap → Kont → Bool :=
  @Nat.rec (fun _ => AV → AV → AV → AV → AV → AV → AV → AV → AV → AV → AV → AV → AHeap → Kont → Bool) (fun _ _ _ _ _ _ _ _ _ _ _ _ _ _ => false) (fun _ ih x1 x2 x6 x8 x10 x11 x22 x23 x24 x33 x34 x35 h K => b13_33 call n B2 B10 B16 (fun x1 x2 x6 x8 x10 x11 x22 x23 x24 x33 x34 x35 h => ih x1 x2 x6 x8 x10 x11 x22 x23 x24 x33 x34 x35 h K) x1 x2 x6 x8 x10 x11 x22 x23 x24 x33 x34 x35 h K)
noncomputable def p13_23 (call : CallFn) (n : Nat) (B2 : F4) (B10 : F4) (B16 : F7) (x1 x2 x6 x8 x22 x23 x24 : AV) (h : AHeap) (K : Kont) : Bool :=
  iadrK h 3 x22 x24 fun v53 => loadGK h 3 v53 fun v54 => allocK h [.str [], .str [], .bool false] 3 fun v55 h => storeNK h 3 v55 v54 fun h => fadrK 1 v55 fun v57 => loadK h v57 fun v58 => optK (lookA h (.leaf .str) false (.int .i64 0) x8 v58) fun v59 => fadrK 0 x2 fun v60 => loadK h v60 fun v61 => lenK v61 fun v62 => l13_33 call n B2 B10 B16 n x1 x2 x6 x8 v55 v59 x22 x23 x24 v61 v62 (.int .i64 0) h K
noncomputable def b13_16 (call : CallFn) (n : Nat) (B2 : F4) (B10 : F4) (B16 : F7) (x1 x2 x6 x8 x22 x23 x24 : AV) (h : AHeap) (K : Kont) : Bool :=
  lssK x24 x23 fun v52 => condK v52 (p13_23 call n B2 B10 B16 x1 x2 x6 x8 x22 x23 x24 h K) (K (.tup [x8, (.bool true)]) h)
noncomputable def l13_16 (call : CallFn) (n : Nat) (B2 : F4) (B10 : F4) : Nat → AV → AV → AV → AV → AV → AV → AV → AHeap → Kont → Bool :=
  @Nat.rec (fun _ => AV → AV → AV → AV → AV → AV → AV → AHeap → Kont → Bool) (fun _ _ _ _ _ _ _ _ _ => false) (fun _ ih x1 x2 x6 x8 x22 x23 x24 h K => b13_16 call n B2 B10 (fun x1 x2 x6 x8 x22 x23 x24 h => ih x1 x2 x6 x8 x22 x23 x24 h K) x1 x2 x6 x8 x22 x23 x24 h K)
noncomputable def b13_10 (call : CallFn) (n : Nat) (B2 : F4) (B10 : F4) (x1 x2 x6 x8 : AV) (h : AHeap) (K : Kont) : Bool :=
  lenK x1 fun v51 => l13_16 call n B2 B10 n x1 x2 x6 x8 x1 v51 (.int .i64 0) h K
noncomputable def l13_10 (call : CallFn) (n : Nat) (B2 : F4) : Nat → AV → AV → AV → AV → AHeap → Kont → Bool :=
  @Nat.rec (fun _ => AV → AV → AV → AV → AHeap → Kont → Bool) (fun _ _ _ _ _ _ => false) (fun _ ih x1 x2 x6 x8 h K => b13_10 call n B2 (fun x1 x2 x6 x8 h => ih x1 x2 x6 x8 h K) x1 x2 x6 x8 h K)
noncomputable def p13_5001 (call : CallFn) (n : Nat) (B2 : F4) (x1 x2 x18 : AV) (h : AHeap) (K : Kont) : Bool :=
  extK 0 x18 fun v48 => extK 1 x18 fun v49 => optPK (mkmapV h) fun v50 h => l13_10 call n B2 n x1 x2 v48 v50 h K
noncomputable def f13_2 (call : CallFn) (n : Nat) (B2 : F4) (x1 x2 : AV) (h : AHeap) (K : Kont) : Bool :=
  fadrK 0 x2 fun v45 => loadK h v45 fun v46 => call (.func 31) [v46] h <| pz K fun v47 h => p13_5001 call n B2 x1 x2 v47 h K
noncomputable def s13 (call : CallFn) (n : Nat) (x0 x1 : AV) (h : AHeap) (K : Kont) : Bool :=
  optPK (boxA h (none) 3 x0) fun v1 h => f13_2 call n (pF4 (pC4 (g13_2 call n n) K)) x1 v1 h K

/-! ### 14 slices.DeleteFunc[[][]string,[]string] -/
noncomputable def p14_34 (call : CallFn) (n : Nat) (B16 : F4) (x0 x1 x5 x6 : AV) (h : AHeap) (K : Kont) : Bool :=
  addK x6 (.int .i64 1) fun v13 => B16 x0 x1 x5 v13 h
noncomputable def p14_29001 (call : CallFn) (n : Nat) (B16 : F4) (x0 x1 x5 x6 x7 x28 : AV) (h : AHeap) (K : Kont) : Bool :=
  notK x28 fun v9 => condK v9 (iadrK h 1 x0 x5 fun v10 => storeK h v10 x7 fun h => addK x5 (.int .i64 1) fun v12 => p14_34 call n B16 x0 x1 v12 x6 h K) (p14_34 call n B16 x0 x1 x5 x6 h K)
noncomputable def p14_35 (call : CallFn) (n : Nat) (x0 x5 : AV) (h : AHeap) (K : Kont) : Bool :=
  optK (sliceV h 1 x0 (some x5) none none) fun v14 => optPK (unit (clrA h 1 [.nilSlc] v14)) fun _ h => optK (sliceV h 1 x0 none (some x5) none) fun v16 => K v16 h
noncomputable def b14_16 (call : CallFn) (n : Nat) (B16 : F4) (x0 x1 x5 x6 : AV) (h : AHeap) (K : Kont) : Bool :=
  lenK x0 fun v4 => lssK x6 v4 fun v5 => condK v5 (iadrK h 1 x0 x6 fun v6 => loadK h v6 fun v7 => callV call x1 [v7] h <| pz K fun v8 h => p14_29001 call n B16 x0 x1 x5 x6 v7 v8 h K) (p14_35 call n x0 x5 h K)
noncomputable def l14_16 (call : CallFn) (n : Nat) : Nat → AV → AV → AV → AV → AHeap → Kont → Bool :=
  @Nat.rec (fun _ => AV → AV → AV → AV → AHeap → Kont → Bool) (fun _ _ _ _ _ _ => false) (fun _ ih x0 x1 x5 x6 h K => b14_16 call n (fun x0 x1 x5 x6 h => ih x0 x1 x5 x6 h K) x0 x1 x5 x6 h K)
noncomputable def p14_12 (call : CallFn) (n : Nat) (x0 x1 x5 : AV) (h : AHeap) (K : Kont) : Bool :=
  addK x5 (.int .i64 1) fun v3 => l14_16 call n n x0 x1 x5 v3 h K
noncomputable def s14 (call : CallFn) (n : Nat) (x0 x1 : AV) (h : AHeap) (K : Kont) : Bool :=
  call (.func 33) [x0, x1] h <| pz K fun v1 h => eqlK v1 (.int .i64 (-1)) fun v2 => condK v2 (K x0 h) (p14_12 call n x0 x1 v1 h K)

/-! ### 15 proctor/strat.Strata$1 -/
noncomputable def s15 (call : CallFn) (n : Nat) (x0 : AV) (h : AHeap) (K : Kont) : Bool :=
  lenK x0 fun v1 => eqlK v1 (.int .i64 0) fun v2 => K v2 h

/-! ### 16 proctor/lex.Lex -/
noncomputable def p16_12001 (call : CallFn) (n : Nat) (x9 : AV) (h : AHeap) (K : Kont) : Bool :=
  extK 0 x9 fun v4 => extK 1 x9 fun v5 => extK 2 x9 fun v6 => K (.tup [v4, v5, v6]) h
noncomputable def s16 (call : CallFn) (n : Nat) (x0 : AV) (h : AHeap) (K : Kont) : Bool :=
  lenSK x0 fun v1 => gtrK v1 (.int .i64 65536) fun v2 => condK v2 (K (.tup [.nilSlc, (.int .i64 0), (.int .i64 21)]) h) (call (.func 34) [x0] h <| pz K fun v3 h => p16_12001 call n v3 h K)

/-! ### 18 (*proctor/parse.parser).take -/
noncomputable def p18_5001 (call : CallFn) (n : Nat) (x0 x7 : AV) (h : AHeap) (K : Kont) : Bool :=
  notK x7 fun v2 => condK v2 (K (.bool false) h) (nilckK x0 fun v3 => fadrK 1 v3 fun v4 => loadK h v4 fun v5 => addK v5 (.int .i64 1) fun v6 => nilckK x0 fun v7 => fadrK 1 v7 fun v8 => storeK h v8 v6 fun h => K (.bool true) h)
noncomputable def s18 (call : CallFn) (n : Nat) (x0 x1 : AV) (h : AHeap) (K : Kont) : Bool :=
  call (.func 38) [x0, (.int .i64 0), x1] h <| pz K fun v1 h => p18_5001 call n x0 v1 h K

/-! ### 19 (*proctor/parse.parser).class -/
noncomputable def p19_27 (call : CallFn) (n : Nat) (x0 x2 x3 : AV) (h : AHeap) (K : Kont) : Bool :=
  call (.func 43) [x0, (.str [125])] h <| pz K fun v33 h => loadGK h 3 x3 fun v34 => storeNK h 3 x2 v34 fun h => optR (resV h [(x2, some (true, 3))]) h K
noncomputable def p19_20003 (call : CallFn) (n : Nat) (B16 : F4) (x0 x2 x3 x21 x24 x27 x29 : AV) (h : AHeap) (K : Kont) : Bool :=
  gK x24 true (pickK x27 (.bool true) x29) fun v23 => gK x21 false (pickK x24 v23 (.bool false)) fun v24 => pickK x21 (.bool true) v24 fun v25 => condK v25 (fadrK 2 x3 fun v26 => loadK h v26 fun v27 => call (.func 42) [x0] h <| pz K fun v28 h => loadK h v26 <| sameK v27 <| optPK (bsliceV h 1 3 [.str [], .int .i64 0, .str []] [(0, v28)]) fun v29 h => loadK h v26 <| sameK v27 <| appK h 3 40 v27 v29 fun v30 h => fadrK 2 x3 fun v31 => storeK h v31 v30 fun h => B16 x0 x2 x3 (.bool false) h) (p19_27 call n x0 x2 x3 h K)
noncomputable def p19_20002 (call : CallFn) (n : Nat) (B16 : F4) (x0 x2 x3 x21 x24 x26 : AV) (h : AHeap) (K : Kont) : Bool :=
  gK x24 true (optK (some x26)) fun v20 => gK v20 false (optK (some x0)) fun v21 => gP v20 false (fun k => call (.func 41) [v21, (.int .i64 0)] h (pz K k)) h fun v22 h => p19_20003 call n B16 x0 x2 x3 x21 x24 v20 v22 h K
noncomputable def p19_20001 (call : CallFn) (n : Nat) (B16 : F4) (x0 x2 x3 x4 x16 x18 : AV) (h : AHeap) (K : Kont) : Bool :=
  gK x16 true (notK x18) fun v13 => pickK x16 v13 (.bool false) fun v14 => gK v14 false (optK (some x4)) fun v15 => gK v14 false (notK v15) fun v16 => gK v14 false (optK (some v16)) fun v17 => gK v17 true (optK (some x0)) fun v18 => gP v17 true (fun k => call (.func 18) [v18, (.str [44])] h (pz K k)) h fun v19 h => p19_20002 call n B16 x0 x2 x3 v14 v17 v19 h K
noncomputable def b19_16 (call : CallFn) (n : Nat) (B16 : F4) (x0 x2 x3 x4 : AV) (h : AHeap) (K : Kont) : Bool :=
  gK x4 true (optK (some x0)) fun v11 => gP x4 true (fun k => call (.func 38) [v11, (.int .i64 0), (.str [125])] h (pz K k)) h fun v12 h => p19_20001 call n B16 x0 x2 x3 x4 x4 v12 h K
noncomputable def l19_16 (call : CallFn) (n : Nat) : Nat → AV → AV → AV → AV → AHeap → Kont → Bool :=
  @Nat.rec (fun _ => AV → AV → AV → AV → AHeap → Kont → Bool) (fun _ _ _ _ _ _ => false) (fun _ ih x0 x2 x3 x4 h K => b19_16 call n (fun x0 x2 x3 x4 h => ih x0 x2 x3 x4 h K) x0 x2 x3 x4 h K)
noncomputable def p19_10 (call : CallFn) (n : Nat) (x0 x2 x3 : AV) (h : AHeap) (K : Kont) : Bool :=
  call (.func 40) [x0, (.str [123])] h <| pz K fun v10 h => l19_16 call n n x0 x2 x3 (.bool true) h K
noncomputable def p19_9001 (call : CallFn) (n : Nat) (x0 x2 x3 x11 : AV) (h : AHeap) (K : Kont) : Bool :=
  fadrK 1 x3 fun v8 => storeK h v8 x11 fun h => p19_10 call n x0 x2 x3 h K
noncomputable def p19_4001 (call : CallFn) (n : Nat) (x0 x2 x6 : AV) (h : AHeap) (K : Kont) : Bool :=
  buildK [.str [], .str [], .nilSlc] [(0, 1, x6)] fun v3 => allocK h [.str [], .str [], .nilSlc] 3 fun v4 h => storeNK h 3 v4 v3 fun h => call (.func 18) [x0, (.str [101, 120, 116, 101, 110, 100, 115])] h <| pz K fun v6 h => condK v6 (call (.func 39) [x0] h <| pz K fun v7 h => p19_9001 call n x0 x2 v4 v7 h K) (p19_10 call n x0 x2 v4 h K)
noncomputable def s19 (call : CallFn) (n : Nat) (x0 : AV) (h : AHeap) (K : Kont) : Bool :=
  allocK h [.str [], .str [], .nilSlc] 3 fun v1 h => call (.func 39) [x0] h <| pz K fun v2 h => p19_4001 call n x0 v1 v2 h K

/-! ### 20 (*proctor/parse.parser).rule -/
noncomputable def p20_19001 (call : CallFn) (n : Nat) (B6 : F3) (x0 x2 x3 x18 : AV) (h : AHeap) (K : Kont) : Bool :=
  fadrK 1 x3 fun v10 => storeK h v10 x18 fun h => B6 x0 x2 x3 h
noncomputable def p20_23001 (call : CallFn) (n : Nat) (B6 : F3) (x0 x2 x3 x24 : AV) (h : AHeap) (K : Kont) : Bool :=
  fadrK 2 x3 fun v14 => storeK h v14 x24 fun h => B6 x0 x2 x3 h
noncomputable def p20_27001 (call : CallFn) (n : Nat) (B6 : F3) (x0 x2 x3 x30 : AV) (h : AHeap) (K : Kont) : Bool :=
  fadrK 3 x3 fun v18 => storeK h v18 x30 fun h => B6 x0 x2 x3 h
noncomputable def p20_49 (call : CallFn) (n : Nat) (x2 x3 : AV) (h : AHeap) (K : Kont) : Bool :=
  loadGK h 8 x3 fun v42 => storeNK h 8 x2 v42 fun h => optR (resV h [(x2, some (true, 8))]) h K
noncomputable def p20_44001 (call : CallFn) (n : Nat) (B40 : F3) (x0 x2 x3 x44 : AV) (h : AHeap) (K : Kont) : Bool :=
  notK x44 fun v34 => condK v34 (fadrK 7 x3 fun v35 => loadK h v35 fun v36 => call (.func 47) [x0] h <| pz K fun v37 h => loadK h v35 <| sameK v36 <| optPK (bsliceV h 1 12 [.int .i64 0, .str [], .nilSlc, .int .i64 0, .str [], .int .i64 0, .bool false, .int .i64 0, .str [], .nilSlc, .nilSlc, .str []] [(0, v37)]) fun v38 h => loadK h v35 <| sameK v36 <| appK h 12 176 v36 v38 fun v39 h => fadrK 7 x3 fun v40 => storeK h v40 v39 fun h => B40 x0 x2 x3 h) (p20_49 call n x2 x3 h K)
noncomputable def b20_40 (call : CallFn) (n : Nat) (B40 : F3) (x0 x2 x3 : AV) (h : AHeap) (K : Kont) : Bool :=
  call (.func 18) [x0, (.str [101, 110, 100])] h <| pz K fun v33 h => p20_44001 call n B40 x0 x2 x3 v33 h K
noncomputable def l20_40 (call : CallFn) (n : Nat) : Nat → AV → AV → AV → AHeap → Kont → Bool :=
  @Nat.rec (fun _ => AV → AV → AV → AHeap → Kont → Bool) (fun _ _ _ _ _ => false) (fun _ ih x0 x2 x3 h K => b20_40 call n (fun x0 x2 x3 h => ih x0 x2 x3 h K) x0 x2 x3 h K)
noncomputable def p20_36001 (call : CallFn) (n : Nat) (x0 x2 x3 x38 : AV) (h : AHeap) (K : Kont) : Bool :=
  fadrK 6 x3 fun v29 => storeK h v29 x38 fun h => optPK (bsliceV h 1 1 [.str []] [(0, (.str [116, 104, 101, 110]))]) fun v31 h => call (.func 21) [x0, v31] h <| pz K fun v32 h => l20_40 call n n x0 x2 x3 h K
noncomputable def p20_34 (call : CallFn) (n : Nat) (x0 x2 x3 : AV) (h : AHeap) (K : Kont) : Bool :=
  optPK (bsliceV h 1 1 [.str []] [(0, (.str [116, 104, 101, 110]))]) fun v27 h => call (.func 46) [x0, v27] h <| pz K fun v28 h => p20_36001 call n x0 x2 x3 v28 h K
noncomputable def p20_10001 (call : CallFn) (n : Nat) (B6 : F3) (x0 x2 x3 x8 : AV) (h : AHeap) (K : Kont) : Bool :=
  notK x8 fun v7 => condK v7 (call (.func 18) [x0, (.str [115, 97, 108, 105, 101, 110, 99, 101])] h <| pz K fun v8 h => condK v8 (call (.func 45) [x0] h <| pz K fun v9 h => p20_19001 call n B6 x0 x2 x3 v9 h K) (call (.func 18) [x0, (.str [103, 114, 111, 117, 112])] h <| pz K fun v12 h => condK v12 (call (.func 44) [x0] h <| pz K fun v13 h => p20_23001 call n B6 x0 x2 x3 v13 h K) (call (.func 18) [x0, (.str [102, 108, 111, 119])] h <| pz K fun v16 h => condK v16 (call (.func 44) [x0] h <| pz K fun v17 h => p20_27001 call n B6 x0 x2 x3 v17 h K) (call (.func 18) [x0, (.str [110, 111, 108, 111, 111, 112])] h <| pz K fun v20 h => condK v20 (fadrK 4 x3 fun v21 => storeK h v21 (.bool true) fun h => B6 x0 x2 x3 h) (optPK (bsliceV h 1 1 [.str []] [(0, (.str [108, 111, 99, 107]))]) fun v23 h => call (.func 21) [x0, v23] h <| pz K fun v24 h => fadrK 5 x3 fun v25 => storeK h v25 (.bool true) fun h => B6 x0 x2 x3 h))))) (p20_34 call n x0 x2 x3 h K)
noncomputable def b20_6 (call : CallFn) (n : Nat) (B6 : F3) (x0 x2 x3 : AV) (h : AHeap) (K : Kont) : Bool :=
  call (.func 18) [x0, (.str [119, 104, 101, 110])] h <| pz K fun v6 h => p20_10001 call n B6 x0 x2 x3 v6 h K
noncomputable def l20_6 (call : CallFn) (n : Nat) : Nat → AV → AV → AV → AHeap → Kont → Bool :=
  @Nat.rec (fun _ => AV → AV → AV → AHeap → Kont → Bool) (fun _ _ _ _ _ => false) (fun _ ih x0 x2 x3 h K => b20_6 call n (fun x0 x2 x3 h => ih x0 x2 x3 h K) x0 x2 x3 h K)
noncomputable def p20_4001 (call : CallFn) (n : Nat) (x0 x2 x5 : AV) (h : AHeap) (K : Kont) : Bool :=
  buildK [.str [], .int .i64 0, .str [], .str [], .bool false, .bool false, .nilSlc, .nilSlc] [(0, 1, x5)] fun v3 => allocK h [.str [], .int .i64 0, .str [], .str [], .bool false, .bool false, .nilSlc, .nilSlc] 8 fun v4 h => storeNK h 8 v4 v3 fun h => l20_6 call n n x0 x2 v4 h K
noncomputable def s20 (call : CallFn) (n : Nat) (x0 : AV) (h : AHeap) (K : Kont) : Bool :=
  allocK h [.str [], .int .i64 0, .str [], .str [], .bool false, .bool false, .nilSlc, .nilSlc] 8 fun v1 h => call (.func 44) [x0] h <| pz K fun v2 h => p20_4001 call n x0 v1 v2 h K

/-! ### 21 (*proctor/parse.parser).must -/
noncomputable def p21_15001 (call : CallFn) (n : Nat) (B3 : F4) (x0 x6 x7 x8 x12 x15 : AV) (h : AHeap) (K : Kont) : Bool :=
  call (.func 37) [x12, x15] h <| pz K fun v6 h => addK x8 (.int .i64 1) fun v7 => B3 x0 x6 x7 v7 h
noncomputable def b21_3 (call : CallFn) (n : Nat) (B3 : F4) (x0 x6 x7 x8 : AV) (h : AHeap) (K : Kont) : Bool :=
  lssK x8 x7 fun v2 => condK v2 (iadrK h 1 x6 x8 fun v3 => loadK h v3 fun v4 => call (.func 18) [x0, v4] h <| pz K fun v5 h => p21_15001 call n B3 x0 x6 x7 x8 x0 v5 h K) (K (.tup []) h)
noncomputable def l21_3 (call : CallFn) (n : Nat) : Nat → AV → AV → AV → AV → AHeap → Kont → Bool :=
  @Nat.rec (fun _ => AV → AV → AV → AV → AHeap → Kont → Bool) (fun _ _ _ _ _ _ => false) (fun _ ih x0 x6 x7 x8 h K => b21_3 call n (fun x0 x6 x7 x8 h => ih x0 x6 x7 x8 h K) x0 x6 x7 x8 h K)
noncomputable def s21 (call : CallFn) (n : Nat) (x0 x1 : AV) (h : AHeap) (K : Kont) : Bool :=
  lenK x1 fun v1 => l21_3 call n n x0 x1 v1 (.int .i64 0) h K

/-! ### 22 (*proctor/parse.parser).query -/
noncomputable def p22_10001 (call : CallFn) (n : Nat) (x1 x2 x3 x14 : AV) (h : AHeap) (K : Kont) : Bool :=
  fadrK 2 x3 fun v16 => storeK h v16 x14 fun h => loadK h x1 fun v18 => optPK (bsliceV h 1 1 [.str []] [(0, (.str [101, 110, 100]))]) fun v19 h => call (.func 21) [v18, v19] h <| pz K fun v20 h => loadGK h 3 x3 fun v21 => storeNK h 3 x2 v21 fun h => optR (resV h [(x2, some (true, 3))]) h K
noncomputable def p22_4001 (call : CallFn) (n : Nat) (x1 x2 x5 : AV) (h : AHeap) (K : Kont) : Bool :=
  buildK [.str [], .nilSlc, .nilSlc] [(0, 1, x5)] fun v5 => allocK h [.str [], .nilSlc, .nilSlc] 3 fun v6 h => storeNK h 3 v6 v5 fun h => loadK h x1 fun v8 => call (.func 40) [v8, (.str [40])] h <| pz K fun v9 h => loadK h x1 fun v10 => optK (some (.fn (.func 49) [] [v6, x1])) fun v11 => call (.func 48) [v10, (.str [41]), v11] h <| pz K fun v12 h => loadK h x1 fun v13 => optPK (bsliceV h 1 1 [.str []] [(0, (.str [101, 110, 100]))]) fun v14 h => call (.func 46) [v13, v14] h <| pz K fun v15 h => p22_10001 call n x1 x2 v6 v15 h K
noncomputable def s22 (call : CallFn) (n : Nat) (x0 : AV) (h : AHeap) (K : Kont) : Bool :=
  boxK h x0 fun v1 h => allocK h [.str [], .nilSlc, .nilSlc] 3 fun v2 h => loadK h v1 fun v3 => call (.func 39) [v3] h <| pz K fun v4 h => p22_4001 call n v1 v2 v4 h K

/-! ### 23 proctor/check.Check -/
noncomputable def p23_41001 (call : CallFn) (n : Nat) (B28 : F3) (x41 x42 x43 x49 : AV) (h : AHeap) (K : Kont) : Bool :=
  extK 0 x49 fun v27 => extK 1 x49 fun v28 => notK v28 fun v29 => condK v29 (K (.tup [v27, (.int .i64 22)]) h) (addK x43 (.int .i64 1) fun v30 => B28 x41 x42 v30 h)
noncomputable def b23_28 (call : CallFn) (n : Nat) (B28 : F3) (x41 x42 x43 : AV) (h : AHeap) (K : Kont) : Bool :=
  lssK x43 x42 fun v23 => condK v23 (iadrK h 1 x41 x43 fun v24 => loadK h v24 fun v25 => callV call v25 [] h <| pz K fun v26 h => p23_41001 call n B28 x41 x42 x43 v26 h K) (K (.tup [(.str []), (.int .i64 0)]) h)
noncomputable def l23_28 (call : CallFn) (n : Nat) : Nat → AV → AV → AV → AHeap → Kont → Bool :=
  @Nat.rec (fun _ => AV → AV → AV → AHeap → Kont → Bool) (fun _ _ _ _ _ => false) (fun _ ih x41 x42 x43 h K => b23_28 call n (fun x41 x42 x43 h => ih x41 x42 x43 h K) x41 x42 x43 h K)
noncomputable def p23_22 (call : CallFn) (n : Nat) (x1 x6 : AV) (h : AHeap) (K : Kont) : Bool :=
  loadGK h 3 x1 fun v13 => buildK [.nilSlc, .nilSlc, .nilSlc, .nilPtr, .bool false, .int .i64 0] [(0, 3, v13), (3, 1, x6)] fun v14 => optPK (boxA h (none) 6 v14) fun v15 h => optK (some (.fn (.func 52) [v15] [])) fun v16 => optK (some (.fn (.func 53) [v15] [])) fun v17 => optK (some (.fn (.func 54) [v15] [])) fun v18 => optK (some (.fn (.func 55) [v15] [])) fun v19 => optK (some (.fn (.func 56) [v15] [])) fun v20 => optPK (bsliceV h 5 1 [.nilFn] [(0, v16), (1, v17), (2, v18), (3, v19), (4, v20)]) fun v21 h => lenK v21 fun v22 => l23_28 call n n v21 v22 (.int .i64 0) h K
noncomputable def p23_14001 (call : CallFn) (n : Nat) (x1 x22 : AV) (h : AHeap) (K : Kont) : Bool :=
  extK 0 x22 fun v10 => extK 1 x22 fun v11 => neqK v11 (.int .i64 0) fun v12 => condK v12 (K (.tup [(.str []), (.int .i64 10)]) h) (p23_22 call n x1 v10 h K)
noncomputable def p23_12 (call : CallFn) (n : Nat) (x1 : AV) (h : AHeap) (K : Kont) : Bool :=
  fadrK 0 x1 fun v7 => loadK h v7 fun v8 => call (.func 31) [v8] h <| pz K fun v9 h => p23_14001 call n x1 v9 h K
noncomputable def p23_5001 (call : CallFn) (n : Nat) (x1 x14 : AV) (h : AHeap) (K : Kont) : Bool :=
  extK 0 x14 fun v4 => extK 1 x14 fun v5 => eqlK v5 (.int .i64 1) fun v6 => condK v6 (K (.tup [(.str []), (.int .i64 1)]) h) (p23_12 call n x1 h K)
noncomputable def s23 (call : CallFn) (n : Nat) (x0 : AV) (h : AHeap) (K : Kont) : Bool :=
  optPK (boxA h (none) 3 x0) fun v1 h => loadGK h 3 v1 fun v2 => call (.func 51) [v2] h <| pz K fun v3 h => p23_5001 call n v1 v3 h K

/-! ### 24 (*proctor/strat.walker).conds -/
noncomputable def p24_47 (call : CallFn) (n : Nat) (B3 : F5) (x0 x2 x10 x11 x12 : AV) (h : AHeap) (K : Kont) : Bool :=
  addK x12 (.int .i64 1) fun v35 => B3 x0 x2 x10 x11 v35 h
noncomputable def b24_34 (call : CallFn) (n : Nat) (B3 : F5) (B34 : F8) (x0 x2 x10 x11 x12 x50 x51 x52 : AV) (h : AHeap) (K : Kont) : Bool :=
  lssK x52 x51 fun v30 => condK v30 (iadrK h 1 x50 x52 fun v31 => loadK h v31 fun v32 => call (.func 24) [x0, v32, x2] h <| pz K fun v33 h => addK x52 (.int .i64 1) fun v34 => B34 x0 x2 x10 x11 x12 x50 x51 v34 h) (p24_47 call n B3 x0 x2 x10 x11 x12 h K)
noncomputable def l24_34 (call : CallFn) (n : Nat) (B3 : F5) : Nat → AV → AV → AV → AV → AV → AV → AV → AV → AHeap → Kont → Bool :=
  @Nat.rec (fun _ => AV → AV → AV → AV → AV → AV → AV → AV → AHeap → Kont → Bool) (fun _ _ _ _ _ _ _ _ _ _ => false) (fun _ ih x0 x2 x10 x11 x12 x50 x51 x52 h K => b24_34 call n B3 (fun x0 x2 x10 x11 x12 x50 x51 x52 h => ih x0 x2 x10 x11 x12 x50 x51 x52 h K) x0 x2 x10 x11 x12 x50 x51 x52 h K)
noncomputable def p24_27 (call : CallFn) (n : Nat) (B3 : F5) (x0 x2 x7 x10 x11 x12 : AV) (h : AHeap) (K : Kont) : Bool :=
  fadrK 5 x7 fun v21 => loadK h v21 fun v22 => call (.func 24) [x0, v22, (.bool true)] h <| pz K fun v23 h => fadrK 6 x7 fun v24 => loadK h v24 fun v25 => call (.func 24) [x0, v25, (.bool true)] h <| pz K fun v26 h => fadrK 7 x7 fun v27 => loadK h v27 fun v28 => lenK v28 fun v29 => l24_34 call n B3 n x0 x2 x10 x11 x12 v28 v29 (.int .i64 0) h K
noncomputable def p24_10 (call : CallFn) (n : Nat) (B3 : F5) (x0 x2 x10 x11 x12 : AV) (h : AHeap) (K : Kont) : Bool :=
  iadrK h 19 x10 x12 fun v3 => loadGK h 19 v3 fun v4 => allocK h [.int .i64 0, .str [], .str [], .nilSlc, .nilSlc, .nilSlc, .nilSlc, .nilSlc, .int .i64 0, .str [], .int .i64 0, .bool false, .int .i64 0, .str [], .nilSlc, .nilSlc, .str [], .str [], .nilSlc] 19 fun v5 h => storeNK h 19 v5 v4 fun h => fadrK 0 v5 fun v7 => loadK h v7 fun v8 => eqlK v8 (.int .i64 1) fun v9 => condK v9 (nilckK x0 fun v10 => fadrK 4 v10 fun v11 => loadK h v11 fun v12 => fadrK 2 v5 fun v13 => loadK h v13 fun v14 => nilckK x0 fun v15 => fadrK 3 v15 fun v16 => loadK h v16 fun v17 => buildK [.str [], .str [], .bool false] [(0, 1, v14), (1, 1, v17), (2, 1, x2)] fun v18 => buildK [] [] fun v19 => optPK (unit (mupdA h (.st [.str, .str, .bool]) v12 v18 v19)) fun _ h => p24_27 call n B3 x0 x2 v5 x10 x11 x12 h K) (eqlK v8 (.int .i64 9) fun v36 => condK v36 (fadrK 17 v5 fun v37 => loadK h v37 fun v38 => buildK [.str [], .bool false] [(0, 1, v38), (1, 1, x2)] fun v39 => call (.func 57) [x0, v39] h <| pz K fun v40 h => p24_27 call n B3 x0 x2 v5 x10 x11 x12 h K) (p24_27 call n B3 x0 x2 v5 x10 x11 x12 h K))
noncomputable def b24_3 (call : CallFn) (n : Nat) (B3 : F5) (x0 x2 x10 x11 x12 : AV) (h : AHeap) (K : Kont) : Bool :=
  lssK x12 x11 fun v2 => condK v2 (p24_10 call n B3 x0 x2 x10 x11 x12 h K) (K (.tup []) h)
noncomputable def l24_3 (call : CallFn) (n : Nat) : Nat → AV → AV → AV → AV → AV → AHeap → Kont → Bool :=
  @Nat.rec (fun _ => AV → AV → AV → AV → AV → AHeap → Kont → Bool) (fun _ _ _ _ _ _ _ => false) (fun _ ih x0 x2 x10 x11 x12 h K => b24_3 call n (fun x0 x2 x10 x11 x12 h => ih x0 x2 x10 x11 x12 h K) x0 x2 x10 x11 x12 h K)
noncomputable def s24 (call : CallFn) (n : Nat) (x0 x1 x2 : AV) (h : AHeap) (K : Kont) : Bool :=
  lenK x1 fun v1 => l24_3 call n n x0 x2 x1 v1 (.int .i64 0) h K

/-! ### 25 proctor/strat.Edges$1 -/
noncomputable def s25 (call : CallFn) (n : Nat) (x0 : AV) (h : AHeap) (K : Kont) : Bool :=
  condK x0 (K (.int .i64 1) h) (K (.int .i64 0) h)

/-! ### 26 slices.SortFunc[[]proctor/strat.Edge,proctor/strat.Edge] -/
noncomputable def p26_3001 (call : CallFn) (n : Nat) (x1 x7 x8 x11 : AV) (h : AHeap) (K : Kont) : Bool :=
  call (.func 58) [x7, (.int .i64 0), x8, x11, x1] h <| pz K fun v4 h => K (.tup []) h
noncomputable def s26 (call : CallFn) (n : Nat) (x0 x1 : AV) (h : AHeap) (K : Kont) : Bool :=
  lenK x0 fun v1 => optK (convA .u64 v1) fun v2 => call (.func 59) [v2] h <| pz K fun v3 h => p26_3001 call n x1 x0 v1 v3 h K

/-! ### 27 proctor/strat.Edges$2 -/
noncomputable def s27 (call : CallFn) (n : Nat) (x0 x1 x2 : AV) (h : AHeap) (K : Kont) : Bool :=
  optPK (boxA h (none) 3 x0) fun v1 h => optPK (boxA h (none) 3 x1) fun v2 h => fadrK 0 v1 fun v3 => loadK h v3 fun v4 => fadrK 0 v2 fun v5 => loadK h v5 fun v6 => fadrK 1 v1 fun v7 => loadK h v7 fun v8 => fadrK 1 v2 fun v9 => loadK h v9 fun v10 => loadK h x2 fun v11 => fadrK 2 v1 fun v12 => loadK h v12 fun v13 => loadK h x2 fun v14 => fadrK 2 v2 fun v15 => loadK h v15 fun v16 => call (.func 29) [v4, v6] h <| pz K fun v17 h => loadK h v7 <| sameK v8 <| loadK h v9 <| sameK v10 <| loadK h x2 <| sameK v11 <| loadK h v12 <| sameK v13 <| loadK h x2 <| sameK v14 <| loadK h v15 <| sameK v16 <| call (.func 29) [v8, v10] h <| pz K fun v18 h => loadK h x2 <| sameK v11 <| loadK h v12 <| sameK v13 <| loadK h x2 <| sameK v14 <| loadK h v15 <| sameK v16 <| callV call v11 [v13] h <| pz K fun v19 h => loadK h x2 <| sameK v14 <| loadK h v15 <| sameK v16 <| callV call v14 [v16] h <| pz K fun v20 h => call (.func 30) [v19, v20] h <| pz K fun v21 h => optPK (bsliceV h 3 1 [.int .i64 0] [(0, v17), (1, v18), (2, v21)]) fun v22 h => loadK h v3 <| sameK v4 <| loadK h v5 <| sameK v6 <| loadK h v7 <| sameK v8 <| loadK h v9 <| sameK v10 <| loadK h x2 <| sameK v11 <| loadK h v12 <| sameK v13 <| loadK h x2 <| sameK v14 <| loadK h v15 <| sameK v16 <| call (.func 28) [v22] h <| pz (goneQ [v22] K) fun v23 h => K v23 h

/-! ### 28 cmp.Or[int] -/
noncomputable def b28_8 (call : CallFn) (n : Nat) (B8 : F4) (x3 x6 x7 x8 : AV) (h : AHeap) (K : Kont) : Bool :=
  lssK x8 x7 fun v2 => condK v2 (iadrK h 1 x6 x8 fun v3 => loadK h v3 fun v4 => neqK v4 x3 fun v5 => condK v5 (K v4 h) (addK x8 (.int .i64 1) fun v6 => B8 x3 x6 x7 v6 h)) (K x3 h)
noncomputable def l28_8 (call : CallFn) (n : Nat) : Nat → AV → AV → AV → AV → AHeap → Kont → Bool :=
  @Nat.rec (fun _ => AV → AV → AV → AV → AHeap → Kont → Bool) (fun _ _ _ _ _ _ => false) (fun _ ih x3 x6 x7 x8 h K => b28_8 call n (fun x3 x6 x7 x8 h => ih x3 x6 x7 x8 h K) x3 x6 x7 x8 h K)
noncomputable def s28 (call : CallFn) (n : Nat) (x0 : AV) (h : AHeap) (K : Kont) : Bool :=
  lenK x0 fun v1 => l28_8 call n n (.int .i64 0) x0 v1 (.int .i64 0) h K

/-! ### 29 cmp.Compare[string] -/
noncomputable def s29 (call : CallFn) (n : Nat) (x0 x1 : AV) (h : AHeap) (K : Kont) : Bool :=
  call (.func 60) [x0] h <| pz K fun v1 h => call (.func 60) [x1] h <| pz K fun v2 h => condK v1 (condK v2 (K (.int .i64 0) h) (K (.int .i64 (-1)) h)) (condK v2 (K (.int .i64 1) h) (lssK x0 x1 fun v3 => condK v3 (K (.int .i64 (-1)) h) (gtrK x0 x1 fun v4 => condK v4 (K (.int .i64 1) h) (K (.int .i64 0) h))))

/-! ### 30 cmp.Compare[int] -/
noncomputable def s30 (call : CallFn) (n : Nat) (x0 x1 : AV) (h : AHeap) (K : Kont) : Bool :=
  call (.func 61) [x0] h <| pz K fun v1 h => call (.func 61) [x1] h <| pz K fun v2 h => condK v1 (condK v2 (K (.int .i64 0) h) (K (.int .i64 (-1)) h)) (condK v2 (K (.int .i64 1) h) (lssK x0 x1 fun v3 => condK v3 (K (.int .i64 (-1)) h) (gtrK x0 x1 fun v4 => condK v4 (K (.int .i64 1) h) (K (.int .i64 0) h))))

/-! ### 31 proctor/class.New -/
noncomputable def p31_39001 (call : CallFn) (n : Nat) (B16 : F5) (x0 x4 x6 x13 x14 x15 x43 : AV) (h : AHeap) (K : Kont) : Bool :=
  fadrK 2 x6 fun v35 => storeK h v35 x43 fun h => nilckK x4 fun v37 => fadrK 0 v37 fun v38 => loadK h v38 fun v39 => loadGK h 3 x6 fun v40 => optPK (bsliceV h 1 3 [.str [], .str [], .nilSlc] [(0, v40)]) fun v41 h => loadK h v38 <| sameK v39 <| loadGK h 3 x6 <| sameK v40 <| appK h 3 56 v39 v41 fun v42 h => nilckK x4 fun v43 => fadrK 0 v43 fun v44 => storeK h v44 v42 fun h => addK x15 (.int .i64 1) fun v46 => B16 x0 x4 x13 x14 v46 h
noncomputable def p31_30001 (call : CallFn) (n : Nat) (B16 : F5) (x0 x4 x6 x13 x14 x15 x23 x27 : AV) (h : AHeap) (K : Kont) : Bool :=
  gK x23 false (notK x27) fun v20 => pickK x23 (.bool true) v20 fun v21 => condK v21 (K (.tup [.nilPtr, (.int .i64 10)]) h) (nilckK x4 fun v22 => fadrK 1 v22 fun v23 => loadK h v23 fun v24 => fadrK 0 x6 fun v25 => loadK h v25 fun v26 => nilckK x4 fun v27 => fadrK 0 v27 fun v28 => loadK h v28 fun v29 => lenK v29 fun v30 => optPK (unit (mupdA h (.leaf .str) v24 v26 v30)) fun _ h => fadrK 2 x6 fun v32 => loadK h v32 fun v33 => call (.func 63) [v33] h <| pz K fun v34 h => p31_39001 call n B16 x0 x4 x6 x13 x14 x15 v34 h K)
noncomputable def b31_16 (call : CallFn) (n : Nat) (B16 : F5) (x0 x4 x13 x14 x15 : AV) (h : AHeap) (K : Kont) : Bool :=
  lssK x15 x14 fun v7 => condK v7 (iadrK h 3 x13 x15 fun v8 => loadGK h 3 v8 fun v9 => allocK h [.str [], .str [], .nilSlc] 3 fun v10 h => storeNK h 3 v10 v9 fun h => fadrK 2 v10 fun v12 => loadK h v12 fun v13 => lenK v13 fun v14 => gtrK v14 (.int .i64 62) fun v15 => gK v15 false (optK (some x4)) fun v16 => gK v15 false (loadGK h 3 v10) fun v17 => gK v15 false (optK (some x0)) fun v18 => gP v15 false (fun k => call (.func 62) [v16, v17, v18] h (pz K k)) h fun v19 h => p31_30001 call n B16 x0 x4 v10 x13 x14 x15 v15 v19 h K) (K (.tup [x4, (.int .i64 0)]) h)
noncomputable def l31_16 (call : CallFn) (n : Nat) : Nat → AV → AV → AV → AV → AV → AHeap → Kont → Bool :=
  @Nat.rec (fun _ => AV → AV → AV → AV → AV → AHeap → Kont → Bool) (fun _ _ _ _ _ _ _ => false) (fun _ ih x0 x4 x13 x14 x15 h K => b31_16 call n (fun x0 x4 x13 x14 x15 h => ih x0 x4 x13 x14 x15 h K) x0 x4 x13 x14 x15 h K)
noncomputable def p31_12 (call : CallFn) (n : Nat) (x0 x4 : AV) (h : AHeap) (K : Kont) : Bool :=
  lenK x0 fun v6 => l31_16 call n n x0 x4 x0 v6 (.int .i64 0) h K
noncomputable def s31 (call : CallFn) (n : Nat) (x0 : AV) (h : AHeap) (K : Kont) : Bool :=
  optPK (mkmapV h) fun v1 h => buildK [.nilSlc, .nilMap] [(1, 1, v1)] fun v2 => optPK (boxA h (none) 2 v2) fun v3 h => lenK x0 fun v4 => gtrK v4 (.int .i64 64) fun v5 => condK v5 (K (.tup [.nilPtr, (.int .i64 10)]) h) (p31_12 call n x0 v3 h K)

/-! ### 33 slices.IndexFunc[[][]string,[]string] -/
noncomputable def b33_6 (call : CallFn) (n : Nat) (B6 : F4) (x0 x1 x7 x8 : AV) (h : AHeap) (K : Kont) : Bool :=
  lssK x8 x7 fun v2 => condK v2 (iadrK h 1 x0 x8 fun v3 => loadK h v3 fun v4 => callV call x1 [v4] h <| pz K fun v5 h => condK v5 (K x8 h) (addK x8 (.int .i64 1) fun v6 => B6 x0 x1 x7 v6 h)) (K (.int .i64 (-1)) h)
noncomputable def l33_6 (call : CallFn) (n : Nat) : Nat → AV → AV → AV → AV → AHeap → Kont → Bool :=
  @Nat.rec (fun _ => AV → AV → AV → AV → AHeap → Kont → Bool) (fun _ _ _ _ _ _ => false) (fun _ ih x0 x1 x7 x8 h K => b33_6 call n (fun x0 x1 x7 x8 h => ih x0 x1 x7 x8 h K) x0 x1 x7 x8 h K)
noncomputable def s33 (call : CallFn) (n : Nat) (x0 x1 : AV) (h : AHeap) (K : Kont) : Bool :=
  lenK x0 fun v1 => l33_6 call n n x0 x1 v1 (.int .i64 0) h K

/-! ### 36 proctor/parse.operators -/
set_option maxRecDepth 100000 in
noncomputable def s36 (call : CallFn) (n : Nat) (h : AHeap) (K : Kont) : Bool :=
  optPK (mkmapV h) fun v1 h => optPK (mkmapV h) fun v2 h => optPK (unit (mupdA h (.leaf .str) v2 (.str [124, 124]) (.int .i64 9))) fun _ h => optPK (unit (mupdA h (.leaf .int) v1 (.int .i64 0) v2)) fun _ h => optPK (mkmapV h) fun v5 h => optPK (unit (mupdA h (.leaf .str) v5 (.str [38, 38]) (.int .i64 8))) fun _ h => optPK (unit (mupdA h (.leaf .int) v1 (.int .i64 1) v5)) fun _ h => optPK (mkmapV h) fun v8 h => optPK (unit (mupdA h (.leaf .str) v8 (.str [61, 61]) (.int .i64 10))) fun _ h => optPK (unit (mupdA h (.leaf .str) v8 (.str [33, 61]) (.int .i64 11))) fun _ h => optPK (unit (mupdA h (.leaf .str) v8 (.str [60]) (.int .i64 12))) fun _ h => optPK (unit (mupdA h (.leaf .str) v8 (.str [60, 61]) (.int .i64 13))) fun _ h => optPK (unit (mupdA h (.leaf .str) v8 (.str [62]) (.int .i64 14))) fun _ h => optPK (unit (mupdA h (.leaf .str) v8 (.str [62, 61]) (.int .i64 15))) fun _ h => optPK (unit (mupdA h (.leaf .int) v1 (.int .i64 2) v8)) fun _ h => optPK (mkmapV h) fun v16 h => optPK (unit (mupdA h (.leaf .str) v16 (.str [43]) (.int .i64 16))) fun _ h => optPK (unit (mupdA h (.leaf .str) v16 (.str [45]) (.int .i64 17))) fun _ h => optPK (unit (mupdA h (.leaf .int) v1 (.int .i64 3) v16)) fun _ h => optPK (mkmapV h) fun v20 h => optPK (unit (mupdA h (.leaf .str) v20 (.str [42]) (.int .i64 18))) fun _ h => optPK (unit (mupdA h (.leaf .str) v20 (.str [47]) (.int .i64 19))) fun _ h => optPK (unit (mupdA h (.leaf .str) v20 (.str [37]) (.int .i64 20))) fun _ h => optPK (unit (mupdA h (.leaf .int) v1 (.int .i64 4) v20)) fun _ h => K v1 h

/-! ### 37 (*proctor/parse.parser).need -/
noncomputable def p37_4001 (call : CallFn) (n : Nat) (x7 : AV) (h : AHeap) (K : Kont) : Bool :=
  call (.func 66) [x7] h <| pz K fun v3 h => K (.tup []) h
noncomputable def s37 (call : CallFn) (n : Nat) (x0 x1 : AV) (h : AHeap) (K : Kont) : Bool :=
  notK x1 fun v1 => condK v1 (call (.func 67) [x0] h <| pz K fun v2 h => p37_4001 call n v2 h K) (K (.tup []) h)

/-! ### 38 (*proctor/parse.parser).is -/
noncomputable def p38_6001 (call : CallFn) (n : Nat) (x15 x19 x23 x25 : AV) (h : AHeap) (K : Kont) : Bool :=
  gK x19 false (pickK x23 x25 (.bool false)) fun v17 => gK x15 true (pickK x19 (.bool true) v17) fun v18 => pickK x15 v18 (.bool false) fun v19 => K v19 h
noncomputable def p38_4001 (call : CallFn) (n : Nat) (x2 x10 : AV) (h : AHeap) (K : Kont) : Bool :=
  allocK h [.int .i64 0, .str [], .int .i64 0, .int .i64 0] 4 fun v2 h => storeNK h 4 v2 x10 fun h => fadrK 1 v2 fun v4 => loadK h v4 fun v5 => eqlK v5 x2 fun v6 => gK v6 true (fadrK 0 v2) fun v7 => gK v6 true (loadK h v7) fun v8 => gK v6 true (eqlK v8 (.int .i64 4)) fun v9 => gK v6 true (optK (some v9)) fun v10 => gK v10 false (fadrK 0 v2) fun v11 => gK v10 false (loadK h v11) fun v12 => gK v10 false (eqlK v12 (.int .i64 0)) fun v13 => gK v10 false (optK (some v13)) fun v14 => gK v14 true (optK (some x2)) fun v15 => gP v14 true (fun k => call (.func 69) [v15] h (pz K k)) h fun v16 h => p38_6001 call n v6 v10 v14 v16 h K
noncomputable def s38 (call : CallFn) (n : Nat) (x0 x1 x2 : AV) (h : AHeap) (K : Kont) : Bool :=
  call (.func 68) [x0, x1] h <| pz K fun v1 h => p38_4001 call n x2 v1 h K

/-! ### 39 (*proctor/parse.parser).name -/
noncomputable def p39_4002 (call : CallFn) (n : Nat) (x0 x3 x6 x8 : AV) (h : AHeap) (K : Kont) : Bool :=
  gK x6 true (fldK 1 x8) fun v4 => gK x6 true (lenSK v4) fun v5 => gK x6 true (leqK v5 (.int .i64 64)) fun v6 => pickK x6 v6 (.bool false) fun v7 => call (.func 37) [x3, v7] h <| pz K fun v8 h => call (.func 70) [x0] h <| pz K fun v9 h => K v9 h
noncomputable def p39_4001 (call : CallFn) (n : Nat) (x0 x3 x5 : AV) (h : AHeap) (K : Kont) : Bool :=
  gK x5 true (optK (some x0)) fun v2 => gP x5 true (fun k => call (.func 68) [v2, (.int .i64 0)] h (pz K k)) h fun v3 h => p39_4002 call n x0 x3 x5 v3 h K
noncomputable def s39 (call : CallFn) (n : Nat) (x0 : AV) (h : AHeap) (K : Kont) : Bool :=
  call (.func 41) [x0, (.int .i64 0)] h <| pz K fun v1 h => p39_4001 call n x0 x0 v1 h K

/-! ### 40 (*proctor/parse.parser).opens -/
noncomputable def s40 (call : CallFn) (n : Nat) (x0 x1 : AV) (h : AHeap) (K : Kont) : Bool :=
  call (.func 67) [x0] h <| pz K fun v1 h => optPK (bsliceV h 1 1 [.str []] [(0, x1)]) fun v2 h => call (.func 21) [x0, v2] h <| pz K fun v3 h => call (.func 71) [x0, v1] h <| pz K fun v4 h => K (.tup []) h

/-! ### 41 (*proctor/parse.parser).named -/
noncomputable def p41_6001 (call : CallFn) (n : Nat) (x12 x15 : AV) (h : AHeap) (K : Kont) : Bool :=
  gK x12 true (notK x15) fun v10 => pickK x12 v10 (.bool false) fun v11 => K v11 h
noncomputable def p41_4001 (call : CallFn) (n : Nat) (x8 : AV) (h : AHeap) (K : Kont) : Bool :=
  allocK h [.int .i64 0, .str [], .int .i64 0, .int .i64 0] 4 fun v2 h => storeNK h 4 v2 x8 fun h => fadrK 0 v2 fun v4 => loadK h v4 fun v5 => eqlK v5 (.int .i64 0) fun v6 => gK v6 true (fadrK 1 v2) fun v7 => gK v6 true (loadK h v7) fun v8 => gP v6 true (fun k => call (.func 69) [v8] h (pz K k)) h fun v9 h => p41_6001 call n v6 v9 h K
noncomputable def s41 (call : CallFn) (n : Nat) (x0 x1 : AV) (h : AHeap) (K : Kont) : Bool :=
  call (.func 68) [x0, x1] h <| pz K fun v1 h => p41_4001 call n v1 h K

/-! ### 42 (*proctor/parse.parser).field -/
noncomputable def p42_31 (call : CallFn) (n : Nat) (x2 x3 : AV) (h : AHeap) (K : Kont) : Bool :=
  loadGK h 3 x3 fun v11 => storeNK h 3 x2 v11 fun h => optR (resV h [(x2, some (true, 3))]) h K
noncomputable def p42_31001 (call : CallFn) (n : Nat) (x2 x3 x14 : AV) (h : AHeap) (K : Kont) : Bool :=
  fadrK 1 x3 fun v28 => storeK h v28 (.int .i64 5) fun h => fadrK 2 x3 fun v30 => storeK h v30 x14 fun h => p42_31 call n x2 x3 h K
noncomputable def p42_4001 (call : CallFn) (n : Nat) (x0 x2 x5 : AV) (h : AHeap) (K : Kont) : Bool :=
  buildK [.str [], .int .i64 0, .str []] [(0, 1, x5)] fun v3 => allocK h [.str [], .int .i64 0, .str []] 3 fun v4 h => storeNK h 3 v4 v3 fun h => optPK (bsliceV h 1 1 [.str []] [(0, (.str [58]))]) fun v6 h => call (.func 21) [x0, v6] h <| pz K fun v7 h => call (.func 18) [x0, (.str [105, 110, 116])] h <| pz K fun v8 h => condK v8 (fadrK 1 v4 fun v9 => storeK h v9 (.int .i64 2) fun h => p42_31 call n x2 v4 h K) (call (.func 18) [x0, (.str [98, 111, 111, 108])] h <| pz K fun v13 h => condK v13 (fadrK 1 v4 fun v14 => storeK h v14 (.int .i64 1) fun h => p42_31 call n x2 v4 h K) (call (.func 18) [x0, (.str [116, 101, 120, 116])] h <| pz K fun v16 h => condK v16 (fadrK 1 v4 fun v17 => storeK h v17 (.int .i64 3) fun h => p42_31 call n x2 v4 h K) (call (.func 18) [x0, (.str [108, 105, 115, 116])] h <| pz K fun v19 h => condK v19 (fadrK 1 v4 fun v20 => storeK h v20 (.int .i64 4) fun h => p42_31 call n x2 v4 h K) (call (.func 18) [x0, (.str [97, 110, 121])] h <| pz K fun v22 h => condK v22 (fadrK 1 v4 fun v23 => storeK h v23 (.int .i64 0) fun h => p42_31 call n x2 v4 h K) (optPK (bsliceV h 1 1 [.str []] [(0, (.str [114, 101, 102]))]) fun v25 h => call (.func 21) [x0, v25] h <| pz K fun v26 h => call (.func 39) [x0] h <| pz K fun v27 h => p42_31001 call n x2 v4 v27 h K)))))
noncomputable def s42 (call : CallFn) (n : Nat) (x0 : AV) (h : AHeap) (K : Kont) : Bool :=
  allocK h [.str [], .int .i64 0, .str []] 3 fun v1 h => call (.func 39) [x0] h <| pz K fun v2 h => p42_4001 call n x0 v1 v2 h K

/-! ### 43 (*proctor/parse.parser).closes -/
noncomputable def s43 (call : CallFn) (n : Nat) (x0 x1 : AV) (h : AHeap) (K : Kont) : Bool :=
  optPK (bsliceV h 1 1 [.str []] [(0, x1)]) fun v1 h => call (.func 21) [x0, v1] h <| pz K fun v2 h => nilckK x0 fun v3 => fadrK 3 v3 fun v4 => loadK h v4 fun v5 => subK v5 (.int .i64 1) fun v6 => nilckK x0 fun v7 => fadrK 3 v7 fun v8 => storeK h v8 v6 fun h => K (.tup []) h

/-! ### 44 (*proctor/parse.parser).quoted -/
noncomputable def p44_4001 (call : CallFn) (n : Nat) (x0 x3 x5 : AV) (h : AHeap) (K : Kont) : Bool :=
  call (.func 37) [x3, x5] h <| pz K fun v2 h => call (.func 70) [x0] h <| pz K fun v3 h => K v3 h
noncomputable def s44 (call : CallFn) (n : Nat) (x0 : AV) (h : AHeap) (K : Kont) : Bool :=
  call (.func 72) [x0, (.int .i64 3)] h <| pz K fun v1 h => p44_4001 call n x0 x0 v1 h K

/-! ### 46 (*proctor/parse.parser).conds -/
noncomputable def p46_31001 (call : CallFn) (n : Nat) (B5 : F3) (x0 x1 x19 x21 : AV) (h : AHeap) (K : Kont) : Bool :=
  optPK (bsliceV h 1 19 [.int .i64 0, .str [], .str [], .nilSlc, .nilSlc, .nilSlc, .nilSlc, .nilSlc, .int .i64 0, .str [], .int .i64 0, .bool false, .int .i64 0, .str [], .nilSlc, .nilSlc, .str [], .str [], .nilSlc] [(0, x21)]) fun v8 h => appK h 19 328 x19 v8 fun v9 h => B5 x0 x1 v9 h
noncomputable def p46_30 (call : CallFn) (n : Nat) (B5 : F3) (x0 x1 x5 : AV) (h : AHeap) (K : Kont) : Bool :=
  call (.func 74) [x0] h <| pz K fun v7 h => p46_31001 call n B5 x0 x1 x5 v7 h K
noncomputable def b46_11 (call : CallFn) (n : Nat) (B5 : F3) (B11 : F6) (x0 x1 x5 x8 x9 x10 : AV) (h : AHeap) (K : Kont) : Bool :=
  lssK x10 x9 fun v2 => condK v2 (iadrK h 1 x8 x10 fun v3 => loadK h v3 fun v4 => call (.func 38) [x0, (.int .i64 0), v4] h <| pz K fun v5 h => condK v5 (K x5 h) (addK x10 (.int .i64 1) fun v6 => B11 x0 x1 x5 x8 x9 v6 h)) (p46_30 call n B5 x0 x1 x5 h K)
noncomputable def l46_11 (call : CallFn) (n : Nat) (B5 : F3) : Nat → AV → AV → AV → AV → AV → AV → AHeap → Kont → Bool :=
  @Nat.rec (fun _ => AV → AV → AV → AV → AV → AV → AHeap → Kont → Bool) (fun _ _ _ _ _ _ _ _ => false) (fun _ ih x0 x1 x5 x8 x9 x10 h K => b46_11 call n B5 (fun x0 x1 x5 x8 x9 x10 h => ih x0 x1 x5 x8 x9 x10 h K) x0 x1 x5 x8 x9 x10 h K)
noncomputable def b46_5 (call : CallFn) (n : Nat) (B5 : F3) (x0 x1 x5 : AV) (h : AHeap) (K : Kont) : Bool :=
  lenK x1 fun v1 => l46_11 call n B5 n x0 x1 x5 x1 v1 (.int .i64 0) h K
noncomputable def l46_5 (call : CallFn) (n : Nat) : Nat → AV → AV → AV → AHeap → Kont → Bool :=
  @Nat.rec (fun _ => AV → AV → AV → AHeap → Kont → Bool) (fun _ _ _ _ _ => false) (fun _ ih x0 x1 x5 h K => b46_5 call n (fun x0 x1 x5 h => ih x0 x1 x5 h K) x0 x1 x5 h K)
noncomputable def s46 (call : CallFn) (n : Nat) (x0 x1 : AV) (h : AHeap) (K : Kont) : Bool :=
  l46_5 call n n x0 x1 .nilSlc h K

/-! ### 47 (*proctor/parse.parser).action -/
noncomputable def p47_45 (call : CallFn) (n : Nat) (x0 x2 x3 : AV) (h : AHeap) (K : Kont) : Bool :=
  optPK (bsliceV h 1 1 [.str []] [(0, (.str [59]))]) fun v16 h => call (.func 21) [x0, v16] h <| pz K fun v17 h => loadGK h 12 x3 fun v18 => storeNK h 12 x2 v18 fun h => optR (resV h [(x2, some (true, 12))]) h K
noncomputable def p47_24001 (call : CallFn) (n : Nat) (x0 x2 x3 x22 : AV) (h : AHeap) (K : Kont) : Bool :=
  fadrK 2 x3 fun v14 => storeK h v14 x22 fun h => p47_45 call n x0 x2 x3 h K
noncomputable def p47_23001 (call : CallFn) (n : Nat) (x0 x2 x3 x19 : AV) (h : AHeap) (K : Kont) : Bool :=
  fadrK 1 x3 fun v11 => storeK h v11 x19 fun h => call (.func 75) [x0, (.int .i64 0)] h <| pz K fun v13 h => p47_24001 call n x0 x2 x3 v13 h K
noncomputable def p47_21 (call : CallFn) (n : Nat) (x0 x2 x3 : AV) (h : AHeap) (K : Kont) : Bool :=
  call (.func 39) [x0] h <| pz K fun v10 h => p47_23001 call n x0 x2 x3 v10 h K
noncomputable def p47_18001 (call : CallFn) (n : Nat) (x0 x2 x3 x15 : AV) (h : AHeap) (K : Kont) : Bool :=
  eqlK x15 (.str [108, 111, 103, 105, 99, 97, 108]) fun v7 => condK v7 (fadrK 0 x3 fun v8 => storeK h v8 (.int .i64 2) fun h => p47_21 call n x0 x2 x3 h K) (p47_21 call n x0 x2 x3 h K)
noncomputable def p47_30001 (call : CallFn) (n : Nat) (x0 x2 x3 x32 : AV) (h : AHeap) (K : Kont) : Bool :=
  fadrK 2 x3 fun v27 => storeK h v27 x32 fun h => p47_45 call n x0 x2 x3 h K
noncomputable def p47_29001 (call : CallFn) (n : Nat) (x0 x2 x3 x28 : AV) (h : AHeap) (K : Kont) : Bool :=
  fadrK 0 x3 fun v22 => storeK h v22 (.int .i64 3) fun h => fadrK 3 x3 fun v24 => storeNK h 8 v24 x28 fun h => call (.func 75) [x0, (.int .i64 1)] h <| pz K fun v26 h => p47_30001 call n x0 x2 x3 v26 h K
noncomputable def p47_34001 (call : CallFn) (n : Nat) (x0 x2 x3 x38 : AV) (h : AHeap) (K : Kont) : Bool :=
  fadrK 0 x3 fun v31 => storeK h v31 (.int .i64 4) fun h => fadrK 3 x3 fun v33 => storeNK h 8 v33 x38 fun h => p47_45 call n x0 x2 x3 h K
noncomputable def p47_38001 (call : CallFn) (n : Nat) (x0 x2 x3 x45 : AV) (h : AHeap) (K : Kont) : Bool :=
  fadrK 0 x3 fun v37 => storeK h v37 (.int .i64 5) fun h => fadrK 11 x3 fun v39 => storeK h v39 x45 fun h => p47_45 call n x0 x2 x3 h K
noncomputable def p47_42001 (call : CallFn) (n : Nat) (x0 x2 x3 x52 : AV) (h : AHeap) (K : Kont) : Bool :=
  fadrK 0 x3 fun v43 => storeK h v43 (.int .i64 6) fun h => fadrK 3 x3 fun v45 => storeNK h 8 v45 x52 fun h => p47_45 call n x0 x2 x3 h K
noncomputable def p47_12 (call : CallFn) (n : Nat) (x0 x2 x3 x8 : AV) (h : AHeap) (K : Kont) : Bool :=
  condK x8 (fadrK 0 x3 fun v4 => storeK h v4 (.int .i64 1) fun h => call (.func 70) [x0] h <| pz K fun v6 h => p47_18001 call n x0 x2 x3 v6 h K) (call (.func 18) [x0, (.str [117, 112, 100, 97, 116, 101])] h <| pz K fun v20 h => condK v20 (call (.func 76) [x0] h <| pz K fun v21 h => p47_29001 call n x0 x2 x3 v21 h K) (call (.func 18) [x0, (.str [100, 101, 108, 101, 116, 101])] h <| pz K fun v29 h => condK v29 (call (.func 76) [x0] h <| pz K fun v30 h => p47_34001 call n x0 x2 x3 v30 h K) (call (.func 18) [x0, (.str [102, 111, 99, 117, 115])] h <| pz K fun v35 h => condK v35 (call (.func 44) [x0] h <| pz K fun v36 h => p47_38001 call n x0 x2 x3 v36 h K) (call (.func 18) [x0, (.str [112, 114, 105, 110, 116])] h <| pz K fun v41 h => condK v41 (call (.func 76) [x0] h <| pz K fun v42 h => p47_42001 call n x0 x2 x3 v42 h K) (optPK (bsliceV h 1 1 [.str []] [(0, (.str [104, 97, 108, 116]))]) fun v47 h => call (.func 21) [x0, v47] h <| pz K fun v48 h => fadrK 0 x3 fun v49 => storeK h v49 (.int .i64 7) fun h => p47_45 call n x0 x2 x3 h K)))))
noncomputable def s47 (call : CallFn) (n : Nat) (x0 : AV) (h : AHeap) (K : Kont) : Bool :=
  allocK h [.int .i64 0, .str [], .nilSlc, .int .i64 0, .str [], .int .i64 0, .bool false, .int .i64 0, .str [], .nilSlc, .nilSlc, .str []] 12 fun v1 h => allocK h [.int .i64 0, .str [], .nilSlc, .int .i64 0, .str [], .int .i64 0, .bool false, .int .i64 0, .str [], .nilSlc, .nilSlc, .str []] 12 fun v2 h => call (.func 38) [x0, (.int .i64 0), (.str [105, 110, 115, 101, 114, 116])] h <| pz K fun v3 h => condK v3 (p47_12 call n x0 v1 v2 v3 h K) (call (.func 38) [x0, (.int .i64 0), (.str [108, 111, 103, 105, 99, 97, 108])] h <| pz K fun v51 h => p47_12 call n x0 v1 v2 v51 h K)

/-! ### 48 (*proctor/parse.parser).list -/
noncomputable def p48_15 (call : CallFn) (n : Nat) (x0 x1 : AV) (h : AHeap) (K : Kont) : Bool :=
  call (.func 43) [x0, x1] h <| pz K fun v14 h => K (.tup []) h
noncomputable def p48_8002 (call : CallFn) (n : Nat) (B4 : F4) (x0 x1 x2 x14 x17 x19 : AV) (h : AHeap) (K : Kont) : Bool :=
  gK x14 false (pickK x17 x19 (.bool false)) fun v11 => pickK x14 (.bool true) v11 fun v12 => condK v12 (callV call x2 [] h <| pz K fun v13 h => B4 x0 x1 x2 (.bool false) h) (p48_15 call n x0 x1 h K)
noncomputable def p48_8001 (call : CallFn) (n : Nat) (B4 : F4) (x0 x1 x2 x6 x8 x11 : AV) (h : AHeap) (K : Kont) : Bool :=
  gK x8 true (notK x11) fun v4 => pickK x8 v4 (.bool false) fun v5 => gK v5 false (optK (some x6)) fun v6 => gK v5 false (notK v6) fun v7 => gK v5 false (optK (some v7)) fun v8 => gK v8 true (optK (some x0)) fun v9 => gP v8 true (fun k => call (.func 18) [v9, (.str [44])] h (pz K k)) h fun v10 h => p48_8002 call n B4 x0 x1 x2 v5 v8 v10 h K
noncomputable def b48_4 (call : CallFn) (n : Nat) (B4 : F4) (x0 x1 x2 x6 : AV) (h : AHeap) (K : Kont) : Bool :=
  gK x6 true (optK (some x0)) fun v1 => gK x6 true (optK (some x1)) fun v2 => gP x6 true (fun k => call (.func 38) [v1, (.int .i64 0), v2] h (pz K k)) h fun v3 h => p48_8001 call n B4 x0 x1 x2 x6 x6 v3 h K
noncomputable def l48_4 (call : CallFn) (n : Nat) : Nat → AV → AV → AV → AV → AHeap → Kont → Bool :=
  @Nat.rec (fun _ => AV → AV → AV → AV → AHeap → Kont → Bool) (fun _ _ _ _ _ _ => false) (fun _ ih x0 x1 x2 x6 h K => b48_4 call n (fun x0 x1 x2 x6 h => ih x0 x1 x2 x6 h K) x0 x1 x2 x6 h K)
noncomputable def s48 (call : CallFn) (n : Nat) (x0 x1 x2 : AV) (h : AHeap) (K : Kont) : Bool :=
  l48_4 call n n x0 x1 x2 (.bool true) h K

/-! ### 49 (*proctor/parse.parser).query$1 -/
noncomputable def s49 (call : CallFn) (n : Nat) (x0 x1 : AV) (h : AHeap) (K : Kont) : Bool :=
  fadrK 1 x0 fun v1 => loadK h v1 fun v2 => loadK h x1 fun v3 => call (.func 50) [v3] h <| pz K fun v4 h => loadK h v1 <| sameK v2 <| optPK (bsliceV h 1 1 [.str []] [(0, v4)]) fun v5 h => loadK h v1 <| sameK v2 <| loadK h x1 <| sameK v3 <| appK h 1 16 v2 v5 fun v6 h => fadrK 1 x0 fun v7 => storeK h v7 v6 fun h => K (.tup []) h

/-! ### 50 (*proctor/parse.parser).variable -/
noncomputable def p50_4002 (call : CallFn) (n : Nat) (x0 x3 x6 x8 : AV) (h : AHeap) (K : Kont) : Bool :=
  gK x6 true (fldK 1 x8) fun v4 => gK x6 true (lenSK v4) fun v5 => gK x6 true (leqK v5 (.int .i64 64)) fun v6 => pickK x6 v6 (.bool false) fun v7 => call (.func 37) [x3, v7] h <| pz K fun v8 h => call (.func 70) [x0] h <| pz K fun v9 h => K v9 h
noncomputable def p50_4001 (call : CallFn) (n : Nat) (x0 x3 x5 : AV) (h : AHeap) (K : Kont) : Bool :=
  gK x5 true (optK (some x0)) fun v2 => gP x5 true (fun k => call (.func 68) [v2, (.int .i64 0)] h (pz K k)) h fun v3 h => p50_4002 call n x0 x3 x5 v3 h K
noncomputable def s50 (call : CallFn) (n : Nat) (x0 : AV) (h : AHeap) (K : Kont) : Bool :=
  call (.func 72) [x0, (.int .i64 1)] h <| pz K fun v1 h => p50_4001 call n x0 x0 v1 h K

/-! ### 51 proctor/print.Print -/
noncomputable def p51_24001 (call : CallFn) (n : Nat) (x29 : AV) (h : AHeap) (K : Kont) : Bool :=
  extK 0 x29 fun v19 => extK 1 x29 fun v20 => K (.tup [v19, v20]) h
noncomputable def p51_17001 (call : CallFn) (n : Nat) (x4 x22 x25 : AV) (h : AHeap) (K : Kont) : Bool :=
  gK x22 false (notK x25) fun v16 => pickK x22 (.bool true) v16 fun v17 => condK v17 (K (.tup [(.str []), (.int .i64 1)]) h) (call (.func 82) [x4] h <| pz K fun v18 h => p51_24001 call n v18 h K)
noncomputable def p51_15001 (call : CallFn) (n : Nat) (x1 x4 x17 : AV) (h : AHeap) (K : Kont) : Bool :=
  extK 0 x17 fun v8 => extK 1 x17 fun v9 => allocK h [.nilSlc, .nilSlc, .nilSlc] 3 fun v10 h => storeNK h 3 v10 v8 fun h => notK v9 fun v12 => gK v12 false (loadGK h 3 x1) fun v13 => gK v12 false (loadGK h 3 v10) fun v14 => gP v12 false (fun k => call (.func 81) [v13, v14] h (pz K k)) h fun v15 h => p51_17001 call n x4 v12 v15 h K
noncomputable def p51_4001 (call : CallFn) (n : Nat) (x1 x10 : AV) (h : AHeap) (K : Kont) : Bool :=
  extK 0 x10 fun v4 => extK 1 x10 fun v5 => notK v5 fun v6 => condK v6 (K (.tup [(.str []), (.int .i64 1)]) h) (call (.func 80) [v4] h <| pz K fun v7 h => p51_15001 call n x1 v4 v7 h K)
noncomputable def s51 (call : CallFn) (n : Nat) (x0 : AV) (h : AHeap) (K : Kont) : Bool :=
  optPK (boxA h (none) 3 x0) fun v1 h => optK (some (.fn (.func 78) [] [v1])) fun v2 => call (.func 77) [v2] h <| pz K fun v3 h => p51_4001 call n v1 v3 h K

/-! ### 52 (*proctor/check.checker).names -/
noncomputable def p52_16 (call : CallFn) (n : Nat) (x0 x8 x9 : AV) (h : AHeap) (K : Kont) : Bool :=
  gK x9 true (optK (some x0)) fun v17 => gK x9 true (nilckK v17) fun v18 => gK x9 true (fadrK 0 v18) fun v19 => gK x9 true (fadrK 1 v19) fun v20 => gK x9 true (loadK h v20) fun v21 => gK x9 true (lenK v21) fun v22 => gK x9 true (optK (some x0)) fun v23 => gK x9 true (nilckK v23) fun v24 => gK x9 true (fadrK 0 v24) fun v25 => gK x9 true (fadrK 2 v25) fun v26 => gK x9 true (loadK h v26) fun v27 => gK x9 true (lenK v27) fun v28 => gK x9 true (addK v22 v28) fun v29 => gK x9 true (gtrK v29 (.int .i64 256)) fun v30 => pickK x9 v30 (.bool false) fun v31 => condK v31 (K (.tup [(.str []), (.bool false)]) h) (K (.tup [x8, x9]) h)
noncomputable def p52_15001 (call : CallFn) (n : Nat) (x0 x23 : AV) (h : AHeap) (K : Kont) : Bool :=
  extK 0 x23 fun v15 => extK 1 x23 fun v16 => p52_16 call n x0 v15 v16 h K
noncomputable def p52_10001 (call : CallFn) (n : Nat) (x0 x7 x16 : AV) (h : AHeap) (K : Kont) : Bool :=
  extK 0 x16 fun v12 => extK 1 x16 fun v13 => condK v13 (call (.func 87) [x0, x7, (.fn (.func 90) [] [])] h <| pz K fun v14 h => p52_15001 call n x0 v14 h K) (p52_16 call n x0 v12 v13 h K)
noncomputable def s52 (call : CallFn) (n : Nat) (x0 : AV) (h : AHeap) (K : Kont) : Bool :=
  optPK (mkmapV h) fun v1 h => optPK (mkmapV h) fun v2 h => allocK h [.nilMap] 1 fun v3 h => allocK h [.nilMap] 1 fun v4 h => storeK h v3 v1 fun h => storeK h v4 v2 fun h => allocK h [.nilFn] 1 fun v7 h => storeK h v7 (.fn (.func 83) [] []) fun h => optK (some (.fn (.func 88) [] [v7, v3])) fun v9 => optK (some (.fn (.func 89) [] [v7, v4])) fun v10 => call (.func 87) [x0, v9, v10] h <| pz K fun v11 h => p52_10001 call n x0 (.fn (.func 86) [] []) v11 h K

/-! ### 53 (*proctor/check.checker).conditions -/
noncomputable def p53_4001 (call : CallFn) (n : Nat) (x7 : AV) (h : AHeap) (K : Kont) : Bool :=
  extK 0 x7 fun v6 => extK 1 x7 fun v7 => K (.tup [v6, v7]) h
noncomputable def s53 (call : CallFn) (n : Nat) (x0 : AV) (h : AHeap) (K : Kont) : Bool :=
  boxK h x0 fun v1 h => loadK h v1 fun v2 => optK (some (.fn (.func 92) [] [v1])) fun v3 => optK (some (.fn (.func 96) [] [v1])) fun v4 => call (.func 87) [v2, v3, v4] h <| pz K fun v5 h => p53_4001 call n v5 h K

/-! ### 54 (*proctor/check.checker).actions -/
noncomputable def p54_4001 (call : CallFn) (n : Nat) (x6 : AV) (h : AHeap) (K : Kont) : Bool :=
  extK 0 x6 fun v5 => extK 1 x6 fun v6 => K (.tup [v5, v6]) h
noncomputable def s54 (call : CallFn) (n : Nat) (x0 : AV) (h : AHeap) (K : Kont) : Bool :=
  boxK h x0 fun v1 h => loadK h v1 fun v2 => optK (some (.fn (.func 99) [] [v1])) fun v3 => call (.func 87) [v2, v3, (.fn (.func 102) [] [])] h <| pz K fun v4 h => p54_4001 call n v4 h K

/-! ### 55 (*proctor/check.checker).queries -/
noncomputable def p55_76 (call : CallFn) (n : Nat) (B33 : F5) (B46 : F8) (B60 : F11) (x1 x4 x5 x6 x9 x11 x50 x51 x52 x56 x57 : AV) (h : AHeap) (K : Kont) : Bool :=
  addK x57 (.int .i64 1) fun v74 => B60 x1 x4 x5 x6 x9 x11 x50 x51 x52 x56 v74 h
noncomputable def p55_77 (call : CallFn) (n : Nat) (B33 : F5) (B46 : F8) (x1 x4 x5 x6 x9 x50 x51 x52 : AV) (h : AHeap) (K : Kont) : Bool :=
  addK x52 (.int .i64 1) fun v75 => B46 x1 x4 x5 x6 x9 x50 x51 v75 h
noncomputable def b55_60 (call : CallFn) (n : Nat) (B33 : F5) (B46 : F8) (B60 : F11) (x1 x4 x5 x6 x9 x11 x50 x51 x52 x56 x57 : AV) (h : AHeap) (K : Kont) : Bool :=
  lssK x57 x56 fun v49 => condK v49 (loadK h x6 fun v50 => fadrK 1 x11 fun v51 => loadK h v51 fun v52 => iadrK h 1 v50 v52 fun v53 => loadK h v53 fun v54 => iadrK h 1 v54 x57 fun v55 => loadK h v55 fun v56 => gK v56 true (loadK h x6) fun v57 => gK v56 true (fadrK 0 x11) fun v58 => gK v56 true (loadK h v58) fun v59 => gK v56 true (iadrK h 1 v57 v59) fun v60 => gK v56 true (loadK h v60) fun v61 => gK v56 true (optK (some x57)) fun v62 => gK v56 true (iadrK h 1 v61 v62) fun v63 => gK v56 true (loadK h v63) fun v64 => gK v56 true (notK v64) fun v65 => pickK v56 v65 (.bool false) fun v66 => condK v66 (loadK h x6 fun v67 => fadrK 0 x11 fun v68 => loadK h v68 fun v69 => iadrK h 1 v67 v69 fun v70 => loadK h v70 fun v71 => iadrK h 1 v71 x57 fun v72 => storeK h v72 (.bool true) fun h => p55_76 call n B33 B46 B60 x1 x4 x5 x6 (.bool true) x11 x50 x51 x52 x56 x57 h K) (p55_76 call n B33 B46 B60 x1 x4 x5 x6 x9 x11 x50 x51 x52 x56 x57 h K)) (p55_77 call n B33 B46 x1 x4 x5 x6 x9 x50 x51 x52 h K)
noncomputable def l55_60 (call : CallFn) (n : Nat) (B33 : F5) (B46 : F8) : Nat → AV → AV → AV → AV → AV → AV → AV → AV → AV → AV → AV → AHeap → Kont → Bool :=
  @Nat.rec (fun _ => AV → AV → AV → AV → AV → AV → AV → AV → AV → AV → AV → AHeap → Kont → Bool) (fun _ _ _ _ _ _ _ _ _ _ _ _ _ => false) (fun _ ih x1 x4 x5 x6 x9 x11 x50 x51 x52 x56 x57 h K => b55_60 call n B33 B46 (fun x1 x4 x5 x6 x9 x11 x50 x51 x52 x56 x57 h => ih x1 x4 x5 x6 x9 x11 x50 x51 x52 x56 x57 h K) x1 x4 x5 x6 x9 x11 x50 x51 x52 x56 x57 h K)
noncomputable def p55_53 (call : CallFn) (n : Nat) (B33 : F5) (B46 : F8) (x1 x4 x5 x6 x9 x50 x51 x52 : AV) (h : AHeap) (K : Kont) : Bool :=
  iadrK h 3 x50 x52 fun v45 => loadGK h 3 v45 fun v46 => allocK h [.int .i64 0, .int .i64 0, .bool false] 3 fun v47 h => storeNK h 3 v47 v46 fun h => l55_60 call n B33 B46 n x1 x4 x5 x6 x9 v47 x50 x51 x52 x5 (.int .i64 0) h K
noncomputable def b55_46 (call : CallFn) (n : Nat) (B33 : F5) (B46 : F8) (x1 x4 x5 x6 x9 x50 x51 x52 : AV) (h : AHeap) (K : Kont) : Bool :=
  lssK x52 x51 fun v44 => condK v44 (p55_53 call n B33 B46 x1 x4 x5 x6 x9 x50 x51 x52 h K) (B33 x1 x4 x5 x6 x9 h)
noncomputable def l55_46 (call : CallFn) (n : Nat) (B33 : F5) : Nat → AV → AV → AV → AV → AV → AV → AV → AV → AHeap → Kont → Bool :=
  @Nat.rec (fun _ => AV → AV → AV → AV → AV → AV → AV → AV → AHeap → Kont → Bool) (fun _ _ _ _ _ _ _ _ _ _ => false) (fun _ ih x1 x4 x5 x6 x9 x50 x51 x52 h K => b55_46 call n B33 (fun x1 x4 x5 x6 x9 x50 x51 x52 h => ih x1 x4 x5 x6 x9 x50 x51 x52 h K) x1 x4 x5 x6 x9 x50 x51 x52 h K)
noncomputable def p55_40 (call : CallFn) (n : Nat) (B33 : F5) (x1 x4 x5 x6 : AV) (h : AHeap) (K : Kont) : Bool :=
  loadK h x4 fun v42 => lenK v42 fun v43 => l55_46 call n B33 n x1 x4 x5 x6 (.bool false) v42 v43 (.int .i64 0) h K
noncomputable def p55_82001 (call : CallFn) (n : Nat) (x90 : AV) (h : AHeap) (K : Kont) : Bool :=
  extK 0 x90 fun v81 => extK 1 x90 fun v82 => K (.tup [v81, v82]) h
noncomputable def p55_78 (call : CallFn) (n : Nat) (x1 x4 x6 : AV) (h : AHeap) (K : Kont) : Bool :=
  allocK h [.int .i64 0] 1 fun v76 h => storeK h v76 (.int .i64 (-1)) fun h => loadK h x1 fun v78 => optK (some (.fn (.func 108) [] [v76, x4, x6])) fun v79 => call (.func 87) [v78, (.fn (.func 107) [] []), v79] h <| pz K fun v80 h => p55_82001 call n v80 h K
noncomputable def b55_33 (call : CallFn) (n : Nat) (B33 : F5) (x1 x4 x5 x6 x9 : AV) (h : AHeap) (K : Kont) : Bool :=
  condK x9 (p55_40 call n B33 x1 x4 x5 x6 h K) (p55_78 call n x1 x4 x6 h K)
noncomputable def l55_33 (call : CallFn) (n : Nat) : Nat → AV → AV → AV → AV → AV → AHeap → Kont → Bool :=
  @Nat.rec (fun _ => AV → AV → AV → AV → AV → AHeap → Kont → Bool) (fun _ _ _ _ _ _ _ => false) (fun _ ih x1 x4 x5 x6 x9 h K => b55_33 call n (fun x1 x4 x5 x6 x9 h => ih x1 x4 x5 x6 x9 h K) x1 x4 x5 x6 x9 h K)
noncomputable def p55_29 (call : CallFn) (n : Nat) (x1 x4 x5 x6 : AV) (h : AHeap) (K : Kont) : Bool :=
  l55_33 call n n x1 x4 x5 x6 (.bool true) h K
noncomputable def b55_12 (call : CallFn) (n : Nat) (B12 : F7) (x1 x4 x5 x6 x26 x27 x28 : AV) (h : AHeap) (K : Kont) : Bool :=
  lssK x28 x27 fun v18 => condK v18 (iadrK h 3 x26 x28 fun v19 => loadGK h 3 v19 fun v20 => allocK h [.int .i64 0] 1 fun v21 h => allocK h [.str [], .nilSlc, .nilSlc] 3 fun v22 h => storeK h v21 x28 fun h => storeNK h 3 v22 v20 fun h => loadK h x6 fun v25 => loadK h v21 fun v26 => optPK (mkslA h 1 1 [.bool false] x5 x5) fun v27 h => loadK h x6 <| sameK v25 <| loadK h v21 <| sameK v26 <| iadrK h 1 v25 v26 fun v28 => storeK h v28 v27 fun h => loadK h x6 fun v30 => loadK h v21 fun v31 => iadrK h 1 v30 v31 fun v32 => loadK h v32 fun v33 => loadK h v21 fun v34 => iadrK h 1 v33 v34 fun v35 => storeK h v35 (.bool true) fun h => fadrK 2 v22 fun v37 => loadK h v37 fun v38 => optK (some (.fn (.func 104) [] [x1, x4, v21])) fun v39 => call (.func 103) [v38, (.bool false), v39] h <| pz K fun v40 h => addK x28 (.int .i64 1) fun v41 => B12 x1 x4 x5 x6 x26 x27 v41 h) (p55_29 call n x1 x4 x5 x6 h K)
noncomputable def l55_12 (call : CallFn) (n : Nat) : Nat → AV → AV → AV → AV → AV → AV → AV → AHeap → Kont → Bool :=
  @Nat.rec (fun _ => AV → AV → AV → AV → AV → AV → AV → AHeap → Kont → Bool) (fun _ _ _ _ _ _ _ _ _ => false) (fun _ ih x1 x4 x5 x6 x26 x27 x28 h K => b55_12 call n (fun x1 x4 x5 x6 x26 x27 x28 h => ih x1 x4 x5 x6 x26 x27 x28 h K) x1 x4 x5 x6 x26 x27 x28 h K)
noncomputable def s55 (call : CallFn) (n : Nat) (x0 : AV) (h : AHeap) (K : Kont) : Bool :=
  boxK h x0 fun v1 h => allocK h [.nilSlc] 1 fun v2 h => loadK h v1 fun v3 => nilckK v3 fun v4 => fadrK 0 v4 fun v5 => fadrK 2 v5 fun v6 => loadK h v6 fun v7 => lenK v7 fun v8 => optPK (mkslA h 1 24 [.nilSlc] v8 v8) fun v9 h => allocK h [.nilSlc] 1 fun v10 h => storeK h v10 v9 fun h => loadK h v1 fun v12 => nilckK v12 fun v13 => fadrK 0 v13 fun v14 => fadrK 2 v14 fun v15 => loadK h v15 fun v16 => lenK v16 fun v17 => l55_12 call n n v1 v2 v8 v10 v16 v17 (.int .i64 0) h K

/-! ### 56 (*proctor/check.checker).sizes -/
noncomputable def p56_6001 (call : CallFn) (n : Nat) (x4 x10 : AV) (h : AHeap) (K : Kont) : Bool :=
  extK 0 x10 fun v5 => extK 1 x10 fun v6 => gK v6 true (loadK h x4) fun v7 => gK v6 true (gtrK v7 (.int .i64 512)) fun v8 => pickK v6 v8 (.bool false) fun v9 => condK v9 (K (.tup [(.str []), (.bool false)]) h) (K (.tup [v5, v6]) h)
noncomputable def s56 (call : CallFn) (n : Nat) (x0 : AV) (h : AHeap) (K : Kont) : Bool :=
  allocK h [.int .i64 0] 1 fun v1 h => storeK h v1 (.int .i64 0) fun h => optK (some (.fn (.func 112) [] [v1])) fun v3 => call (.func 87) [x0, v3, (.fn (.func 116) [] [])] h <| pz K fun v4 h => p56_6001 call n v1 v4 h K

/-! ### 57 (*proctor/strat.walker).query -/
noncomputable def p57_31 (call : CallFn) (n : Nat) (B15 : F5) (x0 x3 x28 x29 x30 : AV) (h : AHeap) (K : Kont) : Bool :=
  addK x30 (.int .i64 1) fun v37 => B15 x0 x3 x28 x29 v37 h
noncomputable def b57_15 (call : CallFn) (n : Nat) (B15 : F5) (x0 x3 x28 x29 x30 : AV) (h : AHeap) (K : Kont) : Bool :=
  lssK x30 x29 fun v22 => condK v22 (iadrK h 3 x28 x30 fun v23 => loadGK h 3 v23 fun v24 => allocK h [.str [], .nilSlc, .nilSlc] 3 fun v25 h => storeNK h 3 v25 v24 fun h => fadrK 0 v25 fun v27 => loadK h v27 fun v28 => fadrK 0 x3 fun v29 => loadK h v29 fun v30 => eqlK v28 v30 fun v31 => condK v31 (fadrK 2 v25 fun v32 => loadK h v32 fun v33 => fadrK 1 x3 fun v34 => loadK h v34 fun v35 => call (.func 24) [x0, v33, v35] h <| pz K fun v36 h => p57_31 call n B15 x0 x3 x28 x29 x30 h K) (p57_31 call n B15 x0 x3 x28 x29 x30 h K)) (K (.tup []) h)
noncomputable def l57_15 (call : CallFn) (n : Nat) : Nat → AV → AV → AV → AV → AV → AHeap → Kont → Bool :=
  @Nat.rec (fun _ => AV → AV → AV → AV → AV → AHeap → Kont → Bool) (fun _ _ _ _ _ _ _ => false) (fun _ ih x0 x3 x28 x29 x30 h K => b57_15 call n (fun x0 x3 x28 x29 x30 h => ih x0 x3 x28 x29 x30 h K) x0 x3 x28 x29 x30 h K)
noncomputable def p57_10 (call : CallFn) (n : Nat) (x0 x3 : AV) (h : AHeap) (K : Kont) : Bool :=
  nilckK x0 fun v11 => fadrK 5 v11 fun v12 => loadK h v12 fun v13 => loadGK h 2 x3 fun v14 => buildK [] [] fun v15 => optPK (unit (mupdA h (.st [.str, .bool]) v13 v14 v15)) fun _ h => nilckK x0 fun v17 => fadrK 0 v17 fun v18 => fadrK 2 v18 fun v19 => loadK h v19 fun v20 => lenK v20 fun v21 => l57_15 call n n x0 x3 v20 v21 (.int .i64 0) h K
noncomputable def s57 (call : CallFn) (n : Nat) (x0 x1 : AV) (h : AHeap) (K : Kont) : Bool :=
  optPK (boxA h (none) 2 x1) fun v1 h => nilckK x0 fun v2 => fadrK 5 v2 fun v3 => loadK h v3 fun v4 => loadGK h 2 v1 fun v5 => optK (lookA h (.st [.str, .bool]) true (.agg []) v4 v5) fun v6 => extK 0 v6 fun v7 => extK 1 v6 fun v8 => optPK (allocA h []) fun v9 h => loadK h v3 <| sameK v4 <| loadGK h 2 v1 <| sameK v5 <| optK (lookA h (.st [.str, .bool]) true (.agg []) v4 v5) <| sameK v6 <| optPK (unit (storeA h 0 v9 v7)) fun _ h => condK v8 (K (.tup []) h) (p57_10 call n x0 v1 h K)

/-! ### 58 slices.pdqsortCmpFunc[proctor/strat.Edge] -/
noncomputable def p58_67001 (call : CallFn) (n : Nat) (B5 : F7) (x0 x1 x2 x3 x4 x12 x111 : AV) (h : AHeap) (K : Kont) : Bool :=
  extK 0 x111 fun v40 => extK 1 x111 fun v41 => subK v40 x1 fun v42 => subK x2 v40 fun v43 => optK (binA .quo x12 (.int .i64 8)) fun v44 => lssK v42 v43 fun v45 => condK v45 (geqK v42 v44 fun v46 => call (.func 58) [x0, x1, v40, x3, x4] h <| pz K fun v47 h => addK v40 (.int .i64 1) fun v48 => B5 x0 v48 x2 x3 x4 v46 v41 h) (geqK v43 v44 fun v49 => addK v40 (.int .i64 1) fun v50 => call (.func 58) [x0, v50, x2, x3, x4] h <| pz K fun v51 h => B5 x0 x1 v40 x3 x4 v49 v41 h)
noncomputable def p58_55 (call : CallFn) (n : Nat) (B5 : F7) (x0 x1 x2 x3 x4 x10 x11 x12 x13 : AV) (h : AHeap) (K : Kont) : Bool :=
  gtrK x1 (.int .i64 0) fun v23 => gK v23 true (optK (some x4)) fun v24 => gK v23 true (optK (some x0)) fun v25 => gK v23 true (optK (some x1)) fun v26 => gK v23 true (subK v26 (.int .i64 1)) fun v27 => gK v23 true (iadrK h 3 v25 v27) fun v28 => gK v23 true (loadGK h 3 v28) fun v29 => gK v23 true (optK (some x0)) fun v30 => gK v23 true (optK (some x13)) fun v31 => gK v23 true (iadrK h 3 v30 v31) fun v32 => gK v23 true (loadGK h 3 v32) fun v33 => gP v23 true (fun k => callV call v24 [v29, v33] h (pz K k)) h fun v34 h => gK v23 true (lssK v34 (.int .i64 0)) fun v35 => gK v23 true (notK v35) fun v36 => pickK v23 v36 (.bool false) fun v37 => condK v37 (call (.func 123) [x0, x1, x2, x13, x4] h <| pz K fun v38 h => B5 x0 v38 x2 x3 x4 x10 x11 h) (call (.func 124) [x0, x1, x2, x13, x4] h <| pz K fun v39 h => p58_67001 call n B5 x0 x1 x2 x3 x4 x12 v39 h K)
noncomputable def p58_45 (call : CallFn) (n : Nat) (B5 : F7) (x0 x1 x2 x3 x4 x10 x11 x12 x13 x14 : AV) (h : AHeap) (K : Kont) : Bool :=
  gK x10 true (optK (some x11)) fun v17 => pickK x10 v17 (.bool false) fun v18 => gK v18 true (optK (some x14)) fun v19 => gK v18 true (eqlK v19 (.int .i64 1)) fun v20 => pickK v18 v20 (.bool false) fun v21 => condK v21 (call (.func 122) [x0, x1, x2, x4] h <| pz K fun v22 h => condK v22 (K (.tup []) h) (p58_55 call n B5 x0 x1 x2 x3 x4 x10 x11 x12 x13 h K)) (p58_55 call n B5 x0 x1 x2 x3 x4 x10 x11 x12 x13 h K)
noncomputable def p58_35001 (call : CallFn) (n : Nat) (B5 : F7) (x0 x1 x2 x3 x4 x10 x11 x12 x52 : AV) (h : AHeap) (K : Kont) : Bool :=
  extK 0 x52 fun v10 => extK 1 x52 fun v11 => eqlK v11 (.int .i64 2) fun v12 => condK v12 (call (.func 121) [x0, x1, x2, x4] h <| pz K fun v13 h => subK x2 (.int .i64 1) fun v14 => subK v10 x1 fun v15 => subK v14 v15 fun v16 => p58_45 call n B5 x0 x1 x2 x3 x4 x10 x11 x12 v16 (.int .i64 1) h K) (p58_45 call n B5 x0 x1 x2 x3 x4 x10 x11 x12 v10 v11 h K)
noncomputable def p58_33 (call : CallFn) (n : Nat) (B5 : F7) (x0 x1 x2 x3 x4 x10 x11 x12 : AV) (h : AHeap) (K : Kont) : Bool :=
  call (.func 120) [x0, x1, x2, x4] h <| pz K fun v9 h => p58_35001 call n B5 x0 x1 x2 x3 x4 x10 x11 x12 v9 h K
noncomputable def b58_5 (call : CallFn) (n : Nat) (B5 : F7) (x0 x1 x2 x3 x4 x10 x11 : AV) (h : AHeap) (K : Kont) : Bool :=
  subK x2 x1 fun v1 => leqK v1 (.int .i64 12) fun v2 => condK v2 (call (.func 117) [x0, x1, x2, x4] h <| pz K fun v3 h => K (.tup []) h) (eqlK x3 (.int .i64 0) fun v4 => condK v4 (call (.func 118) [x0, x1, x2, x4] h <| pz K fun v5 h => K (.tup []) h) (notK x10 fun v6 => condK v6 (call (.func 119) [x0, x1, x2, x4] h <| pz K fun v7 h => subK x3 (.int .i64 1) fun v8 => p58_33 call n B5 x0 x1 x2 v8 x4 x10 x11 v1 h K) (p58_33 call n B5 x0 x1 x2 x3 x4 x10 x11 v1 h K)))
noncomputable def l58_5 (call : CallFn) (n : Nat) : Nat → AV → AV → AV → AV → AV → AV → AV → AHeap → Kont → Bool :=
  @Nat.rec (fun _ => AV → AV → AV → AV → AV → AV → AV → AHeap → Kont → Bool) (fun _ _ _ _ _ _ _ _ _ => false) (fun _ ih x0 x1 x2 x3 x4 x10 x11 h K => b58_5 call n (fun x0 x1 x2 x3 x4 x10 x11 h => ih x0 x1 x2 x3 x4 x10 x11 h K) x0 x1 x2 x3 x4 x10 x11 h K)
noncomputable def s58 (call : CallFn) (n : Nat) (x0 x1 x2 x3 x4 : AV) (h : AHeap) (K : Kont) : Bool :=
  l58_5 call n n x0 x1 x2 x3 x4 (.bool true) (.bool true) h K

/-! ### 59 math/bits.Len -/
noncomputable def s59 (call : CallFn) (n : Nat) (x0 : AV) (h : AHeap) (K : Kont) : Bool :=
  condK (.bool false) (optK (convA .u32 x0) fun v1 => call (.func 125) [v1] h <| pz K fun v2 h => K v2 h) (call (.func 126) [x0] h <| pz K fun v3 h => K v3 h)

/-! ### 60 cmp.isNaN[string] -/
noncomputable def s60 (call : CallFn) (n : Nat) (x0 : AV) (h : AHeap) (K : Kont) : Bool :=
  neqK x0 x0 fun v1 => K v1 h

/-! ### 61 cmp.isNaN[int] -/
noncomputable def s61 (call : CallFn) (n : Nat) (x0 : AV) (h : AHeap) (K : Kont) : Bool :=
  neqK x0 x0 fun v1 => K v1 h

/-! ### 63 slices.Clone[[]proctor/api.Field,proctor/api.Field] -/
noncomputable def s63 (call : CallFn) (n : Nat) (x0 : AV) (h : AHeap) (K : Kont) : Bool :=
  optK (eqV h false .slc x0 .nilSlc) fun v1 => condK v1 (K .nilSlc h) (optPK (bsliceV h 0 3 [.str [], .int .i64 0, .str []] []) fun v2 h => appK h 3 40 v2 x0 fun v3 h => K v3 h)

/-! ### 64 (*proctor/class.Table).up -/
noncomputable def s64 (call : CallFn) (n : Nat) (x0 x1 : AV) (h : AHeap) (K : Kont) : Bool :=
  boxK h x0 fun v1 h => boxK h x1 fun v2 h => optK (some (.fn (.func 131) [] [v1, v2])) fun v3 => K v3 h

/-! ### 65 (*proctor/lex.lexer).all -/
noncomputable def s65 (call : CallFn) (n : Nat) (x0 : AV) (h : AHeap) (K : Kont) : Bool :=
  boxK h x0 fun v1 h => optK (some (.fn (.func 132) [] [v1])) fun v2 => K v2 h

/-! ### 67 (*proctor/parse.parser).place -/
noncomputable def s67 (call : CallFn) (n : Nat) (x0 : AV) (h : AHeap) (K : Kont) : Bool :=
  nilckK x0 fun v1 => fadrK 1 v1 fun v2 => loadK h v2 fun v3 => nilckK x0 fun v4 => fadrK 0 v4 fun v5 => loadK h v5 fun v6 => lenK v6 fun v7 => lssK v3 v7 fun v8 => condK v8 (nilckK x0 fun v9 => fadrK 0 v9 fun v10 => loadK h v10 fun v11 => nilckK x0 fun v12 => fadrK 1 v12 fun v13 => loadK h v13 fun v14 => iadrK h 4 v11 v14 fun v15 => fadrK 2 v15 fun v16 => loadK h v16 fun v17 => K v17 h) (nilckK x0 fun v18 => fadrK 2 v18 fun v19 => loadK h v19 fun v20 => K v20 h)

/-! ### 68 (*proctor/parse.parser).ahead -/
noncomputable def s68 (call : CallFn) (n : Nat) (x0 x1 : AV) (h : AHeap) (K : Kont) : Bool :=
  allocK h [.int .i64 0, .str [], .int .i64 0, .int .i64 0] 4 fun v1 h => nilckK x0 fun v2 => fadrK 1 v2 fun v3 => loadK h v3 fun v4 => addK v4 x1 fun v5 => nilckK x0 fun v6 => fadrK 0 v6 fun v7 => loadK h v7 fun v8 => lenK v8 fun v9 => lssK v5 v9 fun v10 => condK v10 (nilckK x0 fun v11 => fadrK 0 v11 fun v12 => loadK h v12 fun v13 => nilckK x0 fun v14 => fadrK 1 v14 fun v15 => loadK h v15 fun v16 => addK v16 x1 fun v17 => iadrK h 4 v13 v17 fun v18 => loadGK h 4 v18 fun v19 => storeNK h 4 v1 v19 fun h => optR (resV h [(v1, some (true, 4))]) h K) (buildK [.int .i64 0, .str [], .int .i64 0, .int .i64 0] [(0, 1, (.int .i64 (-1)))] fun v21 => storeNK h 4 v1 v21 fun h => optR (resV h [(v1, some (true, 4))]) h K)

/-! ### 69 proctor/lex.Key -/
noncomputable def p69_156 (call : CallFn) (n : Nat) (x4 : AV) (h : AHeap) (K : Kont) : Bool :=
  condK x4 (K (.bool true) h) (K (.bool false) h)
set_option maxRecDepth 100000 in
noncomputable def s69 (call : CallFn) (n : Nat) (x0 : AV) (h : AHeap) (K : Kont) : Bool :=
  eqlK x0 (.str [99, 108, 97, 115, 115]) fun v1 => condK v1 (p69_156 call n v1 h K) (eqlK x0 (.str [101, 120, 116, 101, 110, 100, 115]) fun v2 => condK v2 (p69_156 call n v2 h K) (eqlK x0 (.str [114, 117, 108, 101]) fun v3 => condK v3 (p69_156 call n v3 h K) (eqlK x0 (.str [113, 117, 101, 114, 121]) fun v4 => condK v4 (p69_156 call n v4 h K) (eqlK x0 (.str [119, 104, 101, 110]) fun v5 => condK v5 (p69_156 call n v5 h K) (eqlK x0 (.str [116, 104, 101, 110]) fun v6 => condK v6 (p69_156 call n v6 h K) (eqlK x0 (.str [101, 110, 100]) fun v7 => condK v7 (p69_156 call n v7 h K) (eqlK x0 (.str [115, 97, 108, 105, 101, 110, 99, 101]) fun v8 => condK v8 (p69_156 call n v8 h K) (eqlK x0 (.str [103, 114, 111, 117, 112]) fun v9 => condK v9 (p69_156 call n v9 h K) (eqlK x0 (.str [102, 108, 111, 119]) fun v10 => condK v10 (p69_156 call n v10 h K) (eqlK x0 (.str [110, 111, 108, 111, 111, 112]) fun v11 => condK v11 (p69_156 call n v11 h K) (eqlK x0 (.str [108, 111, 99, 107]) fun v12 => condK v12 (p69_156 call n v12 h K) (eqlK x0 (.str [110, 111, 116]) fun v13 => condK v13 (p69_156 call n v13 h K) (eqlK x0 (.str [101, 120, 105, 115, 116, 115]) fun v14 => condK v14 (p69_156 call n v14 h K) (eqlK x0 (.str [102, 111, 114, 97, 108, 108]) fun v15 => condK v15 (p69_156 call n v15 h K) (eqlK x0 (.str [111, 114]) fun v16 => condK v16 (p69_156 call n v16 h K) (eqlK x0 (.str [102, 114, 111, 109]) fun v17 => condK v17 (p69_156 call n v17 h K) (eqlK x0 (.str [101, 118, 97, 108]) fun v18 => condK v18 (p69_156 call n v18 h K) (eqlK x0 (.str [97, 99, 99]) fun v19 => condK v19 (p69_156 call n v19 h K) (eqlK x0 (.str [111, 118, 101, 114]) fun v20 => condK v20 (p69_156 call n v20 h K) (eqlK x0 (.str [105, 110, 115, 101, 114, 116]) fun v21 => condK v21 (p69_156 call n v21 h K) (eqlK x0 (.str [108, 111, 103, 105, 99, 97, 108]) fun v22 => condK v22 (p69_156 call n v22 h K) (eqlK x0 (.str [117, 112, 100, 97, 116, 101]) fun v23 => condK v23 (p69_156 call n v23 h K) (eqlK x0 (.str [100, 101, 108, 101, 116, 101]) fun v24 => condK v24 (p69_156 call n v24 h K) (eqlK x0 (.str [102, 111, 99, 117, 115]) fun v25 => condK v25 (p69_156 call n v25 h K) (eqlK x0 (.str [112, 114, 105, 110, 116]) fun v26 => condK v26 (p69_156 call n v26 h K) (eqlK x0 (.str [104, 97, 108, 116]) fun v27 => condK v27 (p69_156 call n v27 h K) (eqlK x0 (.str [116, 114, 117, 101]) fun v28 => condK v28 (p69_156 call n v28 h K) (eqlK x0 (.str [102, 97, 108, 115, 101]) fun v29 => condK v29 (p69_156 call n v29 h K) (eqlK x0 (.str [110, 117, 108, 108]) fun v30 => condK v30 (p69_156 call n v30 h K) (eqlK x0 (.str [115, 105, 122, 101]) fun v31 => condK v31 (p69_156 call n v31 h K) (eqlK x0 (.str [104, 97, 115]) fun v32 => condK v32 (p69_156 call n v32 h K) (eqlK x0 (.str [105, 110, 116]) fun v33 => condK v33 (p69_156 call n v33 h K) (eqlK x0 (.str [98, 111, 111, 108]) fun v34 => condK v34 (p69_156 call n v34 h K) (eqlK x0 (.str [116, 101, 120, 116]) fun v35 => condK v35 (p69_156 call n v35 h K) (eqlK x0 (.str [108, 105, 115, 116]) fun v36 => condK v36 (p69_156 call n v36 h K) (eqlK x0 (.str [97, 110, 121]) fun v37 => condK v37 (p69_156 call n v37 h K) (eqlK x0 (.str [114, 101, 102]) fun v38 => p69_156 call n v38 h K)))))))))))))))))))))))))))))))))))))

/-! ### 70 (*proctor/parse.parser).text -/
noncomputable def s70 (call : CallFn) (n : Nat) (x0 : AV) (h : AHeap) (K : Kont) : Bool :=
  nilckK x0 fun v1 => fadrK 1 v1 fun v2 => loadK h v2 fun v3 => addK v3 (.int .i64 1) fun v4 => nilckK x0 fun v5 => fadrK 1 v5 fun v6 => storeK h v6 v4 fun h => nilckK x0 fun v8 => fadrK 0 v8 fun v9 => loadK h v9 fun v10 => nilckK x0 fun v11 => fadrK 1 v11 fun v12 => loadK h v12 fun v13 => subK v13 (.int .i64 1) fun v14 => iadrK h 4 v10 v14 fun v15 => fadrK 1 v15 fun v16 => loadK h v16 fun v17 => K v17 h

/-! ### 71 (*proctor/parse.parser).enter -/
noncomputable def s71 (call : CallFn) (n : Nat) (x0 x1 : AV) (h : AHeap) (K : Kont) : Bool :=
  nilckK x0 fun v1 => fadrK 3 v1 fun v2 => loadK h v2 fun v3 => addK v3 (.int .i64 1) fun v4 => nilckK x0 fun v5 => fadrK 3 v5 fun v6 => storeK h v6 v4 fun h => nilckK x0 fun v8 => fadrK 3 v8 fun v9 => loadK h v9 fun v10 => gtrK v10 (.int .i64 30) fun v11 => condK v11 (call (.func 66) [x1] h <| pz K fun v12 h => K (.tup []) h) (K (.tup []) h)

/-! ### 72 (*proctor/parse.parser).kind -/
noncomputable def p72_4001 (call : CallFn) (n : Nat) (x1 x6 : AV) (h : AHeap) (K : Kont) : Bool :=
  fldK 0 x6 fun v2 => eqlK v2 x1 fun v3 => K v3 h
noncomputable def s72 (call : CallFn) (n : Nat) (x0 x1 : AV) (h : AHeap) (K : Kont) : Bool :=
  call (.func 68) [x0, (.int .i64 0)] h <| pz K fun v1 h => p72_4001 call n x1 v1 h K

/-! ### 74 (*proctor/parse.parser).cond -/
noncomputable def p74_9001 (call : CallFn) (n : Nat) (x2 x10 : AV) (h : AHeap) (K : Kont) : Bool :=
  buildK [.int .i64 0, .str [], .str [], .nilSlc, .nilSlc, .nilSlc, .nilSlc, .nilSlc, .int .i64 0, .str [], .int .i64 0, .bool false, .int .i64 0, .str [], .nilSlc, .nilSlc, .str [], .str [], .nilSlc] [(0, 1, (.int .i64 2)), (5, 1, x10)] fun v4 => storeNK h 19 x2 v4 fun h => optR (resV h [(x2, some (true, 19))]) h K
noncomputable def p74_15001 (call : CallFn) (n : Nat) (x2 x16 : AV) (h : AHeap) (K : Kont) : Bool :=
  buildK [.int .i64 0, .str [], .str [], .nilSlc, .nilSlc, .nilSlc, .nilSlc, .nilSlc, .int .i64 0, .str [], .int .i64 0, .bool false, .int .i64 0, .str [], .nilSlc, .nilSlc, .str [], .str [], .nilSlc] [(0, 1, (.int .i64 3)), (5, 1, x16)] fun v8 => storeNK h 19 x2 v8 fun h => optR (resV h [(x2, some (true, 19))]) h K
noncomputable def p74_27001 (call : CallFn) (n : Nat) (x0 x2 x3 x32 : AV) (h : AHeap) (K : Kont) : Bool :=
  fadrK 6 x3 fun v21 => storeK h v21 x32 fun h => call (.func 43) [x0, (.str [41])] h <| pz K fun v23 h => loadGK h 19 x3 fun v24 => storeNK h 19 x2 v24 fun h => optR (resV h [(x2, some (true, 19))]) h K
noncomputable def p74_23001 (call : CallFn) (n : Nat) (x0 x2 x25 : AV) (h : AHeap) (K : Kont) : Bool :=
  buildK [.int .i64 0, .str [], .str [], .nilSlc, .nilSlc, .nilSlc, .nilSlc, .nilSlc, .int .i64 0, .str [], .int .i64 0, .bool false, .int .i64 0, .str [], .nilSlc, .nilSlc, .str [], .str [], .nilSlc] [(0, 1, (.int .i64 4)), (5, 1, x25)] fun v14 => allocK h [.int .i64 0, .str [], .str [], .nilSlc, .nilSlc, .nilSlc, .nilSlc, .nilSlc, .int .i64 0, .str [], .int .i64 0, .bool false, .int .i64 0, .str [], .nilSlc, .nilSlc, .str [], .str [], .nilSlc] 19 fun v15 h => storeNK h 19 v15 v14 fun h => optPK (bsliceV h 1 1 [.str []] [(0, (.str [59]))]) fun v17 h => call (.func 21) [x0, v17] h <| pz K fun v18 h => optPK (bsliceV h 1 1 [.str []] [(0, (.str [41]))]) fun v19 h => call (.func 138) [x0, v19] h <| pz K fun v20 h => p74_27001 call n x0 x2 v15 v20 h K
noncomputable def p74_37001 (call : CallFn) (n : Nat) (x2 x41 : AV) (h : AHeap) (K : Kont) : Bool :=
  storeNK h 19 x2 x41 fun h => optR (resV h [(x2, some (true, 19))]) h K
noncomputable def p74_45001 (call : CallFn) (n : Nat) (x0 x2 x48 : AV) (h : AHeap) (K : Kont) : Bool :=
  buildK [.int .i64 0, .str [], .str [], .nilSlc, .nilSlc, .nilSlc, .nilSlc, .nilSlc, .int .i64 0, .str [], .int .i64 0, .bool false, .int .i64 0, .str [], .nilSlc, .nilSlc, .str [], .str [], .nilSlc] [(0, 1, (.int .i64 8)), (8, 8, x48)] fun v32 => allocK h [.int .i64 0, .str [], .str [], .nilSlc, .nilSlc, .nilSlc, .nilSlc, .nilSlc, .int .i64 0, .str [], .int .i64 0, .bool false, .int .i64 0, .str [], .nilSlc, .nilSlc, .str [], .str [], .nilSlc] 19 fun v33 h => storeNK h 19 v33 v32 fun h => call (.func 43) [x0, (.str [41])] h <| pz K fun v35 h => loadGK h 19 v33 fun v36 => storeNK h 19 x2 v36 fun h => optR (resV h [(x2, some (true, 19))]) h K
noncomputable def p74_55001 (call : CallFn) (n : Nat) (x2 x57 : AV) (h : AHeap) (K : Kont) : Bool :=
  storeNK h 19 x2 x57 fun h => optR (resV h [(x2, some (true, 19))]) h K
noncomputable def p74_61001 (call : CallFn) (n : Nat) (x2 x62 : AV) (h : AHeap) (K : Kont) : Bool :=
  storeNK h 19 x2 x62 fun h => optR (resV h [(x2, some (true, 19))]) h K
noncomputable def p74_71001 (call : CallFn) (n : Nat) (x2 x5 x78 : AV) (h : AHeap) (K : Kont) : Bool :=
  fadrK 8 x5 fun v56 => storeNK h 8 v56 x78 fun h => loadGK h 19 x5 fun v58 => storeNK h 19 x2 v58 fun h => optR (resV h [(x2, some (true, 19))]) h K
noncomputable def p74_67001 (call : CallFn) (n : Nat) (x0 x2 x72 : AV) (h : AHeap) (K : Kont) : Bool :=
  buildK [.int .i64 0, .str [], .str [], .nilSlc, .nilSlc, .nilSlc, .nilSlc, .nilSlc, .int .i64 0, .str [], .int .i64 0, .bool false, .int .i64 0, .str [], .nilSlc, .nilSlc, .str [], .str [], .nilSlc] [(0, 1, (.int .i64 6)), (1, 1, x72)] fun v50 => allocK h [.int .i64 0, .str [], .str [], .nilSlc, .nilSlc, .nilSlc, .nilSlc, .nilSlc, .int .i64 0, .str [], .int .i64 0, .bool false, .int .i64 0, .str [], .nilSlc, .nilSlc, .str [], .str [], .nilSlc] 19 fun v51 h => storeNK h 19 v51 v50 fun h => optPK (bsliceV h 1 1 [.str []] [(0, (.str [102, 114, 111, 109]))]) fun v53 h => call (.func 21) [x0, v53] h <| pz K fun v54 h => call (.func 76) [x0] h <| pz K fun v55 h => p74_71001 call n x2 v51 v55 h K
noncomputable def p74_77001 (call : CallFn) (n : Nat) (x2 x82 : AV) (h : AHeap) (K : Kont) : Bool :=
  storeNK h 19 x2 x82 fun h => optR (resV h [(x2, some (true, 19))]) h K
noncomputable def p74_64002 (call : CallFn) (n : Nat) (x0 x2 x66 x68 : AV) (h : AHeap) (K : Kont) : Bool :=
  gK x66 true (notK x68) fun v47 => pickK x66 v47 (.bool false) fun v48 => condK v48 (call (.func 50) [x0] h <| pz K fun v49 h => p74_67001 call n x0 x2 v49 h K) (call (.func 142) [x0] h <| pz K fun v60 h => p74_77001 call n x2 v60 h K)
noncomputable def p74_64001 (call : CallFn) (n : Nat) (x0 x2 x65 : AV) (h : AHeap) (K : Kont) : Bool :=
  gK x65 true (optK (some x0)) fun v45 => gP x65 true (fun k => call (.func 38) [v45, (.int .i64 1), (.str [58])] h (pz K k)) h fun v46 h => p74_64002 call n x0 x2 x65 v46 h K
set_option maxRecDepth 100000 in
noncomputable def s74 (call : CallFn) (n : Nat) (x0 : AV) (h : AHeap) (K : Kont) : Bool :=
  allocK h [.int .i64 0, .str [], .str [], .nilSlc, .nilSlc, .nilSlc, .nilSlc, .nilSlc, .int .i64 0, .str [], .int .i64 0, .bool false, .int .i64 0, .str [], .nilSlc, .nilSlc, .str [], .str [], .nilSlc] 19 fun v1 h => call (.func 18) [x0, (.str [110, 111, 116])] h <| pz K fun v2 h => condK v2 (call (.func 137) [x0] h <| pz K fun v3 h => p74_9001 call n v1 v3 h K) (call (.func 18) [x0, (.str [101, 120, 105, 115, 116, 115])] h <| pz K fun v6 h => condK v6 (call (.func 137) [x0] h <| pz K fun v7 h => p74_15001 call n v1 v7 h K) (call (.func 18) [x0, (.str [102, 111, 114, 97, 108, 108])] h <| pz K fun v10 h => condK v10 (call (.func 40) [x0, (.str [40])] h <| pz K fun v11 h => optPK (bsliceV h 1 1 [.str []] [(0, (.str [59]))]) fun v12 h => call (.func 138) [x0, v12] h <| pz K fun v13 h => p74_23001 call n x0 v1 v13 h K) (call (.func 38) [x0, (.int .i64 0), (.str [40])] h <| pz K fun v26 h => condK v26 (call (.func 139) [x0] h <| pz K fun v27 h => p74_37001 call n v1 v27 h K) (call (.func 18) [x0, (.str [101, 118, 97, 108])] h <| pz K fun v29 h => condK v29 (call (.func 40) [x0, (.str [40])] h <| pz K fun v30 h => call (.func 76) [x0] h <| pz K fun v31 h => p74_45001 call n x0 v1 v31 h K) (call (.func 18) [x0, (.str [97, 99, 99])] h <| pz K fun v38 h => condK v38 (call (.func 140) [x0] h <| pz K fun v39 h => p74_55001 call n v1 v39 h K) (call (.func 18) [x0, (.str [63])] h <| pz K fun v41 h => condK v41 (call (.func 141) [x0] h <| pz K fun v42 h => p74_61001 call n v1 v42 h K) (call (.func 72) [x0, (.int .i64 1)] h <| pz K fun v44 h => p74_64001 call n x0 v1 v44 h K)))))))

/-! ### 75 (*proctor/parse.parser).sets -/
noncomputable def p75_12 (call : CallFn) (n : Nat) (x2 x5 : AV) (h : AHeap) (K : Kont) : Bool :=
  loadK h x2 fun v11 => optK (some (.fn (.func 143) [] [x2, x5])) fun v12 => call (.func 48) [v11, (.str [125]), v12] h <| pz K fun v13 h => loadK h x5 fun v14 => K v14 h
noncomputable def s75 (call : CallFn) (n : Nat) (x0 x1 : AV) (h : AHeap) (K : Kont) : Bool :=
  boxK h x0 fun v1 h => allocK h [.nilSlc] 1 fun v2 h => loadK h v1 fun v3 => call (.func 40) [v3, (.str [123])] h <| pz K fun v4 h => gtrK x1 (.int .i64 0) fun v5 => condK v5 (loadK h v1 fun v6 => loadK h v1 fun v7 => call (.func 38) [v7, (.int .i64 0), (.str [125])] h <| pz K fun v8 h => loadK h v1 <| sameK v6 <| notK v8 fun v9 => call (.func 37) [v6, v9] h <| pz K fun v10 h => p75_12 call n v1 v2 h K) (p75_12 call n v1 v2 h K)

/-! ### 76 (*proctor/parse.parser).expr -/
noncomputable def p76_4001 (call : CallFn) (n : Nat) (x2 x4 : AV) (h : AHeap) (K : Kont) : Bool :=
  optK (fldA true 0 8 x4) fun v3 => storeNK h 8 x2 v3 fun h => optR (resV h [(x2, some (true, 8))]) h K
noncomputable def s76 (call : CallFn) (n : Nat) (x0 : AV) (h : AHeap) (K : Kont) : Bool :=
  allocK h [.int .i64 0, .str [], .int .i64 0, .bool false, .int .i64 0, .str [], .nilSlc, .nilSlc] 8 fun v1 h => call (.func 144) [x0, (.int .i64 0)] h <| pz K fun v2 h => p76_4001 call n v1 v2 h K

/-! ### 78 proctor/print.Print$1 -/
noncomputable def s78 (call : CallFn) (n : Nat) (x0 x1 : AV) (h : AHeap) (K : Kont) : Bool :=
  loadGK h 3 x1 fun v1 => call (.func 79) [x0, v1] h <| pz K fun v2 h => K (.tup []) h

/-! ### 79 (*proctor/print.writer).base -/
noncomputable def b79_39 (call : CallFn) (n : Nat) (B39 : F4) (x0 x33 x34 x35 : AV) (h : AHeap) (K : Kont) : Bool :=
  lssK x35 x34 fun v27 => condK v27 (iadrK h 3 x33 x35 fun v28 => loadGK h 3 v28 fun v29 => allocK h [.str [], .nilSlc, .nilSlc] 3 fun v30 h => storeNK h 3 v30 v29 fun h => loadGK h 3 v30 fun v32 => call (.func 148) [x0, v32] h <| pz K fun v33 h => addK x35 (.int .i64 1) fun v34 => B39 x0 x33 x34 v34 h) (K (.tup []) h)
noncomputable def l79_39 (call : CallFn) (n : Nat) : Nat → AV → AV → AV → AV → AHeap → Kont → Bool :=
  @Nat.rec (fun _ => AV → AV → AV → AV → AHeap → Kont → Bool) (fun _ _ _ _ _ _ => false) (fun _ ih x0 x33 x34 x35 h K => b79_39 call n (fun x0 x33 x34 x35 h => ih x0 x33 x34 x35 h K) x0 x33 x34 x35 h K)
noncomputable def p79_36 (call : CallFn) (n : Nat) (x0 x3 : AV) (h : AHeap) (K : Kont) : Bool :=
  fadrK 2 x3 fun v24 => loadK h v24 fun v25 => lenK v25 fun v26 => l79_39 call n n x0 v25 v26 (.int .i64 0) h K
noncomputable def b79_23 (call : CallFn) (n : Nat) (B23 : F5) (x0 x3 x22 x23 x24 : AV) (h : AHeap) (K : Kont) : Bool :=
  lssK x24 x23 fun v16 => condK v16 (iadrK h 8 x22 x24 fun v17 => loadGK h 8 v17 fun v18 => allocK h [.str [], .int .i64 0, .str [], .str [], .bool false, .bool false, .nilSlc, .nilSlc] 8 fun v19 h => storeNK h 8 v19 v18 fun h => loadGK h 8 v19 fun v21 => call (.func 147) [x0, v21] h <| pz K fun v22 h => addK x24 (.int .i64 1) fun v23 => B23 x0 x3 x22 x23 v23 h) (p79_36 call n x0 x3 h K)
noncomputable def l79_23 (call : CallFn) (n : Nat) : Nat → AV → AV → AV → AV → AV → AHeap → Kont → Bool :=
  @Nat.rec (fun _ => AV → AV → AV → AV → AV → AHeap → Kont → Bool) (fun _ _ _ _ _ _ _ => false) (fun _ ih x0 x3 x22 x23 x24 h K => b79_23 call n (fun x0 x3 x22 x23 x24 h => ih x0 x3 x22 x23 x24 h K) x0 x3 x22 x23 x24 h K)
noncomputable def p79_19 (call : CallFn) (n : Nat) (x0 x3 : AV) (h : AHeap) (K : Kont) : Bool :=
  fadrK 1 x3 fun v13 => loadK h v13 fun v14 => lenK v14 fun v15 => l79_23 call n n x0 x3 v14 v15 (.int .i64 0) h K
noncomputable def b79_6 (call : CallFn) (n : Nat) (B6 : F5) (x0 x3 x11 x12 x13 : AV) (h : AHeap) (K : Kont) : Bool :=
  lssK x13 x12 fun v5 => condK v5 (iadrK h 3 x11 x13 fun v6 => loadGK h 3 v6 fun v7 => allocK h [.str [], .str [], .nilSlc] 3 fun v8 h => storeNK h 3 v8 v7 fun h => loadGK h 3 v8 fun v10 => call (.func 146) [x0, v10] h <| pz K fun v11 h => addK x13 (.int .i64 1) fun v12 => B6 x0 x3 x11 x12 v12 h) (p79_19 call n x0 x3 h K)
noncomputable def l79_6 (call : CallFn) (n : Nat) : Nat → AV → AV → AV → AV → AV → AHeap → Kont → Bool :=
  @Nat.rec (fun _ => AV → AV → AV → AV → AV → AHeap → Kont → Bool) (fun _ _ _ _ _ _ _ => false) (fun _ ih x0 x3 x11 x12 x13 h K => b79_6 call n (fun x0 x3 x11 x12 x13 h => ih x0 x3 x11 x12 x13 h K) x0 x3 x11 x12 x13 h K)
noncomputable def s79 (call : CallFn) (n : Nat) (x0 x1 : AV) (h : AHeap) (K : Kont) : Bool :=
  optPK (boxA h (none) 3 x1) fun v1 h => fadrK 0 v1 fun v2 => loadK h v2 fun v3 => lenK v3 fun v4 => l79_6 call n n x0 v1 v3 v4 (.int .i64 0) h K

/-! ### 80 proctor/parse.Long -/
noncomputable def p80_16001 (call : CallFn) (n : Nat) (x2 x7 x22 : AV) (h : AHeap) (K : Kont) : Bool :=
  extK 0 x22 fun v13 => extK 1 x22 fun v14 => loadGK h 3 x7 fun v15 => eqlK v14 (.int .i64 0) fun v16 => storeNK h 3 x2 v15 fun h => optR (resV h [(x2, some (true, 3)), (v16, none)]) h K
noncomputable def p80_4001 (call : CallFn) (n : Nat) (x0 x2 x10 : AV) (h : AHeap) (K : Kont) : Bool :=
  extK 0 x10 fun v3 => extK 1 x10 fun v4 => extK 2 x10 fun v5 => neqK v5 (.int .i64 0) fun v6 => condK v6 (buildK [.nilSlc, .nilSlc, .nilSlc] [] fun v7 => storeNK h 3 x2 v7 fun h => optR (resV h [(x2, some (true, 3)), ((.bool false), none)]) h K) (allocK h [.nilSlc, .nilSlc, .nilSlc] 3 fun v9 h => lenSK x0 fun v10 => optK (some (.fn (.func 149) [] [v9])) fun v11 => call (.func 17) [v3, v10, v11] h <| pz K fun v12 h => p80_16001 call n x2 v9 v12 h K)
noncomputable def s80 (call : CallFn) (n : Nat) (x0 : AV) (h : AHeap) (K : Kont) : Bool :=
  allocK h [.nilSlc, .nilSlc, .nilSlc] 3 fun v1 h => call (.func 34) [x0] h <| pz K fun v2 h => p80_4001 call n x0 v1 v2 h K

/-! ### 81 proctor/print.sameBase -/
noncomputable def p81_4003 (call : CallFn) (n : Nat) (x17 x22 : AV) (h : AHeap) (K : Kont) : Bool :=
  pickK x17 x22 (.bool false) fun v19 => K v19 h
noncomputable def p81_4002 (call : CallFn) (n : Nat) (x2 x3 x10 x15 : AV) (h : AHeap) (K : Kont) : Bool :=
  pickK x10 x15 (.bool false) fun v13 => gK v13 true (fadrK 2 x2) fun v14 => gK v13 true (loadK h v14) fun v15 => gK v13 true (fadrK 2 x3) fun v16 => gK v13 true (loadK h v16) fun v17 => gP v13 true (fun k => call (.func 154) [v15, v17, (.fn (.func 155) [] [])] h (pz K k)) h fun v18 h => p81_4003 call n v13 v18 h K
noncomputable def p81_4001 (call : CallFn) (n : Nat) (x2 x3 x9 : AV) (h : AHeap) (K : Kont) : Bool :=
  gK x9 true (fadrK 1 x2) fun v8 => gK x9 true (loadK h v8) fun v9 => gK x9 true (fadrK 1 x3) fun v10 => gK x9 true (loadK h v10) fun v11 => gP x9 true (fun k => call (.func 152) [v9, v11, (.fn (.func 153) [] [])] h (pz K k)) h fun v12 h => p81_4002 call n x2 x3 x9 v12 h K
noncomputable def s81 (call : CallFn) (n : Nat) (x0 x1 : AV) (h : AHeap) (K : Kont) : Bool :=
  optPK (boxA h (none) 3 x0) fun v1 h => optPK (boxA h (none) 3 x1) fun v2 h => fadrK 0 v1 fun v3 => loadK h v3 fun v4 => fadrK 0 v2 fun v5 => loadK h v5 fun v6 => call (.func 150) [v4, v6, (.fn (.func 151) [] [])] h <| pz K fun v7 h => p81_4001 call n v1 v2 v7 h K

/-! ### 82 proctor/print.told -/
noncomputable def s82 (call : CallFn) (n : Nat) (x0 : AV) (h : AHeap) (K : Kont) : Bool :=
  lenSK x0 fun v1 => gtrK v1 (.int .i64 65536) fun v2 => condK v2 (K (.tup [(.str []), (.int .i64 21)]) h) (K (.tup [x0, (.int .i64 0)]) h)

/-! ### 83 (*proctor/check.checker).names$1 -/
noncomputable def p83_4001 (call : CallFn) (n : Nat) (x0 x1 x8 : AV) (h : AHeap) (K : Kont) : Bool :=
  notK x8 fun v2 => call (.func 85) [x0, x1] h <| pz K fun v3 h => K v2 h
noncomputable def s83 (call : CallFn) (n : Nat) (x0 x1 : AV) (h : AHeap) (K : Kont) : Bool :=
  call (.func 84) [x0, x1] h <| pz K fun v1 h => p83_4001 call n x0 x1 v1 h K

/-! ### 84 (proctor/check.scope).has -/
noncomputable def s84 (call : CallFn) (n : Nat) (x0 x1 : AV) (h : AHeap) (K : Kont) : Bool :=
  optK (lookA h (.leaf .str) false (.int .i64 0) x0 x1) fun v1 => eqlK v1 (.int .i64 1) fun v2 => K v2 h

/-! ### 85 (proctor/check.scope).put -/
noncomputable def s85 (call : CallFn) (n : Nat) (x0 x1 : AV) (h : AHeap) (K : Kont) : Bool :=
  optK (lookA h (.leaf .str) false (.int .i64 0) x0 x1) fun v1 => neqK v1 (.int .i64 2) fun v2 => call (.func 156) [v2] h <| pz K fun v3 h => optPK (unit (mupdA h (.leaf .str) x0 x1 (.int .i64 1))) fun _ h => K (.tup []) h

/-! ### 86 (*proctor/check.checker).names$2 -/
noncomputable def s86 (call : CallFn) (n : Nat) (x0 : AV) (h : AHeap) (K : Kont) : Bool :=
  optPK (boxA h (none) 8 x0) fun v1 h => K (.bool true) h

/-! ### 87 (*proctor/check.checker).each -/
noncomputable def p87_19001 (call : CallFn) (n : Nat) (B6 : F6) (x0 x1 x2 x9 x16 x17 x18 x24 : AV) (h : AHeap) (K : Kont) : Bool :=
  notK x24 fun v13 => condK v13 (fadrK 0 x9 fun v14 => loadK h v14 fun v15 => K (.tup [v15, (.bool false)]) h) (addK x18 (.int .i64 1) fun v16 => B6 x0 x1 x2 x16 x17 v16 h)
noncomputable def p87_42001 (call : CallFn) (n : Nat) (B29 : F4) (x2 x11 x33 x34 x35 x41 : AV) (h : AHeap) (K : Kont) : Bool :=
  notK x41 fun v29 => condK v29 (fadrK 0 x11 fun v30 => loadK h v30 fun v31 => K (.tup [v31, (.bool false)]) h) (addK x35 (.int .i64 1) fun v32 => B29 x2 x33 x34 v32 h)
noncomputable def b87_29 (call : CallFn) (n : Nat) (B29 : F4) (x2 x33 x34 x35 : AV) (h : AHeap) (K : Kont) : Bool :=
  lssK x35 x34 fun v22 => condK v22 (iadrK h 3 x33 x35 fun v23 => loadGK h 3 v23 fun v24 => allocK h [.str [], .nilSlc, .nilSlc] 3 fun v25 h => storeNK h 3 v25 v24 fun h => loadGK h 3 v25 fun v27 => callV call x2 [v27] h <| pz K fun v28 h => p87_42001 call n B29 x2 v25 x33 x34 x35 v28 h K) (K (.tup [(.str []), (.bool true)]) h)
noncomputable def l87_29 (call : CallFn) (n : Nat) : Nat → AV → AV → AV → AV → AHeap → Kont → Bool :=
  @Nat.rec (fun _ => AV → AV → AV → AV → AHeap → Kont → Bool) (fun _ _ _ _ _ _ => false) (fun _ ih x2 x33 x34 x35 h K => b87_29 call n (fun x2 x33 x34 x35 h => ih x2 x33 x34 x35 h K) x2 x33 x34 x35 h K)
noncomputable def p87_25 (call : CallFn) (n : Nat) (x0 x2 : AV) (h : AHeap) (K : Kont) : Bool :=
  nilckK x0 fun v17 => fadrK 0 v17 fun v18 => fadrK 2 v18 fun v19 => loadK h v19 fun v20 => lenK v20 fun v21 => l87_29 call n n x2 v20 v21 (.int .i64 0) h K
noncomputable def b87_6 (call : CallFn) (n : Nat) (B6 : F6) (x0 x1 x2 x16 x17 x18 : AV) (h : AHeap) (K : Kont) : Bool :=
  lssK x18 x17 fun v6 => condK v6 (iadrK h 8 x16 x18 fun v7 => loadGK h 8 v7 fun v8 => allocK h [.str [], .int .i64 0, .str [], .str [], .bool false, .bool false, .nilSlc, .nilSlc] 8 fun v9 h => storeNK h 8 v9 v8 fun h => loadGK h 8 v9 fun v11 => callV call x1 [v11] h <| pz K fun v12 h => p87_19001 call n B6 x0 x1 x2 v9 x16 x17 x18 v12 h K) (p87_25 call n x0 x2 h K)
noncomputable def l87_6 (call : CallFn) (n : Nat) : Nat → AV → AV → AV → AV → AV → AV → AHeap → Kont → Bool :=
  @Nat.rec (fun _ => AV → AV → AV → AV → AV → AV → AHeap → Kont → Bool) (fun _ _ _ _ _ _ _ _ => false) (fun _ ih x0 x1 x2 x16 x17 x18 h K => b87_6 call n (fun x0 x1 x2 x16 x17 x18 h => ih x0 x1 x2 x16 x17 x18 h K) x0 x1 x2 x16 x17 x18 h K)
noncomputable def s87 (call : CallFn) (n : Nat) (x0 x1 x2 : AV) (h : AHeap) (K : Kont) : Bool :=
  nilckK x0 fun v1 => fadrK 0 v1 fun v2 => fadrK 1 v2 fun v3 => loadK h v3 fun v4 => lenK v4 fun v5 => l87_6 call n n x0 x1 x2 v4 v5 (.int .i64 0) h K

/-! ### 88 (*proctor/check.checker).names$3 -/
noncomputable def s88 (call : CallFn) (n : Nat) (x0 x1 x2 : AV) (h : AHeap) (K : Kont) : Bool :=
  optPK (boxA h (none) 8 x0) fun v1 h => loadK h x1 fun v2 => loadK h x2 fun v3 => fadrK 0 v1 fun v4 => loadK h v4 fun v5 => callV call v2 [v3, v5] h <| pz K fun v6 h => K v6 h

/-! ### 89 (*proctor/check.checker).names$4 -/
noncomputable def s89 (call : CallFn) (n : Nat) (x0 x1 x2 : AV) (h : AHeap) (K : Kont) : Bool :=
  optPK (boxA h (none) 3 x0) fun v1 h => loadK h x1 fun v2 => loadK h x2 fun v3 => fadrK 0 v1 fun v4 => loadK h v4 fun v5 => callV call v2 [v3, v5] h <| pz K fun v6 h => K v6 h

/-! ### 90 (*proctor/check.checker).names$5 -/
noncomputable def s90 (call : CallFn) (n : Nat) (x0 : AV) (h : AHeap) (K : Kont) : Bool :=
  optPK (boxA h (none) 3 x0) fun v1 h => loadGK h 3 v1 fun v2 => fadrK 1 v1 fun v3 => loadK h v3 fun v4 => lenK v4 fun v5 => call (.func 91) [v2] h <| pz K fun v6 h => loadK h v3 <| sameK v4 <| lenK v4 <| sameK v5 <| optK (lenA h 2 v6) fun v7 => eqlK v7 v5 fun v8 => K v8 h

/-! ### 91 proctor/check.params -/
noncomputable def b91_8 (call : CallFn) (n : Nat) (B8 : F4) (x3 x8 x9 x10 : AV) (h : AHeap) (K : Kont) : Bool :=
  lssK x10 x9 fun v6 => condK v6 (iadrK h 1 x8 x10 fun v7 => loadK h v7 fun v8 => call (.func 85) [x3, v8] h <| pz K fun v9 h => addK x10 (.int .i64 1) fun v10 => B8 x3 x8 x9 v10 h) (K x3 h)
noncomputable def l91_8 (call : CallFn) (n : Nat) : Nat → AV → AV → AV → AV → AHeap → Kont → Bool :=
  @Nat.rec (fun _ => AV → AV → AV → AV → AHeap → Kont → Bool) (fun _ _ _ _ _ _ => false) (fun _ ih x3 x8 x9 x10 h K => b91_8 call n (fun x3 x8 x9 x10 h => ih x3 x8 x9 x10 h K) x3 x8 x9 x10 h K)
noncomputable def s91 (call : CallFn) (n : Nat) (x0 : AV) (h : AHeap) (K : Kont) : Bool :=
  optPK (boxA h (none) 3 x0) fun v1 h => optPK (mkmapV h) fun v2 h => fadrK 1 v1 fun v3 => loadK h v3 fun v4 => lenK v4 fun v5 => l91_8 call n n v2 v4 v5 (.int .i64 0) h K

/-! ### 92 (*proctor/check.checker).conditions$1 -/
noncomputable def s92 (call : CallFn) (n : Nat) (x0 x1 : AV) (h : AHeap) (K : Kont) : Bool :=
  optPK (boxA h (none) 8 x0) fun v1 h => optK (some (.fn (.func 94) [] [x1, v1])) fun v2 => call (.func 93) [v2] h <| pz K fun v3 h => K v3 h

/-! ### 94 (*proctor/check.checker).conditions$1$1 -/
noncomputable def s94 (call : CallFn) (n : Nat) (x0 x1 : AV) (h : AHeap) (K : Kont) : Bool :=
  loadK h x0 fun v1 => fadrK 6 x1 fun v2 => loadK h v2 fun v3 => optPK (mkmapV h) fun v4 h => call (.func 95) [v1, v3, v4] h <| pz K fun v5 h => K (.tup []) h

/-! ### 95 (*proctor/check.checker).list -/
noncomputable def b95_8 (call : CallFn) (n : Nat) (B8 : F5) (x0 x2 x11 x12 x13 : AV) (h : AHeap) (K : Kont) : Bool :=
  lssK x13 x12 fun v3 => condK v3 (iadrK h 19 x11 x13 fun v4 => loadGK h 19 v4 fun v5 => allocK h [.int .i64 0, .str [], .str [], .nilSlc, .nilSlc, .nilSlc, .nilSlc, .nilSlc, .int .i64 0, .str [], .int .i64 0, .bool false, .int .i64 0, .str [], .nilSlc, .nilSlc, .str [], .str [], .nilSlc] 19 fun v6 h => storeNK h 19 v6 v5 fun h => loadGK h 19 v6 fun v8 => call (.func 159) [x0, v8, x2] h <| pz K fun v9 h => addK x13 (.int .i64 1) fun v10 => B8 x0 x2 x11 x12 v10 h) (K x2 h)
noncomputable def l95_8 (call : CallFn) (n : Nat) : Nat → AV → AV → AV → AV → AV → AHeap → Kont → Bool :=
  @Nat.rec (fun _ => AV → AV → AV → AV → AV → AHeap → Kont → Bool) (fun _ _ _ _ _ _ _ => false) (fun _ ih x0 x2 x11 x12 x13 h K => b95_8 call n (fun x0 x2 x11 x12 x13 h => ih x0 x2 x11 x12 x13 h K) x0 x2 x11 x12 x13 h K)
noncomputable def s95 (call : CallFn) (n : Nat) (x0 x1 x2 : AV) (h : AHeap) (K : Kont) : Bool :=
  call (.func 158) [x2] h <| pz K fun v1 h => lenK x1 fun v2 => l95_8 call n n x0 v1 x1 v2 (.int .i64 0) h K

/-! ### 97 (*proctor/check.checker).conditions$2$1 -/
noncomputable def s97 (call : CallFn) (n : Nat) (x0 : AV) (h : AHeap) (K : Kont) : Bool :=
  loadK h x0 fun v1 => nilckK v1 fun v2 => fadrK 4 v2 fun v3 => storeK h v3 (.bool false) fun h => K (.tup []) h

/-! ### 98 (*proctor/check.checker).conditions$2$2 -/
noncomputable def s98 (call : CallFn) (n : Nat) (x0 x1 : AV) (h : AHeap) (K : Kont) : Bool :=
  loadK h x0 fun v1 => fadrK 2 x1 fun v2 => loadK h v2 fun v3 => optPK (mkmapV h) fun v4 h => call (.func 95) [v1, v3, v4] h <| pz K fun v5 h => K (.tup []) h

/-! ### 99 (*proctor/check.checker).actions$1 -/
noncomputable def s99 (call : CallFn) (n : Nat) (x0 x1 : AV) (h : AHeap) (K : Kont) : Bool :=
  optPK (boxA h (none) 8 x0) fun v1 h => optK (some (.fn (.func 100) [] [x1, v1])) fun v2 => call (.func 93) [v2] h <| pz K fun v3 h => K v3 h

/-! ### 100 (*proctor/check.checker).actions$1$1 -/
noncomputable def b100_5 (call : CallFn) (n : Nat) (B5 : F5) (x0 x2 x11 x12 x13 : AV) (h : AHeap) (K : Kont) : Bool :=
  lssK x13 x12 fun v9 => condK v9 (iadrK h 12 x11 x13 fun v10 => loadGK h 12 v10 fun v11 => allocK h [.int .i64 0, .str [], .nilSlc, .int .i64 0, .str [], .int .i64 0, .bool false, .int .i64 0, .str [], .nilSlc, .nilSlc, .str []] 12 fun v12 h => storeNK h 12 v12 v11 fun h => loadK h x0 fun v14 => loadGK h 12 v12 fun v15 => call (.func 101) [v14, v15, x2] h <| pz K fun v16 h => addK x13 (.int .i64 1) fun v17 => B5 x0 x2 x11 x12 v17 h) (K (.tup []) h)
noncomputable def l100_5 (call : CallFn) (n : Nat) : Nat → AV → AV → AV → AV → AV → AHeap → Kont → Bool :=
  @Nat.rec (fun _ => AV → AV → AV → AV → AV → AHeap → Kont → Bool) (fun _ _ _ _ _ _ _ => false) (fun _ ih x0 x2 x11 x12 x13 h K => b100_5 call n (fun x0 x2 x11 x12 x13 h => ih x0 x2 x11 x12 x13 h K) x0 x2 x11 x12 x13 h K)
noncomputable def s100 (call : CallFn) (n : Nat) (x0 x1 : AV) (h : AHeap) (K : Kont) : Bool :=
  loadK h x0 fun v1 => fadrK 6 x1 fun v2 => loadK h v2 fun v3 => optPK (mkmapV h) fun v4 h => call (.func 95) [v1, v3, v4] h <| pz K fun v5 h => fadrK 7 x1 fun v6 => loadK h v6 fun v7 => lenK v7 fun v8 => l100_5 call n n x0 v5 v7 v8 (.int .i64 0) h K

/-! ### 101 (*proctor/check.checker).action -/
noncomputable def p101_27 (call : CallFn) (n : Nat) (x2 x4 x33 : AV) (h : AHeap) (K : Kont) : Bool :=
  condK x33 (fadrK 3 x4 fun v21 => loadGK h 8 v21 fun v22 => call (.func 161) [x2, v22] h <| pz K fun v23 h => K (.tup []) h) (K (.tup []) h)
noncomputable def p101_11 (call : CallFn) (n : Nat) (x0 x2 x4 x7 x8 : AV) (h : AHeap) (K : Kont) : Bool :=
  condK x8 (nilckK x0 fun v5 => fadrK 3 v5 fun v6 => loadK h v6 fun v7 => fadrK 1 x4 fun v8 => loadK h v8 fun v9 => call (.func 128) [v7, v9] h <| pz K fun v10 h => call (.func 156) [v10] h <| pz K fun v11 h => loadGK h 12 x4 fun v12 => call (.func 160) [x0, v12, x2] h <| pz K fun v13 h => K (.tup []) h) (eqlK x7 (.int .i64 3) fun v14 => condK v14 (fadrK 3 x4 fun v15 => loadGK h 8 v15 fun v16 => call (.func 161) [x2, v16] h <| pz K fun v17 h => loadGK h 12 x4 fun v18 => call (.func 160) [x0, v18, x2] h <| pz K fun v19 h => K (.tup []) h) (eqlK x7 (.int .i64 4) fun v20 => condK v20 (p101_27 call n x2 x4 v20 h K) (eqlK x7 (.int .i64 6) fun v24 => p101_27 call n x2 x4 v24 h K)))
noncomputable def s101 (call : CallFn) (n : Nat) (x0 x1 x2 : AV) (h : AHeap) (K : Kont) : Bool :=
  optPK (boxA h (none) 12 x1) fun v1 h => fadrK 0 v1 fun v2 => loadK h v2 fun v3 => eqlK v3 (.int .i64 1) fun v4 => condK v4 (p101_11 call n x0 x2 v1 v3 v4 h K) (eqlK v3 (.int .i64 2) fun v25 => p101_11 call n x0 x2 v1 v3 v25 h K)

/-! ### 102 (*proctor/check.checker).actions$2 -/
noncomputable def s102 (call : CallFn) (n : Nat) (x0 : AV) (h : AHeap) (K : Kont) : Bool :=
  optPK (boxA h (none) 3 x0) fun v1 h => K (.bool true) h

/-! ### 103 proctor/check.asked -/
noncomputable def p103_40 (call : CallFn) (n : Nat) (B3 : F5) (x1 x2 x10 x11 x12 : AV) (h : AHeap) (K : Kont) : Bool :=
  addK x12 (.int .i64 1) fun v35 => B3 x1 x2 x10 x11 v35 h
noncomputable def b103_27 (call : CallFn) (n : Nat) (B3 : F5) (B27 : F8) (x1 x2 x10 x11 x12 x44 x45 x46 : AV) (h : AHeap) (K : Kont) : Bool :=
  lssK x46 x45 fun v30 => condK v30 (iadrK h 1 x44 x46 fun v31 => loadK h v31 fun v32 => call (.func 103) [v32, x1, x2] h <| pz K fun v33 h => addK x46 (.int .i64 1) fun v34 => B27 x1 x2 x10 x11 x12 x44 x45 v34 h) (p103_40 call n B3 x1 x2 x10 x11 x12 h K)
noncomputable def l103_27 (call : CallFn) (n : Nat) (B3 : F5) : Nat → AV → AV → AV → AV → AV → AV → AV → AV → AHeap → Kont → Bool :=
  @Nat.rec (fun _ => AV → AV → AV → AV → AV → AV → AV → AV → AHeap → Kont → Bool) (fun _ _ _ _ _ _ _ _ _ _ => false) (fun _ ih x1 x2 x10 x11 x12 x44 x45 x46 h K => b103_27 call n B3 (fun x1 x2 x10 x11 x12 x44 x45 x46 h => ih x1 x2 x10 x11 x12 x44 x45 x46 h K) x1 x2 x10 x11 x12 x44 x45 x46 h K)
noncomputable def p103_20 (call : CallFn) (n : Nat) (B3 : F5) (x1 x2 x7 x10 x11 x12 : AV) (h : AHeap) (K : Kont) : Bool :=
  fadrK 5 x7 fun v13 => loadK h v13 fun v14 => gK x1 false (fadrK 0 x7) fun v15 => gK x1 false (loadK h v15) fun v16 => gK x1 false (eqlK v16 (.int .i64 2)) fun v17 => pickK x1 (.bool true) v17 fun v18 => gK v18 false (fadrK 0 x7) fun v19 => gK v18 false (loadK h v19) fun v20 => gK v18 false (eqlK v20 (.int .i64 3)) fun v21 => pickK v18 (.bool true) v21 fun v22 => call (.func 103) [v14, v22, x2] h <| pz K fun v23 h => fadrK 6 x7 fun v24 => loadK h v24 fun v25 => call (.func 103) [v25, (.bool true), x2] h <| pz K fun v26 h => fadrK 7 x7 fun v27 => loadK h v27 fun v28 => lenK v28 fun v29 => l103_27 call n B3 n x1 x2 x10 x11 x12 v28 v29 (.int .i64 0) h K
noncomputable def p103_10 (call : CallFn) (n : Nat) (B3 : F5) (x1 x2 x10 x11 x12 : AV) (h : AHeap) (K : Kont) : Bool :=
  iadrK h 19 x10 x12 fun v3 => loadGK h 19 v3 fun v4 => allocK h [.int .i64 0, .str [], .str [], .nilSlc, .nilSlc, .nilSlc, .nilSlc, .nilSlc, .int .i64 0, .str [], .int .i64 0, .bool false, .int .i64 0, .str [], .nilSlc, .nilSlc, .str [], .str [], .nilSlc] 19 fun v5 h => storeNK h 19 v5 v4 fun h => fadrK 0 v5 fun v7 => loadK h v7 fun v8 => eqlK v8 (.int .i64 9) fun v9 => condK v9 (fadrK 17 v5 fun v10 => loadK h v10 fun v11 => callV call x2 [v11, x1] h <| pz K fun v12 h => p103_20 call n B3 x1 x2 v5 x10 x11 x12 h K) (p103_20 call n B3 x1 x2 v5 x10 x11 x12 h K)
noncomputable def b103_3 (call : CallFn) (n : Nat) (B3 : F5) (x1 x2 x10 x11 x12 : AV) (h : AHeap) (K : Kont) : Bool :=
  lssK x12 x11 fun v2 => condK v2 (p103_10 call n B3 x1 x2 x10 x11 x12 h K) (K (.tup []) h)
noncomputable def l103_3 (call : CallFn) (n : Nat) : Nat → AV → AV → AV → AV → AV → AHeap → Kont → Bool :=
  @Nat.rec (fun _ => AV → AV → AV → AV → AV → AHeap → Kont → Bool) (fun _ _ _ _ _ _ _ => false) (fun _ ih x1 x2 x10 x11 x12 h K => b103_3 call n (fun x1 x2 x10 x11 x12 h => ih x1 x2 x10 x11 x12 h K) x1 x2 x10 x11 x12 h K)
noncomputable def s103 (call : CallFn) (n : Nat) (x0 x1 x2 : AV) (h : AHeap) (K : Kont) : Bool :=
  lenK x0 fun v1 => l103_3 call n n x1 x2 x0 v1 (.int .i64 0) h K

/-! ### 104 (*proctor/check.checker).queries$1 -/
noncomputable def s104 (call : CallFn) (n : Nat) (x0 x1 x2 x3 x4 : AV) (h : AHeap) (K : Kont) : Bool :=
  boxK h x0 fun v1 h => loadK h x2 fun v2 => nilckK v2 fun v3 => fadrK 0 v3 fun v4 => fadrK 2 v4 fun v5 => loadK h v5 fun v6 => optK (some (.fn (.func 106) [] [v1])) fun v7 => call (.func 105) [v6, v7] h <| pz K fun v8 h => loadK h x3 fun v9 => loadK h x4 fun v10 => buildK [.int .i64 0, .int .i64 0, .bool false] [(0, 1, v10), (1, 1, v8), (2, 1, x1)] fun v11 => optPK (bsliceV h 1 3 [.int .i64 0, .int .i64 0, .bool false] [(0, v11)]) fun v12 h => appK h 3 24 v9 v12 fun v13 h => storeK h x3 v13 fun h => K (.tup []) h

/-! ### 105 slices.IndexFunc[[]proctor/api.Query,proctor/api.Query] -/
noncomputable def b105_6 (call : CallFn) (n : Nat) (B6 : F4) (x0 x1 x7 x8 : AV) (h : AHeap) (K : Kont) : Bool :=
  lssK x8 x7 fun v2 => condK v2 (iadrK h 3 x0 x8 fun v3 => loadGK h 3 v3 fun v4 => callV call x1 [v4] h <| pz K fun v5 h => condK v5 (K x8 h) (addK x8 (.int .i64 1) fun v6 => B6 x0 x1 x7 v6 h)) (K (.int .i64 (-1)) h)
noncomputable def l105_6 (call : CallFn) (n : Nat) : Nat → AV → AV → AV → AV → AHeap → Kont → Bool :=
  @Nat.rec (fun _ => AV → AV → AV → AV → AHeap → Kont → Bool) (fun _ _ _ _ _ _ => false) (fun _ ih x0 x1 x7 x8 h K => b105_6 call n (fun x0 x1 x7 x8 h => ih x0 x1 x7 x8 h K) x0 x1 x7 x8 h K)
noncomputable def s105 (call : CallFn) (n : Nat) (x0 x1 : AV) (h : AHeap) (K : Kont) : Bool :=
  lenK x0 fun v1 => l105_6 call n n x0 x1 v1 (.int .i64 0) h K

/-! ### 106 (*proctor/check.checker).queries$1$1 -/
noncomputable def s106 (call : CallFn) (n : Nat) (x0 x1 : AV) (h : AHeap) (K : Kont) : Bool :=
  optPK (boxA h (none) 3 x0) fun v1 h => fadrK 0 v1 fun v2 => loadK h v2 fun v3 => loadK h x1 fun v4 => eqlK v3 v4 fun v5 => K v5 h

/-! ### 107 (*proctor/check.checker).queries$2 -/
noncomputable def s107 (call : CallFn) (n : Nat) (x0 : AV) (h : AHeap) (K : Kont) : Bool :=
  optPK (boxA h (none) 8 x0) fun v1 h => K (.bool true) h

/-! ### 108 (*proctor/check.checker).queries$3 -/
noncomputable def p108_21001 (call : CallFn) (n : Nat) (B8 : F7) (x1 x2 x3 x4 x11 x12 x13 x20 : AV) (h : AHeap) (K : Kont) : Bool :=
  notK x20 fun v14 => condK v14 (K (.bool false) h) (addK x13 (.int .i64 1) fun v15 => B8 x1 x2 x3 x4 x11 x12 v15 h)
noncomputable def p108_29001 (call : CallFn) (n : Nat) (x25 : AV) (h : AHeap) (K : Kont) : Bool :=
  notK x25 fun v19 => K v19 h
noncomputable def p108_27 (call : CallFn) (n : Nat) (x1 x2 x3 : AV) (h : AHeap) (K : Kont) : Bool :=
  loadK h x2 fun v16 => optK (some (.fn (.func 111) [] [x3, x1])) fun v17 => call (.func 110) [v16, v17] h <| pz K fun v18 h => p108_29001 call n v18 h K
noncomputable def b108_8 (call : CallFn) (n : Nat) (B8 : F7) (x1 x2 x3 x4 x11 x12 x13 : AV) (h : AHeap) (K : Kont) : Bool :=
  lssK x13 x12 fun v8 => condK v8 (iadrK h 1 x11 x13 fun v9 => loadK h v9 fun v10 => fadrK 2 x4 fun v11 => loadK h v11 fun v12 => call (.func 109) [v12, v10] h <| pz K fun v13 h => p108_21001 call n B8 x1 x2 x3 x4 x11 x12 x13 v13 h K) (p108_27 call n x1 x2 x3 h K)
noncomputable def l108_8 (call : CallFn) (n : Nat) : Nat → AV → AV → AV → AV → AV → AV → AV → AHeap → Kont → Bool :=
  @Nat.rec (fun _ => AV → AV → AV → AV → AV → AV → AV → AHeap → Kont → Bool) (fun _ _ _ _ _ _ _ _ _ => false) (fun _ ih x1 x2 x3 x4 x11 x12 x13 h K => b108_8 call n (fun x1 x2 x3 x4 x11 x12 x13 h => ih x1 x2 x3 x4 x11 x12 x13 h K) x1 x2 x3 x4 x11 x12 x13 h K)
noncomputable def s108 (call : CallFn) (n : Nat) (x0 x1 x2 x3 : AV) (h : AHeap) (K : Kont) : Bool :=
  optPK (boxA h (none) 3 x0) fun v1 h => loadK h x1 fun v2 => addK v2 (.int .i64 1) fun v3 => storeK h x1 v3 fun h => fadrK 1 v1 fun v5 => loadK h v5 fun v6 => lenK v6 fun v7 => l108_8 call n n x1 x2 x3 v1 v6 v7 (.int .i64 0) h K

/-! ### 109 proctor/check.gives -/
noncomputable def p109_23001 (call : CallFn) (n : Nat) (B6 : F4) (x21 x25 : AV) (h : AHeap) (K : Kont) : Bool :=
  gK x21 false (notK x25) fun v20 => pickK x21 (.bool true) v20 fun v21 => K v21 h
set_option maxRecDepth 100000 in
noncomputable def b109_6 (call : CallFn) (n : Nat) (B6 : F4) (x3 x7 x8 x9 : AV) (h : AHeap) (K : Kont) : Bool :=
  lssK x9 x8 fun v3 => condK v3 (iadrK h 19 x7 x9 fun v4 => loadGK h 19 v4 fun v5 => allocK h [.int .i64 0, .str [], .str [], .nilSlc, .nilSlc, .nilSlc, .nilSlc, .nilSlc, .int .i64 0, .str [], .int .i64 0, .bool false, .int .i64 0, .str [], .nilSlc, .nilSlc, .str [], .str [], .nilSlc] 19 fun v6 h => storeNK h 19 v6 v5 fun h => loadGK h 19 v6 fun v8 => loadK h x3 fun v9 => optPK (bsliceV h 1 19 [.int .i64 0, .str [], .str [], .nilSlc, .nilSlc, .nilSlc, .nilSlc, .nilSlc, .int .i64 0, .str [], .int .i64 0, .bool false, .int .i64 0, .str [], .nilSlc, .nilSlc, .str [], .str [], .nilSlc] [(0, v8)]) fun v10 h => loadGK h 19 v6 <| sameK v8 <| loadK h x3 <| sameK v9 <| call (.func 163) [v10, .nilSlc, (.int .i64 1)] h <| pz (goneQ [v10] K) fun v11 h => loadK h x3 <| sameK v9 <| call (.func 162) [v11, v9] h <| pz (goneQ [v10] K) fun v12 h => condK v12 (fadrK 0 v6 fun v13 => loadK h v13 fun v14 => neqK v14 (.int .i64 5) fun v15 => gK v15 false (fadrK 7 v6) fun v16 => gK v15 false (loadK h v16) fun v17 => gK v15 false (optK (some (.fn (.func 165) [] [x3]))) fun v18 => gP v15 false (fun k => call (.func 164) [v17, v18] h (pz K k)) h fun v19 h => p109_23001 call n B6 v15 v19 h K) (loadGK h 19 v6 fun v22 => loadK h x3 fun v23 => call (.func 166) [v22, v23] h <| pz K fun v24 h => condK v24 (K (.bool false) h) (addK x9 (.int .i64 1) fun v25 => B6 x3 x7 x8 v25 h))) (K (.bool false) h)
noncomputable def l109_6 (call : CallFn) (n : Nat) : Nat → AV → AV → AV → AV → AHeap → Kont → Bool :=
  @Nat.rec (fun _ => AV → AV → AV → AV → AHeap → Kont → Bool) (fun _ _ _ _ _ _ => false) (fun _ ih x3 x7 x8 x9 h K => b109_6 call n (fun x3 x7 x8 x9 h => ih x3 x7 x8 x9 h K) x3 x7 x8 x9 h K)
noncomputable def s109 (call : CallFn) (n : Nat) (x0 x1 : AV) (h : AHeap) (K : Kont) : Bool :=
  boxK h x1 fun v1 h => lenK x0 fun v2 => l109_6 call n n v1 x0 v2 (.int .i64 0) h K

/-! ### 110 slices.ContainsFunc[[]proctor/check.step,proctor/check.step] -/
noncomputable def p110_4001 (call : CallFn) (n : Nat) (x7 : AV) (h : AHeap) (K : Kont) : Bool :=
  geqK x7 (.int .i64 0) fun v2 => K v2 h
noncomputable def s110 (call : CallFn) (n : Nat) (x0 x1 : AV) (h : AHeap) (K : Kont) : Bool :=
  call (.func 167) [x0, x1] h <| pz K fun v1 h => p110_4001 call n v1 h K

/-! ### 111 (*proctor/check.checker).queries$3$1 -/
noncomputable def s111 (call : CallFn) (n : Nat) (x0 x1 x2 : AV) (h : AHeap) (K : Kont) : Bool :=
  optPK (boxA h (none) 3 x0) fun v1 h => fadrK 2 v1 fun v2 => loadK h v2 fun v3 => gK v3 true (loadK h x1) fun v4 => gK v3 true (loadK h x2) fun v5 => gK v3 true (iadrK h 1 v4 v5) fun v6 => gK v3 true (loadK h v6) fun v7 => gK v3 true (fadrK 0 v1) fun v8 => gK v3 true (loadK h v8) fun v9 => gK v3 true (iadrK h 1 v7 v9) fun v10 => gK v3 true (loadK h v10) fun v11 => pickK v3 v11 (.bool false) fun v12 => gK v12 true (loadK h x1) fun v13 => gK v12 true (fadrK 1 v1) fun v14 => gK v12 true (loadK h v14) fun v15 => gK v12 true (iadrK h 1 v13 v15) fun v16 => gK v12 true (loadK h v16) fun v17 => gK v12 true (loadK h x2) fun v18 => gK v12 true (iadrK h 1 v17 v18) fun v19 => gK v12 true (loadK h v19) fun v20 => pickK v12 v20 (.bool false) fun v21 => K v21 h

/-! ### 112 (*proctor/check.checker).sizes$1 -/
noncomputable def p112_4002 (call : CallFn) (n : Nat) (x8 x10 : AV) (h : AHeap) (K : Kont) : Bool :=
  pickK x8 x10 (.bool false) fun v8 => K v8 h
noncomputable def p112_4001 (call : CallFn) (n : Nat) (x1 x2 x6 : AV) (h : AHeap) (K : Kont) : Bool :=
  leqK x6 (.int .i64 64) fun v5 => gK v5 true (optK (some (.fn (.func 114) [] [x1, x2]))) fun v6 => gP v5 true (fun k => call (.func 93) [v6] h (pz K k)) h fun v7 h => p112_4002 call n v5 v7 h K
noncomputable def s112 (call : CallFn) (n : Nat) (x0 x1 : AV) (h : AHeap) (K : Kont) : Bool :=
  optPK (boxA h (none) 8 x0) fun v1 h => fadrK 6 v1 fun v2 => loadK h v2 fun v3 => call (.func 113) [v3] h <| pz K fun v4 h => p112_4001 call n x1 v1 v4 h K

/-! ### 113 proctor/check.count -/
noncomputable def p113_36001 (call : CallFn) (n : Nat) (B8 : F4) (B24 : F7) (x8 x9 x10 x25 x26 x27 x31 x33 : AV) (h : AHeap) (K : Kont) : Bool :=
  addK x31 x33 fun v23 => addK x27 (.int .i64 1) fun v24 => B24 v23 x8 x9 x10 x25 x26 v24 h
noncomputable def p113_37 (call : CallFn) (n : Nat) (B8 : F4) (x3 x8 x9 x10 : AV) (h : AHeap) (K : Kont) : Bool :=
  addK x10 (.int .i64 1) fun v25 => B8 x3 x8 x9 v25 h
noncomputable def b113_24 (call : CallFn) (n : Nat) (B8 : F4) (B24 : F7) (x3 x8 x9 x10 x25 x26 x27 : AV) (h : AHeap) (K : Kont) : Bool :=
  lssK x27 x26 fun v19 => condK v19 (iadrK h 1 x25 x27 fun v20 => loadK h v20 fun v21 => call (.func 113) [v21] h <| pz K fun v22 h => p113_36001 call n B8 B24 x8 x9 x10 x25 x26 x27 x3 v22 h K) (p113_37 call n B8 x3 x8 x9 x10 h K)
noncomputable def l113_24 (call : CallFn) (n : Nat) (B8 : F4) : Nat → AV → AV → AV → AV → AV → AV → AV → AHeap → Kont → Bool :=
  @Nat.rec (fun _ => AV → AV → AV → AV → AV → AV → AV → AHeap → Kont → Bool) (fun _ _ _ _ _ _ _ _ _ => false) (fun _ ih x3 x8 x9 x10 x25 x26 x27 h K => b113_24 call n B8 (fun x3 x8 x9 x10 x25 x26 x27 h => ih x3 x8 x9 x10 x25 x26 x27 h K) x3 x8 x9 x10 x25 x26 x27 h K)
noncomputable def p113_15 (call : CallFn) (n : Nat) (B8 : F4) (x3 x8 x9 x10 : AV) (h : AHeap) (K : Kont) : Bool :=
  iadrK h 19 x8 x10 fun v3 => loadGK h 19 v3 fun v4 => allocK h [.int .i64 0, .str [], .str [], .nilSlc, .nilSlc, .nilSlc, .nilSlc, .nilSlc, .int .i64 0, .str [], .int .i64 0, .bool false, .int .i64 0, .str [], .nilSlc, .nilSlc, .str [], .str [], .nilSlc] 19 fun v5 h => storeNK h 19 v5 v4 fun h => fadrK 5 v5 fun v7 => loadK h v7 fun v8 => fadrK 6 v5 fun v9 => loadK h v9 fun v10 => call (.func 113) [v8] h <| pz K fun v11 h => loadK h v9 <| sameK v10 <| addK (.int .i64 1) v11 fun v12 => call (.func 113) [v10] h <| pz K fun v13 h => addK v12 v13 fun v14 => addK x3 v14 fun v15 => fadrK 7 v5 fun v16 => loadK h v16 fun v17 => lenK v17 fun v18 => l113_24 call n B8 n v15 x8 x9 x10 v17 v18 (.int .i64 0) h K
noncomputable def b113_8 (call : CallFn) (n : Nat) (B8 : F4) (x3 x8 x9 x10 : AV) (h : AHeap) (K : Kont) : Bool :=
  lssK x10 x9 fun v2 => condK v2 (p113_15 call n B8 x3 x8 x9 x10 h K) (K x3 h)
noncomputable def l113_8 (call : CallFn) (n : Nat) : Nat → AV → AV → AV → AV → AHeap → Kont → Bool :=
  @Nat.rec (fun _ => AV → AV → AV → AV → AHeap → Kont → Bool) (fun _ _ _ _ _ _ => false) (fun _ ih x3 x8 x9 x10 h K => b113_8 call n (fun x3 x8 x9 x10 h => ih x3 x8 x9 x10 h K) x3 x8 x9 x10 h K)
noncomputable def s113 (call : CallFn) (n : Nat) (x0 : AV) (h : AHeap) (K : Kont) : Bool :=
  lenK x0 fun v1 => l113_8 call n n (.int .i64 0) x0 v1 (.int .i64 0) h K

/-! ### 114 (*proctor/check.checker).sizes$1$1 -/
noncomputable def s114 (call : CallFn) (n : Nat) (x0 x1 : AV) (h : AHeap) (K : Kont) : Bool :=
  loadK h x0 fun v1 => fadrK 6 x1 fun v2 => loadK h v2 fun v3 => call (.func 115) [v3] h <| pz K fun v4 h => loadK h x0 <| sameK v1 <| lenK v4 fun v5 => addK v1 v5 fun v6 => storeK h x0 v6 fun h => K (.tup []) h

/-! ### 115 proctor/check.alternatives -/
noncomputable def p115_58 (call : CallFn) (n : Nat) (B8 : F4) (B29 : F8) (x6 x7 x13 x14 x15 x28 x29 x30 : AV) (h : AHeap) (K : Kont) : Bool :=
  addK x30 (.int .i64 1) fun v30 => B29 x6 x7 x13 x14 x15 x28 x29 v30 h
noncomputable def b115_43 (call : CallFn) (n : Nat) (B8 : F4) (B29 : F8) (B43 : F12) (x6 x7 x9 x13 x14 x15 x28 x29 x30 x34 x35 x36 : AV) (h : AHeap) (K : Kont) : Bool :=
  lssK x36 x35 fun v20 => condK v20 (iadrK h 1 x34 x36 fun v21 => loadK h v21 fun v22 => addK x9 v22 fun v23 => leqK v23 (.int .i64 64) fun v24 => call (.func 156) [v24] h <| pz K fun v25 h => addK x9 v22 fun v26 => optPK (bsliceV h 1 1 [.int .i64 0] [(0, v26)]) fun v27 h => appK h 1 8 x7 v27 fun v28 h => addK x36 (.int .i64 1) fun v29 => B43 x6 v28 x9 x13 x14 x15 x28 x29 x30 x34 x35 v29 h) (p115_58 call n B8 B29 x6 x7 x13 x14 x15 x28 x29 x30 h K)
noncomputable def l115_43 (call : CallFn) (n : Nat) (B8 : F4) (B29 : F8) : Nat → AV → AV → AV → AV → AV → AV → AV → AV → AV → AV → AV → AV → AHeap → Kont → Bool :=
  @Nat.rec (fun _ => AV → AV → AV → AV → AV → AV → AV → AV → AV → AV → AV → AV → AHeap → Kont → Bool) (fun _ _ _ _ _ _ _ _ _ _ _ _ _ _ => false) (fun _ ih x6 x7 x9 x13 x14 x15 x28 x29 x30 x34 x35 x36 h K => b115_43 call n B8 B29 (fun x6 x7 x9 x13 x14 x15 x28 x29 x30 x34 x35 x36 h => ih x6 x7 x9 x13 x14 x15 x28 x29 x30 x34 x35 x36 h K) x6 x7 x9 x13 x14 x15 x28 x29 x30 x34 x35 x36 h K)
noncomputable def p115_36 (call : CallFn) (n : Nat) (B8 : F4) (B29 : F8) (x6 x7 x13 x14 x15 x28 x29 x30 : AV) (h : AHeap) (K : Kont) : Bool :=
  iadrK h 1 x28 x30 fun v17 => loadK h v17 fun v18 => lenK x6 fun v19 => l115_43 call n B8 B29 n x6 x7 v18 x13 x14 x15 x28 x29 x30 x6 v19 (.int .i64 0) h K
noncomputable def p115_60 (call : CallFn) (n : Nat) (B8 : F4) (x3 x13 x14 x15 : AV) (h : AHeap) (K : Kont) : Bool :=
  addK x15 (.int .i64 1) fun v31 => B8 x3 x13 x14 v31 h
noncomputable def b115_29 (call : CallFn) (n : Nat) (B8 : F4) (B29 : F8) (x6 x7 x13 x14 x15 x28 x29 x30 : AV) (h : AHeap) (K : Kont) : Bool :=
  lssK x30 x29 fun v16 => condK v16 (p115_36 call n B8 B29 x6 x7 x13 x14 x15 x28 x29 x30 h K) (p115_60 call n B8 x7 x13 x14 x15 h K)
noncomputable def l115_29 (call : CallFn) (n : Nat) (B8 : F4) : Nat → AV → AV → AV → AV → AV → AV → AV → AV → AHeap → Kont → Bool :=
  @Nat.rec (fun _ => AV → AV → AV → AV → AV → AV → AV → AV → AHeap → Kont → Bool) (fun _ _ _ _ _ _ _ _ _ _ => false) (fun _ ih x6 x7 x13 x14 x15 x28 x29 x30 h K => b115_29 call n B8 (fun x6 x7 x13 x14 x15 x28 x29 x30 h => ih x6 x7 x13 x14 x15 x28 x29 x30 h K) x6 x7 x13 x14 x15 x28 x29 x30 h K)
noncomputable def p115_15 (call : CallFn) (n : Nat) (B8 : F4) (x3 x13 x14 x15 : AV) (h : AHeap) (K : Kont) : Bool :=
  iadrK h 19 x13 x15 fun v4 => loadGK h 19 v4 fun v5 => allocK h [.int .i64 0, .str [], .str [], .nilSlc, .nilSlc, .nilSlc, .nilSlc, .nilSlc, .int .i64 0, .str [], .int .i64 0, .bool false, .int .i64 0, .str [], .nilSlc, .nilSlc, .str [], .str [], .nilSlc] 19 fun v6 h => storeNK h 19 v6 v5 fun h => loadGK h 19 v6 fun v8 => call (.func 168) [v8] h <| pz K fun v9 h => lenK x3 fun v10 => lenK v9 fun v11 => optK (binA .mul v10 v11) fun v12 => leqK v12 (.int .i64 512) fun v13 => call (.func 156) [v13] h <| pz K fun v14 h => lenK x3 fun v15 => l115_29 call n B8 n v9 .nilSlc x13 x14 x15 x3 v15 (.int .i64 0) h K
noncomputable def b115_8 (call : CallFn) (n : Nat) (B8 : F4) (x3 x13 x14 x15 : AV) (h : AHeap) (K : Kont) : Bool :=
  lssK x15 x14 fun v3 => condK v3 (p115_15 call n B8 x3 x13 x14 x15 h K) (K x3 h)
noncomputable def l115_8 (call : CallFn) (n : Nat) : Nat → AV → AV → AV → AV → AHeap → Kont → Bool :=
  @Nat.rec (fun _ => AV → AV → AV → AV → AHeap → Kont → Bool) (fun _ _ _ _ _ _ => false) (fun _ ih x3 x13 x14 x15 h K => b115_8 call n (fun x3 x13 x14 x15 h => ih x3 x13 x14 x15 h K) x3 x13 x14 x15 h K)
noncomputable def s115 (call : CallFn) (n : Nat) (x0 : AV) (h : AHeap) (K : Kont) : Bool :=
  optPK (bsliceV h 1 1 [.int .i64 0] [(0, (.int .i64 0))]) fun v1 h => lenK x0 fun v2 => l115_8 call n n v1 x0 v2 (.int .i64 0) h K

/-! ### 116 (*proctor/check.checker).sizes$2 -/
noncomputable def p116_4001 (call : CallFn) (n : Nat) (x5 : AV) (h : AHeap) (K : Kont) : Bool :=
  leqK x5 (.int .i64 64) fun v5 => K v5 h
noncomputable def s116 (call : CallFn) (n : Nat) (x0 : AV) (h : AHeap) (K : Kont) : Bool :=
  optPK (boxA h (none) 3 x0) fun v1 h => fadrK 2 v1 fun v2 => loadK h v2 fun v3 => call (.func 113) [v3] h <| pz K fun v4 h => p116_4001 call n v4 h K

/-! ### 117 slices.insertionSortCmpFunc[proctor/strat.Edge] -/
noncomputable def p117_26 (call : CallFn) (n : Nat) (B3 : F5) (x0 x1 x2 x3 x8 : AV) (h : AHeap) (K : Kont) : Bool :=
  addK x8 (.int .i64 1) fun v28 => B3 x0 x1 x2 x3 v28 h
noncomputable def b117_15 (call : CallFn) (n : Nat) (B3 : F5) (B15 : F6) (x0 x1 x2 x3 x8 x9 : AV) (h : AHeap) (K : Kont) : Bool :=
  gtrK x9 x1 fun v3 => gK v3 true (optK (some x3)) fun v4 => gK v3 true (optK (some x0)) fun v5 => gK v3 true (optK (some x9)) fun v6 => gK v3 true (iadrK h 3 v5 v6) fun v7 => gK v3 true (loadGK h 3 v7) fun v8 => gK v3 true (optK (some x0)) fun v9 => gK v3 true (optK (some x9)) fun v10 => gK v3 true (subK v10 (.int .i64 1)) fun v11 => gK v3 true (iadrK h 3 v9 v11) fun v12 => gK v3 true (loadGK h 3 v12) fun v13 => gP v3 true (fun k => callV call v4 [v8, v13] h (pz K k)) h fun v14 h => gK v3 true (lssK v14 (.int .i64 0)) fun v15 => pickK v3 v15 (.bool false) fun v16 => condK v16 (subK x9 (.int .i64 1) fun v17 => subK x9 (.int .i64 1) fun v18 => iadrK h 3 x0 v18 fun v19 => loadGK h 3 v19 fun v20 => iadrK h 3 x0 x9 fun v21 => loadGK h 3 v21 fun v22 => iadrK h 3 x0 x9 fun v23 => storeNK h 3 v23 v20 fun h => iadrK h 3 x0 v17 fun v25 => storeNK h 3 v25 v22 fun h => subK x9 (.int .i64 1) fun v27 => B15 x0 x1 x2 x3 x8 v27 h) (p117_26 call n B3 x0 x1 x2 x3 x8 h K)
noncomputable def l117_15 (call : CallFn) (n : Nat) (B3 : F5) : Nat → AV → AV → AV → AV → AV → AV → AHeap → Kont → Bool :=
  @Nat.rec (fun _ => AV → AV → AV → AV → AV → AV → AHeap → Kont → Bool) (fun _ _ _ _ _ _ _ _ => false) (fun _ ih x0 x1 x2 x3 x8 x9 h K => b117_15 call n B3 (fun x0 x1 x2 x3 x8 x9 h => ih x0 x1 x2 x3 x8 x9 h K) x0 x1 x2 x3 x8 x9 h K)
noncomputable def p117_10 (call : CallFn) (n : Nat) (B3 : F5) (x0 x1 x2 x3 x8 : AV) (h : AHeap) (K : Kont) : Bool :=
  l117_15 call n B3 n x0 x1 x2 x3 x8 x8 h K
noncomputable def b117_3 (call : CallFn) (n : Nat) (B3 : F5) (x0 x1 x2 x3 x8 : AV) (h : AHeap) (K : Kont) : Bool :=
  lssK x8 x2 fun v2 => condK v2 (p117_10 call n B3 x0 x1 x2 x3 x8 h K) (K (.tup []) h)
noncomputable def l117_3 (call : CallFn) (n : Nat) : Nat → AV → AV → AV → AV → AV → AHeap → Kont → Bool :=
  @Nat.rec (fun _ => AV → AV → AV → AV → AV → AHeap → Kont → Bool) (fun _ _ _ _ _ _ _ => false) (fun _ ih x0 x1 x2 x3 x8 h K => b117_3 call n (fun x0 x1 x2 x3 x8 h => ih x0 x1 x2 x3 x8 h K) x0 x1 x2 x3 x8 h K)
noncomputable def s117 (call : CallFn) (n : Nat) (x0 x1 x2 x3 : AV) (h : AHeap) (K : Kont) : Bool :=
  addK x1 (.int .i64 1) fun v1 => l117_3 call n n x0 x1 x2 x3 v1 h K

/-! ### 126 math/bits.Len64 -/
noncomputable def p126_26 (call : CallFn) (n : Nat) (x0 x2 : AV) (h : AHeap) (K : Kont) : Bool :=
  optK (convA .u8 x0) fun v9 => idxsK (.str [0, 1, 2, 2, 3, 3, 3, 3, 4, 4, 4, 4, 4, 4, 4, 4, 5, 5, 5, 5, 5, 5, 5, 5, 5, 5, 5, 5, 5, 5, 5, 5, 6, 6, 6, 6, 6, 6, 6, 6, 6, 6, 6, 6, 6, 6, 6, 6, 6, 6, 6, 6, 6, 6, 6, 6, 6, 6, 6, 6, 6, 6, 6, 6, 7, 7, 7, 7, 7, 7, 7, 7, 7, 7, 7, 7, 7, 7, 7, 7, 7, 7, 7, 7, 7, 7, 7, 7, 7, 7, 7, 7, 7, 7, 7, 7, 7, 7, 7, 7, 7, 7, 7, 7, 7, 7, 7, 7, 7, 7, 7, 7, 7, 7, 7, 7, 7, 7, 7, 7, 7, 7, 7, 7, 7, 7, 7, 7, 8, 8, 8, 8, 8, 8, 8, 8, 8, 8, 8, 8, 8, 8, 8, 8, 8, 8, 8, 8, 8, 8, 8, 8, 8, 8, 8, 8, 8, 8, 8, 8, 8, 8, 8, 8, 8, 8, 8, 8, 8, 8, 8, 8, 8, 8, 8, 8, 8, 8, 8, 8, 8, 8, 8, 8, 8, 8, 8, 8, 8, 8, 8, 8, 8, 8, 8, 8, 8, 8, 8, 8, 8, 8, 8, 8, 8, 8, 8, 8, 8, 8, 8, 8, 8, 8, 8, 8, 8, 8, 8, 8, 8, 8, 8, 8, 8, 8, 8, 8, 8, 8, 8, 8, 8, 8, 8, 8, 8, 8, 8, 8, 8, 8, 8, 8, 8, 8, 8, 8, 8, 8, 8, 8, 8, 8, 8, 8]) v9 fun v10 => optK (convA .i64 v10) fun v11 => addK x2 v11 fun v12 => K v12 h
noncomputable def p126_18 (call : CallFn) (n : Nat) (x0 x2 : AV) (h : AHeap) (K : Kont) : Bool :=
  geqK x0 (.int .u64 256) fun v6 => condK v6 (optK (binA .shr x0 (.int .u64 8)) fun v7 => addK x2 (.int .i64 8) fun v8 => p126_26 call n v7 v8 h K) (p126_26 call n x0 x2 h K)
noncomputable def p126_10 (call : CallFn) (n : Nat) (x0 x2 : AV) (h : AHeap) (K : Kont) : Bool :=
  geqK x0 (.int .u64 65536) fun v3 => condK v3 (optK (binA .shr x0 (.int .u64 16)) fun v4 => addK x2 (.int .i64 16) fun v5 => p126_18 call n v4 v5 h K) (p126_18 call n x0 x2 h K)
noncomputable def s126 (call : CallFn) (n : Nat) (x0 : AV) (h : AHeap) (K : Kont) : Bool :=
  geqK x0 (.int .u64 4294967296) fun v1 => condK v1 (optK (binA .shr x0 (.int .u64 32)) fun v2 => p126_10 call n v2 (.int .i64 32) h K) (p126_10 call n x0 (.int .i64 0) h K)

/-! ### 127 proctor/class.name -/
noncomputable def p127_31001 (call : CallFn) (n : Nat) (x55 x57 : AV) (h : AHeap) (K : Kont) : Bool :=
  gK x55 true (notK x57) fun v40 => pickK x55 v40 (.bool false) fun v41 => K v41 h
noncomputable def p127_29 (call : CallFn) (n : Nat) (x0 : AV) (h : AHeap) (K : Kont) : Bool :=
  lenSK x0 fun v32 => geqK v32 (.int .i64 1) fun v33 => gK v33 true (optK (some x0)) fun v34 => gK v33 true (lenSK v34) fun v35 => gK v33 true (leqK v35 (.int .i64 64)) fun v36 => pickK v33 v36 (.bool false) fun v37 => gK v37 true (optK (some x0)) fun v38 => gP v37 true (fun k => call (.func 174) [v38] h (pz K k)) h fun v39 h => p127_31001 call n v37 v39 h K
noncomputable def b127_6 (call : CallFn) (n : Nat) (B6 : F3) (x0 x7 x8 : AV) (h : AHeap) (K : Kont) : Bool :=
  lssK x8 x7 fun v2 => condK v2 (idxsK x0 x8 fun v3 => geqK v3 (.int .u8 97) fun v4 => gK v4 true (optK (some v3)) fun v5 => gK v4 true (leqK v5 (.int .u8 122)) fun v6 => pickK v4 v6 (.bool false) fun v7 => gK v7 false (optK (some v3)) fun v8 => gK v7 false (geqK v8 (.int .u8 65)) fun v9 => gK v7 false (optK (some v9)) fun v10 => gK v10 true (optK (some v3)) fun v11 => gK v10 true (leqK v11 (.int .u8 90)) fun v12 => gK v7 false (pickK v10 v12 (.bool false)) fun v13 => pickK v7 (.bool true) v13 fun v14 => notK v14 fun v15 => gK v15 true (optK (some x8)) fun v16 => gK v15 true (eqlK v16 (.int .i64 0)) fun v17 => gK v15 true (optK (some v17)) fun v18 => gK v18 false (optK (some v3)) fun v19 => gK v18 false (neqK v19 (.int .u8 95)) fun v20 => gK v18 false (optK (some v20)) fun v21 => gK v21 true (optK (some v3)) fun v22 => gK v21 true (lssK v22 (.int .u8 48)) fun v23 => gK v21 true (optK (some v23)) fun v24 => gK v24 false (optK (some v3)) fun v25 => gK v24 false (gtrK v25 (.int .u8 57)) fun v26 => gK v21 true (pickK v24 (.bool true) v26) fun v27 => gK v18 false (pickK v21 v27 (.bool false)) fun v28 => gK v15 true (pickK v18 (.bool true) v28) fun v29 => pickK v15 v29 (.bool false) fun v30 => condK v30 (K (.bool false) h) (addK x8 (.int .i64 1) fun v31 => B6 x0 x7 v31 h)) (p127_29 call n x0 h K)
noncomputable def l127_6 (call : CallFn) (n : Nat) : Nat → AV → AV → AV → AHeap → Kont → Bool :=
  @Nat.rec (fun _ => AV → AV → AV → AHeap → Kont → Bool) (fun _ _ _ _ _ => false) (fun _ ih x0 x7 x8 h K => b127_6 call n (fun x0 x7 x8 h => ih x0 x7 x8 h K) x0 x7 x8 h K)
noncomputable def s127 (call : CallFn) (n : Nat) (x0 : AV) (h : AHeap) (K : Kont) : Bool :=
  lenSK x0 fun v1 => l127_6 call n n x0 v1 (.int .i64 0) h K

/-! ### 128 (*proctor/class.Table).Has -/
noncomputable def s128 (call : CallFn) (n : Nat) (x0 x1 : AV) (h : AHeap) (K : Kont) : Bool :=
  nilckK x0 fun v1 => fadrK 1 v1 fun v2 => loadK h v2 fun v3 => optK (lookA h (.leaf .str) true (.int .i64 0) v3 x1) fun v4 => extK 0 v4 fun v5 => extK 1 v4 fun v6 => K v6 h

/-! ### 131 (*proctor/class.Table).up$1 -/
noncomputable def p131_14001 (call : CallFn) (n : Nat) (B3 : F4) (x0 x1 x4 x40 : AV) (h : AHeap) (K : Kont) : Bool :=
  notK x40 fun v16 => condK v16 (K (.tup []) h) (loadK h x1 fun v17 => nilckK v17 fun v18 => fadrK 1 v18 fun v19 => loadK h v19 fun v20 => loadK h x1 fun v21 => nilckK v21 fun v22 => fadrK 0 v22 fun v23 => loadK h v23 fun v24 => iadrK h 3 v24 x4 fun v25 => fadrK 1 v25 fun v26 => loadK h v26 fun v27 => optK (lookA h (.leaf .str) true (.int .i64 0) v20 v27) fun v28 => extK 0 v28 fun v29 => extK 1 v28 fun v30 => B3 x0 x1 v29 v30 h)
noncomputable def b131_3 (call : CallFn) (n : Nat) (B3 : F4) (x0 x1 x4 x5 : AV) (h : AHeap) (K : Kont) : Bool :=
  condK x5 (loadK h x1 fun v9 => nilckK v9 fun v10 => fadrK 0 v10 fun v11 => loadK h v11 fun v12 => iadrK h 3 v12 x4 fun v13 => loadGK h 3 v13 fun v14 => callV call x0 [v14] h <| pz K fun v15 h => p131_14001 call n B3 x0 x1 x4 v15 h K) (K (.tup []) h)
noncomputable def l131_3 (call : CallFn) (n : Nat) : Nat → AV → AV → AV → AV → AHeap → Kont → Bool :=
  @Nat.rec (fun _ => AV → AV → AV → AV → AHeap → Kont → Bool) (fun _ _ _ _ _ _ => false) (fun _ ih x0 x1 x4 x5 h K => b131_3 call n (fun x0 x1 x4 x5 h => ih x0 x1 x4 x5 h K) x0 x1 x4 x5 h K)
noncomputable def s131 (call : CallFn) (n : Nat) (x0 x1 x2 : AV) (h : AHeap) (K : Kont) : Bool :=
  loadK h x1 fun v1 => nilckK v1 fun v2 => fadrK 1 v2 fun v3 => loadK h v3 fun v4 => loadK h x2 fun v5 => optK (lookA h (.leaf .str) true (.int .i64 0) v4 v5) fun v6 => extK 0 v6 fun v7 => extK 1 v6 fun v8 => l131_3 call n n x0 x1 v7 v8 h K

/-! ### 132 (*proctor/lex.lexer).all$1 -/
noncomputable def p132_27001 (call : CallFn) (n : Nat) (B1 : F2) (x0 x1 x49 : AV) (h : AHeap) (K : Kont) : Bool :=
  notK x49 fun v47 => condK v47 (K (.tup []) h) (B1 x0 x1 h)
noncomputable def p132_13001 (call : CallFn) (n : Nat) (B1 : F2) (x0 x1 x19 : AV) (h : AHeap) (K : Kont) : Bool :=
  extK 0 x19 fun v15 => extK 1 x19 fun v16 => allocK h [.int .i64 0, .str [], .int .i64 0, .int .i64 0] 4 fun v17 h => storeNK h 4 v17 v15 fun h => eqlK v16 (.int .i64 0) fun v19 => condK v19 (loadK h x1 fun v20 => nilckK v20 fun v21 => fadrK 2 v21 fun v22 => storeK h v22 (.bool true) fun h => K (.tup []) h) (loadK h x1 fun v24 => nilckK v24 fun v25 => fadrK 1 v25 fun v26 => loadK h v26 fun v27 => loadK h x1 fun v28 => nilckK v28 fun v29 => fadrK 1 v29 fun v30 => loadK h v30 fun v31 => addK v31 v16 fun v32 => fadrK 2 v17 fun v33 => storeK h v33 v27 fun h => loadK h x1 <| sameK v28 <| loadK h v30 <| sameK v31 <| fadrK 3 v17 fun v35 => storeK h v35 v32 fun h => loadK h x1 fun v37 => nilckK v37 fun v38 => fadrK 1 v38 fun v39 => loadK h v39 fun v40 => addK v40 v16 fun v41 => nilckK v37 fun v42 => fadrK 1 v42 fun v43 => storeK h v43 v41 fun h => loadGK h 4 v17 fun v45 => callV call x0 [v45] h <| pz K fun v46 h => p132_27001 call n B1 x0 x1 v46 h K)
noncomputable def b132_1 (call : CallFn) (n : Nat) (B1 : F2) (x0 x1 : AV) (h : AHeap) (K : Kont) : Bool :=
  loadK h x1 fun v1 => call (.func 133) [v1] h <| pz K fun v2 h => loadK h x1 fun v3 => nilckK v3 fun v4 => fadrK 1 v4 fun v5 => loadK h v5 fun v6 => loadK h x1 fun v7 => nilckK v7 fun v8 => fadrK 0 v8 fun v9 => loadK h v9 fun v10 => lenSK v10 fun v11 => geqK v6 v11 fun v12 => condK v12 (K (.tup []) h) (loadK h x1 fun v13 => call (.func 134) [v13] h <| pz K fun v14 h => p132_13001 call n B1 x0 x1 v14 h K)
noncomputable def l132_1 (call : CallFn) (n : Nat) : Nat → AV → AV → AHeap → Kont → Bool :=
  @Nat.rec (fun _ => AV → AV → AHeap → Kont → Bool) (fun _ _ _ _ => false) (fun _ ih x0 x1 h K => b132_1 call n (fun x0 x1 h => ih x0 x1 h K) x0 x1 h K)
noncomputable def s132 (call : CallFn) (n : Nat) (x0 x1 : AV) (h : AHeap) (K : Kont) : Bool :=
  l132_1 call n n x0 x1 h K

/-! ### 133 (*proctor/lex.lexer).blank -/
noncomputable def p133_49 (call : CallFn) (n : Nat) (B0 : F1) (x0 x3 : AV) (h : AHeap) (K : Kont) : Bool :=
  nilckK x0 fun v41 => fadrK 1 v41 fun v42 => loadK h v42 fun v43 => addK v43 x3 fun v44 => nilckK x0 fun v45 => fadrK 1 v45 fun v46 => storeK h v46 v44 fun h => B0 x0 h
noncomputable def p133_40001 (call : CallFn) (n : Nat) (B0 : F1) (x0 x31 x33 : AV) (h : AHeap) (K : Kont) : Bool :=
  gK x31 true (eqlK x33 (.int .u8 47)) fun v22 => pickK x31 v22 (.bool false) fun v23 => condK v23 (nilckK x0 fun v24 => fadrK 0 v24 fun v25 => loadK h v25 fun v26 => nilckK x0 fun v27 => fadrK 1 v27 fun v28 => loadK h v28 fun v29 => slsK v26 (some v29) none fun v30 => call (.func 177) [v30, (.int .u8 10)] h <| pz K fun v31 h => lssK v31 (.int .i64 0) fun v32 => condK v32 (nilckK x0 fun v33 => fadrK 0 v33 fun v34 => loadK h v34 fun v35 => lenSK v35 fun v36 => nilckK x0 fun v37 => fadrK 1 v37 fun v38 => loadK h v38 fun v39 => subK v36 v39 fun v40 => p133_49 call n B0 x0 v40 h K) (p133_49 call n B0 x0 v31 h K)) (K (.tup []) h)
noncomputable def j133_0 (call : CallFn) (n : Nat) (B0 : F1) (x0 : AV) (h : AHeap) (K : Kont) : Bool :=
  call (.func 176) [x0, (.int .i64 0)] h <| pz K fun v1 h => eqlK v1 (.int .u8 32) fun v2 => gK v2 false (optK (some v1)) fun v3 => gK v2 false (eqlK v3 (.int .u8 9)) fun v4 => pickK v2 (.bool true) v4 fun v5 => gK v5 false (optK (some v1)) fun v6 => gK v5 false (eqlK v6 (.int .u8 13)) fun v7 => pickK v5 (.bool true) v7 fun v8 => gK v8 false (optK (some v1)) fun v9 => gK v8 false (eqlK v9 (.int .u8 10)) fun v10 => pickK v8 (.bool true) v10 fun v11 => condK v11 (nilckK x0 fun v12 => fadrK 1 v12 fun v13 => loadK h v13 fun v14 => addK v14 (.int .i64 1) fun v15 => nilckK x0 fun v16 => fadrK 1 v16 fun v17 => storeK h v17 v15 fun h => B0 x0 h) (eqlK v1 (.int .u8 47) fun v19 => gK v19 true (optK (some x0)) fun v20 => gP v19 true (fun k => call (.func 176) [v20, (.int .i64 1)] h (pz K k)) h fun v21 h => p133_40001 call n B0 x0 v19 v21 h K)
noncomputable def g133_0 (call : CallFn) (n : Nat) : Nat → AV → AHeap → Kont → Bool :=
  @Nat.rec (fun _ => AV → AHeap → Kont → Bool) (fun _ _ _ => false) (fun _ ih x0 h K => j133_0 call n (fun x0 h => ih x0 h K) x0 h K)
noncomputable def p133_23 (call : CallFn) (n : Nat) (B0 : F1) (x0 x3 : AV) (h : AHeap) (K : Kont) : Bool :=
  nilckK x0 fun v88 => fadrK 1 v88 fun v89 => loadK h v89 fun v90 => addK v90 x3 fun v91 => nilckK x0 fun v92 => fadrK 1 v92 fun v93 => storeK h v93 v91 fun h => B0 x0 h
noncomputable def p133_14001 (call : CallFn) (n : Nat) (B0 : F1) (x0 x31 x33 : AV) (h : AHeap) (K : Kont) : Bool :=
  gK x31 true (eqlK x33 (.int .u8 47)) fun v69 => pickK x31 v69 (.bool false) fun v70 => condK v70 (nilckK x0 fun v71 => fadrK 0 v71 fun v72 => loadK h v72 fun v73 => nilckK x0 fun v74 => fadrK 1 v74 fun v75 => loadK h v75 fun v76 => slsK v73 (some v76) none fun v77 => call (.func 177) [v77, (.int .u8 10)] h <| pz K fun v78 h => lssK v78 (.int .i64 0) fun v79 => condK v79 (nilckK x0 fun v80 => fadrK 0 v80 fun v81 => loadK h v81 fun v82 => lenSK v82 fun v83 => nilckK x0 fun v84 => fadrK 1 v84 fun v85 => loadK h v85 fun v86 => subK v83 v86 fun v87 => p133_23 call n B0 x0 v87 h K) (p133_23 call n B0 x0 v78 h K)) (K (.tup []) h)
noncomputable def f133_0 (call : CallFn) (n : Nat) (B0 : F1) (x0 : AV) (h : AHeap) (K : Kont) : Bool :=
  call (.func 176) [x0, (.int .i64 0)] h <| pz K fun v48 h => eqlK v48 (.int .u8 32) fun v49 => gK v49 false (optK (some v48)) fun v50 => gK v49 false (eqlK v50 (.int .u8 9)) fun v51 => pickK v49 (.bool true) v51 fun v52 => gK v52 false (optK (some v48)) fun v53 => gK v52 false (eqlK v53 (.int .u8 13)) fun v54 => pickK v52 (.bool true) v54 fun v55 => gK v55 false (optK (some v48)) fun v56 => gK v55 false (eqlK v56 (.int .u8 10)) fun v57 => pickK v55 (.bool true) v57 fun v58 => condK v58 (nilckK x0 fun v59 => fadrK 1 v59 fun v60 => loadK h v60 fun v61 => addK v61 (.int .i64 1) fun v62 => nilckK x0 fun v63 => fadrK 1 v63 fun v64 => storeK h v64 v62 fun h => B0 x0 h) (eqlK v48 (.int .u8 47) fun v66 => gK v66 true (optK (some x0)) fun v67 => gP v66 true (fun k => call (.func 176) [v67, (.int .i64 1)] h (pz K k)) h fun v68 h => p133_14001 call n B0 x0 v66 v68 h K)
noncomputable def s133 (call : CallFn) (n : Nat) (x0 : AV) (h : AHeap) (K : Kont) : Bool :=
  f133_0 call n (pF1 (pC1 (g133_0 call n n) K)) x0 h K

/-! ### 134 (*proctor/lex.lexer).next -/
noncomputable def p134_15001 (call : CallFn) (n : Nat) (x2 x3 x18 : AV) (h : AHeap) (K : Kont) : Bool :=
  buildK [.int .i64 0, .str [], .int .i64 0, .int .i64 0] [(0, 1, (.int .i64 0)), (1, 1, x18)] fun v10 => storeNK h 4 x2 v10 fun h => optR (resV h [(x2, some (true, 4)), (x3, none)]) h K
noncomputable def p134_27001 (call : CallFn) (n : Nat) (x2 x3 x30 : AV) (h : AHeap) (K : Kont) : Bool :=
  buildK [.int .i64 0, .str [], .int .i64 0, .int .i64 0] [(0, 1, (.int .i64 1)), (1, 1, x30)] fun v17 => addK x3 (.int .i64 1) fun v18 => storeNK h 4 x2 v17 fun h => optR (resV h [(x2, some (true, 4)), (v18, none)]) h K
noncomputable def p134_39001 (call : CallFn) (n : Nat) (x2 x3 x42 : AV) (h : AHeap) (K : Kont) : Bool :=
  buildK [.int .i64 0, .str [], .int .i64 0, .int .i64 0] [(0, 1, (.int .i64 2)), (1, 1, x42)] fun v26 => storeNK h 4 x2 v26 fun h => optR (resV h [(x2, some (true, 4)), (x3, none)]) h K
noncomputable def p134_45001 (call : CallFn) (n : Nat) (x2 x50 : AV) (h : AHeap) (K : Kont) : Bool :=
  extK 0 x50 fun v31 => extK 1 x50 fun v32 => buildK [.int .i64 0, .str [], .int .i64 0, .int .i64 0] [(0, 1, (.int .i64 3)), (1, 1, v31)] fun v33 => storeNK h 4 x2 v33 fun h => optR (resV h [(x2, some (true, 4)), (v32, none)]) h K
noncomputable def p134_53001 (call : CallFn) (n : Nat) (x2 x3 x60 : AV) (h : AHeap) (K : Kont) : Bool :=
  buildK [.int .i64 0, .str [], .int .i64 0, .int .i64 0] [(0, 1, (.int .i64 4)), (1, 1, x60)] fun v38 => storeNK h 4 x2 v38 fun h => optR (resV h [(x2, some (true, 4)), (x3, none)]) h K
noncomputable def s134 (call : CallFn) (n : Nat) (x0 : AV) (h : AHeap) (K : Kont) : Bool :=
  boxK h x0 fun v1 h => allocK h [.int .i64 0, .str [], .int .i64 0, .int .i64 0] 4 fun v2 h => optK (some (.fn (.func 178) [] [v1])) fun v3 => loadK h v1 fun v4 => call (.func 176) [v4, (.int .i64 0)] h <| pz K fun v5 h => call (.func 179) [v5] h <| pz K fun v6 h => condK v6 (loadK h v1 fun v7 => call (.func 180) [v7, (.int .i64 0)] h <| pz K fun v8 h => callV call v3 [(.int .i64 0), v8] h <| pz K fun v9 h => p134_15001 call n v2 v8 v9 h K) (eqlK v5 (.int .u8 36) fun v12 => condK v12 (loadK h v1 fun v13 => call (.func 180) [v13, (.int .i64 1)] h <| pz K fun v14 h => gtrK v14 (.int .i64 0) fun v15 => condK v15 (callV call v3 [(.int .i64 1), v14] h <| pz K fun v16 h => p134_27001 call n v2 v14 v16 h K) (loadGK h 4 v2 fun v20 => storeNK h 4 v2 v20 fun h => optR (resV h [(v2, some (true, 4)), ((.int .i64 0), none)]) h K)) (call (.func 181) [v5] h <| pz K fun v22 h => condK v22 (loadK h v1 fun v23 => call (.func 182) [v23, (.int .i64 0), (.fn (.func 181) [] [])] h <| pz K fun v24 h => callV call v3 [(.int .i64 0), v24] h <| pz K fun v25 h => p134_39001 call n v2 v24 v25 h K) (eqlK v5 (.int .u8 34) fun v28 => condK v28 (loadK h v1 fun v29 => call (.func 183) [v29] h <| pz K fun v30 h => p134_45001 call n v2 v30 h K) (loadK h v1 fun v35 => call (.func 184) [v35] h <| pz K fun v36 h => callV call v3 [(.int .i64 0), v36] h <| pz K fun v37 h => p134_53001 call n v2 v36 v37 h K))))

/-! ### 137 (*proctor/parse.parser).block -/
noncomputable def s137 (call : CallFn) (n : Nat) (x0 : AV) (h : AHeap) (K : Kont) : Bool :=
  call (.func 40) [x0, (.str [40])] h <| pz K fun v1 h => optPK (bsliceV h 1 1 [.str []] [(0, (.str [41]))]) fun v2 h => call (.func 138) [x0, v2] h <| pz K fun v3 h => call (.func 43) [x0, (.str [41])] h <| pz K fun v4 h => K v3 h

/-! ### 138 (*proctor/parse.parser).some -/
noncomputable def p138_4001 (call : CallFn) (n : Nat) (x0 x1 x7 : AV) (h : AHeap) (K : Kont) : Bool :=
  allocK h [.int .i64 0, .str [], .str [], .nilSlc, .nilSlc, .nilSlc, .nilSlc, .nilSlc, .int .i64 0, .str [], .int .i64 0, .bool false, .int .i64 0, .str [], .nilSlc, .nilSlc, .str [], .str [], .nilSlc] 19 fun v2 h => storeNK h 19 v2 x7 fun h => loadGK h 19 v2 fun v4 => optPK (bsliceV h 1 19 [.int .i64 0, .str [], .str [], .nilSlc, .nilSlc, .nilSlc, .nilSlc, .nilSlc, .int .i64 0, .str [], .int .i64 0, .bool false, .int .i64 0, .str [], .nilSlc, .nilSlc, .str [], .str [], .nilSlc] [(0, v4)]) fun v5 h => loadGK h 19 v2 <| sameK v4 <| call (.func 46) [x0, x1] h <| pz (goneQ [v5] K) fun v6 h => loadGK h 19 v2 <| sameK v4 <| appK h 19 328 v5 v6 fun v7 h => K v7 h
noncomputable def s138 (call : CallFn) (n : Nat) (x0 x1 : AV) (h : AHeap) (K : Kont) : Bool :=
  call (.func 74) [x0] h <| pz K fun v1 h => p138_4001 call n x0 x1 v1 h K

/-! ### 140 (*proctor/parse.parser).acc -/
noncomputable def p140_24001 (call : CallFn) (n : Nat) (x0 x2 x3 x30 : AV) (h : AHeap) (K : Kont) : Bool :=
  fadrK 5 x3 fun v21 => storeK h v21 x30 fun h => call (.func 43) [x0, (.str [41])] h <| pz K fun v23 h => loadGK h 19 x3 fun v24 => storeNK h 19 x2 v24 fun h => optR (resV h [(x2, some (true, 19))]) h K
noncomputable def p140_18001 (call : CallFn) (n : Nat) (x0 x2 x3 x21 : AV) (h : AHeap) (K : Kont) : Bool :=
  fadrK 8 x3 fun v14 => storeNK h 8 v14 x21 fun h => call (.func 43) [x0, (.str [41])] h <| pz K fun v16 h => optPK (bsliceV h 1 1 [.str []] [(0, (.str [111, 118, 101, 114]))]) fun v17 h => call (.func 21) [x0, v17] h <| pz K fun v18 h => optPK (bsliceV h 1 1 [.str []] [(0, (.str [41]))]) fun v19 h => call (.func 138) [x0, v19] h <| pz K fun v20 h => p140_24001 call n x0 x2 x3 v20 h K
noncomputable def p140_14 (call : CallFn) (n : Nat) (x0 x2 x3 : AV) (h : AHeap) (K : Kont) : Bool :=
  call (.func 40) [x0, (.str [40])] h <| pz K fun v12 h => call (.func 76) [x0] h <| pz K fun v13 h => p140_18001 call n x0 x2 x3 v13 h K
noncomputable def p140_14001 (call : CallFn) (n : Nat) (x0 x2 x3 x16 : AV) (h : AHeap) (K : Kont) : Bool :=
  fadrK 16 x3 fun v27 => storeK h v27 x16 fun h => p140_14 call n x0 x2 x3 h K
noncomputable def p140_6001 (call : CallFn) (n : Nat) (x0 x2 x7 : AV) (h : AHeap) (K : Kont) : Bool :=
  buildK [.int .i64 0, .str [], .str [], .nilSlc, .nilSlc, .nilSlc, .nilSlc, .nilSlc, .int .i64 0, .str [], .int .i64 0, .bool false, .int .i64 0, .str [], .nilSlc, .nilSlc, .str [], .str [], .nilSlc] [(0, 1, (.int .i64 7)), (1, 1, x7)] fun v4 => allocK h [.int .i64 0, .str [], .str [], .nilSlc, .nilSlc, .nilSlc, .nilSlc, .nilSlc, .int .i64 0, .str [], .int .i64 0, .bool false, .int .i64 0, .str [], .nilSlc, .nilSlc, .str [], .str [], .nilSlc] 19 fun v5 h => storeNK h 19 v5 v4 fun h => optPK (bsliceV h 1 1 [.str []] [(0, (.str [58]))]) fun v7 h => call (.func 21) [x0, v7] h <| pz K fun v8 h => call (.func 18) [x0, (.str [108, 105, 115, 116])] h <| pz K fun v9 h => condK v9 (fadrK 16 v5 fun v10 => storeK h v10 (.str [108, 105, 115, 116]) fun h => p140_14 call n x0 x2 v5 h K) (call (.func 39) [x0] h <| pz K fun v26 h => p140_14001 call n x0 x2 v5 v26 h K)
noncomputable def s140 (call : CallFn) (n : Nat) (x0 : AV) (h : AHeap) (K : Kont) : Bool :=
  allocK h [.int .i64 0, .str [], .str [], .nilSlc, .nilSlc, .nilSlc, .nilSlc, .nilSlc, .int .i64 0, .str [], .int .i64 0, .bool false, .int .i64 0, .str [], .nilSlc, .nilSlc, .str [], .str [], .nilSlc] 19 fun v1 h => call (.func 40) [x0, (.str [40])] h <| pz K fun v2 h => call (.func 50) [x0] h <| pz K fun v3 h => p140_6001 call n x0 v1 v3 h K

/-! ### 141 (*proctor/parse.parser).ask -/
noncomputable def p141_4001 (call : CallFn) (n : Nat) (x1 x2 x5 : AV) (h : AHeap) (K : Kont) : Bool :=
  buildK [.int .i64 0, .str [], .str [], .nilSlc, .nilSlc, .nilSlc, .nilSlc, .nilSlc, .int .i64 0, .str [], .int .i64 0, .bool false, .int .i64 0, .str [], .nilSlc, .nilSlc, .str [], .str [], .nilSlc] [(0, 1, (.int .i64 9)), (17, 1, x5)] fun v5 => allocK h [.int .i64 0, .str [], .str [], .nilSlc, .nilSlc, .nilSlc, .nilSlc, .nilSlc, .int .i64 0, .str [], .int .i64 0, .bool false, .int .i64 0, .str [], .nilSlc, .nilSlc, .str [], .str [], .nilSlc] 19 fun v6 h => storeNK h 19 v6 v5 fun h => loadK h x1 fun v8 => call (.func 40) [v8, (.str [40])] h <| pz K fun v9 h => loadK h x1 fun v10 => optK (some (.fn (.func 190) [] [x1, v6])) fun v11 => call (.func 48) [v10, (.str [41]), v11] h <| pz K fun v12 h => loadGK h 19 v6 fun v13 => storeNK h 19 x2 v13 fun h => optR (resV h [(x2, some (true, 19))]) h K
noncomputable def s141 (call : CallFn) (n : Nat) (x0 : AV) (h : AHeap) (K : Kont) : Bool :=
  boxK h x0 fun v1 h => allocK h [.int .i64 0, .str [], .str [], .nilSlc, .nilSlc, .nilSlc, .nilSlc, .nilSlc, .int .i64 0, .str [], .int .i64 0, .bool false, .int .i64 0, .str [], .nilSlc, .nilSlc, .str [], .str [], .nilSlc] 19 fun v2 h => loadK h v1 fun v3 => call (.func 39) [v3] h <| pz K fun v4 h => p141_4001 call n v1 v2 v4 h K

/-! ### 142 (*proctor/parse.parser).pattern -/
noncomputable def p142_14001 (call : CallFn) (n : Nat) (x1 x2 x3 x14 : AV) (h : AHeap) (K : Kont) : Bool :=
  fadrK 2 x3 fun v17 => storeK h v17 x14 fun h => loadK h x1 fun v19 => call (.func 40) [v19, (.str [40])] h <| pz K fun v20 h => loadK h x1 fun v21 => optK (some (.fn (.func 191) [] [x1, x3])) fun v22 => call (.func 48) [v21, (.str [41]), v22] h <| pz K fun v23 h => loadGK h 19 x3 fun v24 => storeNK h 19 x2 v24 fun h => optR (resV h [(x2, some (true, 19))]) h K
noncomputable def p142_12 (call : CallFn) (n : Nat) (x1 x2 x3 : AV) (h : AHeap) (K : Kont) : Bool :=
  loadK h x1 fun v15 => call (.func 39) [v15] h <| pz K fun v16 h => p142_14001 call n x1 x2 x3 v16 h K
noncomputable def p142_10001 (call : CallFn) (n : Nat) (x1 x2 x3 x8 : AV) (h : AHeap) (K : Kont) : Bool :=
  fadrK 1 x3 fun v10 => storeK h v10 x8 fun h => loadK h x1 fun v12 => optPK (bsliceV h 1 1 [.str []] [(0, (.str [58]))]) fun v13 h => call (.func 21) [v12, v13] h <| pz K fun v14 h => p142_12 call n x1 x2 x3 h K
noncomputable def s142 (call : CallFn) (n : Nat) (x0 : AV) (h : AHeap) (K : Kont) : Bool :=
  boxK h x0 fun v1 h => allocK h [.int .i64 0, .str [], .str [], .nilSlc, .nilSlc, .nilSlc, .nilSlc, .nilSlc, .int .i64 0, .str [], .int .i64 0, .bool false, .int .i64 0, .str [], .nilSlc, .nilSlc, .str [], .str [], .nilSlc] 19 fun v2 h => buildK [.int .i64 0, .str [], .str [], .nilSlc, .nilSlc, .nilSlc, .nilSlc, .nilSlc, .int .i64 0, .str [], .int .i64 0, .bool false, .int .i64 0, .str [], .nilSlc, .nilSlc, .str [], .str [], .nilSlc] [(0, 1, (.int .i64 1))] fun v3 => allocK h [.int .i64 0, .str [], .str [], .nilSlc, .nilSlc, .nilSlc, .nilSlc, .nilSlc, .int .i64 0, .str [], .int .i64 0, .bool false, .int .i64 0, .str [], .nilSlc, .nilSlc, .str [], .str [], .nilSlc] 19 fun v4 h => storeNK h 19 v4 v3 fun h => loadK h v1 fun v6 => call (.func 72) [v6, (.int .i64 1)] h <| pz K fun v7 h => condK v7 (loadK h v1 fun v8 => call (.func 50) [v8] h <| pz K fun v9 h => p142_10001 call n v1 v2 v4 v9 h K) (p142_12 call n v1 v2 v4 h K)

/-! ### 144 (*proctor/parse.parser).level -/
noncomputable def p144_8001 (call : CallFn) (n : Nat) (x4 x13 : AV) (h : AHeap) (K : Kont) : Bool :=
  storeNK h 9 x4 x13 fun h => optR (resV h [(x4, some (true, 9))]) h K
set_option maxRecDepth 100000 in
noncomputable def p144_17002 (call : CallFn) (n : Nat) (B13 : F4) (x0 x1 x4 x5 x19 x21 : AV) (h : AHeap) (K : Kont) : Bool :=
  allocK h [.int .i64 0, .str [], .int .i64 0, .int .i64 0] 4 fun v11 h => storeNK h 4 v11 x21 fun h => nilckK x0 fun v13 => fadrK 4 v13 fun v14 => loadK h v14 fun v15 => optK (lookA h (.leaf .int) false .nilMap v15 x1) fun v16 => fadrK 1 v11 fun v17 => loadK h v17 fun v18 => optK (lookA h (.leaf .str) true (.int .i64 0) v16 v18) fun v19 => extK 0 v19 fun v20 => extK 1 v19 fun v21 => notK v21 fun v22 => gK v22 false (fadrK 0 v11) fun v23 => gK v22 false (loadK h v23) fun v24 => gK v22 false (neqK v24 (.int .i64 4)) fun v25 => pickK v22 (.bool true) v25 fun v26 => condK v26 (loadGK h 9 x5 fun v27 => storeNK h 9 x4 v27 fun h => optR (resV h [(x4, some (true, 9))]) h K) (nilckK x0 fun v29 => fadrK 1 v29 fun v30 => loadK h v30 fun v31 => addK v31 (.int .i64 1) fun v32 => nilckK x0 fun v33 => fadrK 1 v33 fun v34 => storeK h v34 v32 fun h => buildK [.int .i64 0, .str [], .int .i64 0, .bool false, .int .i64 0, .str [], .nilSlc, .nilSlc] [(0, 1, v20)] fun v36 => loadGK h 9 x5 fun v37 => addK x1 (.int .i64 1) fun v38 => call (.func 144) [x0, v38] h <| pz K fun v39 h => loadGK h 9 x5 <| sameK v37 <| optPK (bsliceV h 2 9 [.int .i64 0, .str [], .int .i64 0, .bool false, .int .i64 0, .str [], .nilSlc, .nilSlc, .int .i64 0] [(0, v37), (1, v39)]) fun v40 h => loadGK h 9 x5 <| sameK v37 <| call (.func 193) [x19, v36, v40] h <| pz (goneQ [v40] K) fun v41 h => storeNK h 9 x5 v41 fun h => eqlK x1 (.int .i64 2) fun v43 => condK v43 (loadGK h 9 x5 fun v44 => storeNK h 9 x4 v44 fun h => optR (resV h [(x4, some (true, 9))]) h K) (B13 x0 x1 x4 x5 h))
noncomputable def p144_17001 (call : CallFn) (n : Nat) (B13 : F4) (x0 x1 x4 x5 x19 : AV) (h : AHeap) (K : Kont) : Bool :=
  call (.func 68) [x0, (.int .i64 0)] h <| pz K fun v10 h => p144_17002 call n B13 x0 x1 x4 x5 x19 v10 h K
noncomputable def b144_13 (call : CallFn) (n : Nat) (B13 : F4) (x0 x1 x4 x5 : AV) (h : AHeap) (K : Kont) : Bool :=
  call (.func 67) [x0] h <| pz K fun v9 h => p144_17001 call n B13 x0 x1 x4 x5 v9 h K
noncomputable def l144_13 (call : CallFn) (n : Nat) : Nat → AV → AV → AV → AV → AHeap → Kont → Bool :=
  @Nat.rec (fun _ => AV → AV → AV → AV → AHeap → Kont → Bool) (fun _ _ _ _ _ _ => false) (fun _ ih x0 x1 x4 x5 h K => b144_13 call n (fun x0 x1 x4 x5 h => ih x0 x1 x4 x5 h K) x0 x1 x4 x5 h K)
noncomputable def p144_12001 (call : CallFn) (n : Nat) (x0 x1 x4 x17 : AV) (h : AHeap) (K : Kont) : Bool :=
  allocK h [.int .i64 0, .str [], .int .i64 0, .bool false, .int .i64 0, .str [], .nilSlc, .nilSlc, .int .i64 0] 9 fun v7 h => storeNK h 9 v7 x17 fun h => l144_13 call n n x0 x1 x4 v7 h K
noncomputable def p144_10 (call : CallFn) (n : Nat) (x0 x1 x4 : AV) (h : AHeap) (K : Kont) : Bool :=
  addK x1 (.int .i64 1) fun v5 => call (.func 144) [x0, v5] h <| pz K fun v6 h => p144_12001 call n x0 x1 x4 v6 h K
noncomputable def s144 (call : CallFn) (n : Nat) (x0 x1 : AV) (h : AHeap) (K : Kont) : Bool :=
  allocK h [.int .i64 0, .str [], .int .i64 0, .bool false, .int .i64 0, .str [], .nilSlc, .nilSlc, .int .i64 0] 9 fun v1 h => eqlK x1 (.int .i64 5) fun v2 => condK v2 (call (.func 192) [x0] h <| pz K fun v3 h => p144_8001 call n v1 v3 h K) (p144_10 call n x0 x1 v1 h K)

/-! ### 146 (*proctor/print.writer).class -/
noncomputable def p146_57 (call : CallFn) (n : Nat) (B16 : F4) (x0 x23 x24 x25 : AV) (h : AHeap) (K : Kont) : Bool :=
  addK x25 (.int .i64 1) fun v37 => B16 x0 x23 x24 v37 h
noncomputable def p146_50 (call : CallFn) (n : Nat) (B16 : F4) (x0 x5 x23 x24 x25 x35 x38 : AV) (h : AHeap) (K : Kont) : Bool :=
  condK x38 (optPK (bsliceV h 5 1 [.str []] [(0, (.str [97, 110, 121])), (1, (.str [98, 111, 111, 108])), (2, (.str [105, 110, 116])), (3, (.str [116, 101, 120, 116])), (4, (.str [108, 105, 115, 116]))]) fun v30 h => fadrK 1 x5 fun v31 => loadK h v31 fun v32 => iadrK h 1 v30 v32 fun v33 => loadK h v33 fun v34 => optPK (bsliceV h 1 1 [.str []] [(0, v34)]) fun v35 h => call (.func 194) [x0, v35] h <| pz K fun v36 h => p146_57 call n B16 x0 x23 x24 x25 h K) (eqlK x35 (.int .i64 5) fun v38 => condK v38 (fadrK 2 x5 fun v39 => loadK h v39 fun v40 => optPK (bsliceV h 2 1 [.str []] [(0, (.str [114, 101, 102])), (1, v40)]) fun v41 h => call (.func 194) [x0, v41] h <| pz K fun v42 h => p146_57 call n B16 x0 x23 x24 x25 h K) (buildK [] [] fun v43 => optK (mkifA 216 v43) fun v44 => pncK K v44 h))
noncomputable def p146_58 (call : CallFn) (n : Nat) (x0 : AV) (h : AHeap) (K : Kont) : Bool :=
  optPK (bsliceV h 1 1 [.str []] [(0, (.str [125]))]) fun v50 h => call (.func 194) [x0, v50] h <| pz K fun v51 h => K (.tup []) h
noncomputable def b146_16 (call : CallFn) (n : Nat) (B16 : F4) (x0 x23 x24 x25 : AV) (h : AHeap) (K : Kont) : Bool :=
  lssK x25 x24 fun v18 => condK v18 (iadrK h 3 x23 x25 fun v19 => loadGK h 3 v19 fun v20 => allocK h [.str [], .int .i64 0, .str []] 3 fun v21 h => storeNK h 3 v21 v20 fun h => fadrK 0 v21 fun v23 => loadK h v23 fun v24 => optPK (bsliceV h 2 1 [.str []] [(0, v24), (1, (.str [58]))]) fun v25 h => call (.func 194) [x0, v25] h <| pz K fun v26 h => fadrK 1 v21 fun v27 => loadK h v27 fun v28 => eqlK v28 (.int .i64 0) fun v29 => condK v29 (p146_50 call n B16 x0 v21 x23 x24 x25 v28 v29 h K) (eqlK v28 (.int .i64 1) fun v46 => condK v46 (p146_50 call n B16 x0 v21 x23 x24 x25 v28 v46 h K) (eqlK v28 (.int .i64 2) fun v47 => condK v47 (p146_50 call n B16 x0 v21 x23 x24 x25 v28 v47 h K) (eqlK v28 (.int .i64 3) fun v48 => condK v48 (p146_50 call n B16 x0 v21 x23 x24 x25 v28 v48 h K) (eqlK v28 (.int .i64 4) fun v49 => p146_50 call n B16 x0 v21 x23 x24 x25 v28 v49 h K))))) (p146_58 call n x0 h K)
noncomputable def l146_16 (call : CallFn) (n : Nat) : Nat → AV → AV → AV → AV → AHeap → Kont → Bool :=
  @Nat.rec (fun _ => AV → AV → AV → AV → AHeap → Kont → Bool) (fun _ _ _ _ _ _ => false) (fun _ ih x0 x23 x24 x25 h K => b146_16 call n (fun x0 x23 x24 x25 h => ih x0 x23 x24 x25 h K) x0 x23 x24 x25 h K)
noncomputable def p146_10 (call : CallFn) (n : Nat) (x0 x3 : AV) (h : AHeap) (K : Kont) : Bool :=
  optPK (bsliceV h 1 1 [.str []] [(0, (.str [123]))]) fun v13 h => call (.func 194) [x0, v13] h <| pz K fun v14 h => fadrK 2 x3 fun v15 => loadK h v15 fun v16 => lenK v16 fun v17 => l146_16 call n n x0 v16 v17 (.int .i64 0) h K
noncomputable def s146 (call : CallFn) (n : Nat) (x0 x1 : AV) (h : AHeap) (K : Kont) : Bool :=
  optPK (boxA h (none) 3 x1) fun v1 h => fadrK 0 v1 fun v2 => loadK h v2 fun v3 => optPK (bsliceV h 2 1 [.str []] [(0, (.str [99, 108, 97, 115, 115])), (1, v3)]) fun v4 h => call (.func 194) [x0, v4] h <| pz K fun v5 h => fadrK 1 v1 fun v6 => loadK h v6 fun v7 => neqK v7 (.str []) fun v8 => condK v8 (fadrK 1 v1 fun v9 => loadK h v9 fun v10 => optPK (bsliceV h 2 1 [.str []] [(0, (.str [101, 120, 116, 101, 110, 100, 115])), (1, v10)]) fun v11 h => call (.func 194) [x0, v11] h <| pz K fun v12 h => p146_10 call n x0 v1 h K) (p146_10 call n x0 v1 h K)

/-! ### 147 (*proctor/print.writer).rule -/
noncomputable def p147_71 (call : CallFn) (n : Nat) (x0 : AV) (h : AHeap) (K : Kont) : Bool :=
  optPK (bsliceV h 1 1 [.str []] [(0, (.str [101, 110, 100]))]) fun v68 h => call (.func 194) [x0, v68] h <| pz K fun v69 h => K (.tup []) h
noncomputable def b147_58 (call : CallFn) (n : Nat) (B58 : F4) (x0 x79 x80 x81 : AV) (h : AHeap) (K : Kont) : Bool :=
  lssK x81 x80 fun v60 => condK v60 (iadrK h 12 x79 x81 fun v61 => loadGK h 12 v61 fun v62 => allocK h [.int .i64 0, .str [], .nilSlc, .int .i64 0, .str [], .int .i64 0, .bool false, .int .i64 0, .str [], .nilSlc, .nilSlc, .str []] 12 fun v63 h => storeNK h 12 v63 v62 fun h => loadGK h 12 v63 fun v65 => call (.func 199) [x0, v65] h <| pz K fun v66 h => addK x81 (.int .i64 1) fun v67 => B58 x0 x79 x80 v67 h) (p147_71 call n x0 h K)
noncomputable def l147_58 (call : CallFn) (n : Nat) : Nat → AV → AV → AV → AV → AHeap → Kont → Bool :=
  @Nat.rec (fun _ => AV → AV → AV → AV → AHeap → Kont → Bool) (fun _ _ _ _ _ _ => false) (fun _ ih x0 x79 x80 x81 h K => b147_58 call n (fun x0 x79 x80 x81 h => ih x0 x79 x80 x81 h K) x0 x79 x80 x81 h K)
noncomputable def p147_48 (call : CallFn) (n : Nat) (x0 x3 : AV) (h : AHeap) (K : Kont) : Bool :=
  optPK (bsliceV h 1 1 [.str []] [(0, (.str [119, 104, 101, 110]))]) fun v50 h => call (.func 194) [x0, v50] h <| pz K fun v51 h => fadrK 6 x3 fun v52 => loadK h v52 fun v53 => call (.func 198) [x0, v53] h <| pz K fun v54 h => optPK (bsliceV h 1 1 [.str []] [(0, (.str [116, 104, 101, 110]))]) fun v55 h => call (.func 194) [x0, v55] h <| pz K fun v56 h => fadrK 7 x3 fun v57 => loadK h v57 fun v58 => lenK v58 fun v59 => l147_58 call n n x0 v58 v59 (.int .i64 0) h K
noncomputable def p147_42 (call : CallFn) (n : Nat) (x0 x3 : AV) (h : AHeap) (K : Kont) : Bool :=
  fadrK 5 x3 fun v46 => loadK h v46 fun v47 => condK v47 (optPK (bsliceV h 1 1 [.str []] [(0, (.str [108, 111, 99, 107]))]) fun v48 h => call (.func 194) [x0, v48] h <| pz K fun v49 h => p147_48 call n x0 x3 h K) (p147_48 call n x0 x3 h K)
noncomputable def p147_36 (call : CallFn) (n : Nat) (x0 x3 : AV) (h : AHeap) (K : Kont) : Bool :=
  fadrK 4 x3 fun v42 => loadK h v42 fun v43 => condK v43 (optPK (bsliceV h 1 1 [.str []] [(0, (.str [110, 111, 108, 111, 111, 112]))]) fun v44 h => call (.func 194) [x0, v44] h <| pz K fun v45 h => p147_42 call n x0 x3 h K) (p147_42 call n x0 x3 h K)
noncomputable def p147_35001 (call : CallFn) (n : Nat) (x0 x3 x52 x55 : AV) (h : AHeap) (K : Kont) : Bool :=
  optPK (bsliceV h 2 1 [.str []] [(0, (.str [102, 108, 111, 119])), (1, x55)]) fun v40 h => call (.func 194) [x52, v40] h <| pz K fun v41 h => p147_36 call n x0 x3 h K
noncomputable def p147_30 (call : CallFn) (n : Nat) (x0 x3 : AV) (h : AHeap) (K : Kont) : Bool :=
  fadrK 3 x3 fun v34 => loadK h v34 fun v35 => neqK v35 (.str []) fun v36 => condK v36 (fadrK 3 x3 fun v37 => loadK h v37 fun v38 => call (.func 195) [v38] h <| pz K fun v39 h => p147_35001 call n x0 x3 x0 v39 h K) (p147_36 call n x0 x3 h K)
noncomputable def p147_29001 (call : CallFn) (n : Nat) (x0 x3 x43 x46 : AV) (h : AHeap) (K : Kont) : Bool :=
  optPK (bsliceV h 2 1 [.str []] [(0, (.str [103, 114, 111, 117, 112])), (1, x46)]) fun v32 h => call (.func 194) [x43, v32] h <| pz K fun v33 h => p147_30 call n x0 x3 h K
noncomputable def p147_24 (call : CallFn) (n : Nat) (x0 x3 : AV) (h : AHeap) (K : Kont) : Bool :=
  fadrK 2 x3 fun v26 => loadK h v26 fun v27 => neqK v27 (.str []) fun v28 => condK v28 (fadrK 2 x3 fun v29 => loadK h v29 fun v30 => call (.func 195) [v30] h <| pz K fun v31 h => p147_29001 call n x0 x3 x0 v31 h K) (p147_30 call n x0 x3 h K)
noncomputable def p147_23001 (call : CallFn) (n : Nat) (x0 x3 x35 x37 : AV) (h : AHeap) (K : Kont) : Bool :=
  optPK (bsliceV h 1 1 [.str []] [(0, x37)]) fun v24 h => call (.func 194) [x35, v24] h <| pz K fun v25 h => p147_24 call n x0 x3 h K
noncomputable def p147_22 (call : CallFn) (n : Nat) (x0 x3 x4 : AV) (h : AHeap) (K : Kont) : Bool :=
  call (.func 197) [x4, (.int .i64 10)] h <| pz K fun v23 h => p147_23001 call n x0 x3 x0 v23 h K
noncomputable def p147_4001 (call : CallFn) (n : Nat) (x0 x3 x7 x10 : AV) (h : AHeap) (K : Kont) : Bool :=
  optPK (bsliceV h 2 1 [.str []] [(0, (.str [114, 117, 108, 101])), (1, x10)]) fun v5 h => call (.func 194) [x7, v5] h <| pz K fun v6 h => fadrK 1 x3 fun v7 => loadK h v7 fun v8 => neqK v8 (.int .i64 0) fun v9 => condK v9 (optPK (bsliceV h 1 1 [.str []] [(0, (.str [115, 97, 108, 105, 101, 110, 99, 101]))]) fun v10 h => call (.func 194) [x0, v10] h <| pz K fun v11 h => fadrK 1 x3 fun v12 => loadK h v12 fun v13 => geqK v13 (.int .i64 (-2147483648)) fun v14 => gK v14 true (optK (some v13)) fun v15 => gK v14 true (leqK v15 (.int .i64 2147483648)) fun v16 => pickK v14 v16 (.bool false) fun v17 => call (.func 196) [v17] h <| pz K fun v18 h => lssK v13 (.int .i64 0) fun v19 => condK v19 (optPK (bsliceV h 1 1 [.str []] [(0, (.str [45]))]) fun v20 h => call (.func 194) [x0, v20] h <| pz K fun v21 h => optK (negA v13) fun v22 => p147_22 call n x0 x3 v22 h K) (p147_22 call n x0 x3 v13 h K)) (p147_24 call n x0 x3 h K)
noncomputable def s147 (call : CallFn) (n : Nat) (x0 x1 : AV) (h : AHeap) (K : Kont) : Bool :=
  optPK (boxA h (none) 8 x1) fun v1 h => fadrK 0 v1 fun v2 => loadK h v2 fun v3 => call (.func 195) [v3] h <| pz K fun v4 h => p147_4001 call n x0 v1 x0 v4 h K

/-! ### 148 (*proctor/print.writer).query -/
noncomputable def s148 (call : CallFn) (n : Nat) (x0 x1 : AV) (h : AHeap) (K : Kont) : Bool :=
  boxK h x0 fun v1 h => optPK (boxA h (none) 3 x1) fun v2 h => loadK h v1 fun v3 => fadrK 0 v2 fun v4 => loadK h v4 fun v5 => optPK (bsliceV h 3 1 [.str []] [(0, (.str [113, 117, 101, 114, 121])), (1, v5), (2, (.str [40]))]) fun v6 h => call (.func 194) [v3, v6] h <| pz K fun v7 h => loadK h v1 fun v8 => fadrK 1 v2 fun v9 => loadK h v9 fun v10 => optK (some (.fn (.func 201) [] [v1])) fun v11 => call (.func 200) [v8, v10, v11] h <| pz K fun v12 h => loadK h v1 fun v13 => optPK (bsliceV h 1 1 [.str []] [(0, (.str [41]))]) fun v14 h => call (.func 194) [v13, v14] h <| pz K fun v15 h => loadK h v1 fun v16 => fadrK 2 v2 fun v17 => loadK h v17 fun v18 => call (.func 198) [v16, v18] h <| pz K fun v19 h => loadK h v1 fun v20 => optPK (bsliceV h 1 1 [.str []] [(0, (.str [101, 110, 100]))]) fun v21 h => call (.func 194) [v20, v21] h <| pz K fun v22 h => K (.tup []) h

/-! ### 149 proctor/parse.Long$1 -/
noncomputable def p149_1001 (call : CallFn) (n : Nat) (x1 x4 : AV) (h : AHeap) (K : Kont) : Bool :=
  storeNK h 3 x1 x4 fun h => K (.tup []) h
noncomputable def s149 (call : CallFn) (n : Nat) (x0 x1 : AV) (h : AHeap) (K : Kont) : Bool :=
  call (.func 11) [x0] h <| pz K fun v1 h => p149_1001 call n x1 v1 h K

/-! ### 150 slices.EqualFunc[[]proctor/api.Class,[]proctor/api.Class,proctor/api.Class,proctor/api.Class] -/
noncomputable def p150_29001 (call : CallFn) (n : Nat) (B14 : F5) (x1 x2 x15 x16 x17 x29 : AV) (h : AHeap) (K : Kont) : Bool :=
  notK x29 fun v17 => condK v17 (K (.bool false) h) (addK x17 (.int .i64 1) fun v18 => B14 x1 x2 x15 x16 v18 h)
noncomputable def b150_14 (call : CallFn) (n : Nat) (B14 : F5) (x1 x2 x15 x16 x17 : AV) (h : AHeap) (K : Kont) : Bool :=
  lssK x17 x16 fun v5 => condK v5 (iadrK h 3 x15 x17 fun v6 => loadGK h 3 v6 fun v7 => allocK h [.str [], .str [], .nilSlc] 3 fun v8 h => storeNK h 3 v8 v7 fun h => iadrK h 3 x1 x17 fun v10 => loadGK h 3 v10 fun v11 => allocK h [.str [], .str [], .nilSlc] 3 fun v12 h => storeNK h 3 v12 v11 fun h => loadGK h 3 v8 fun v14 => loadGK h 3 v12 fun v15 => callV call x2 [v14, v15] h <| pz K fun v16 h => p150_29001 call n B14 x1 x2 x15 x16 x17 v16 h K) (K (.bool true) h)
noncomputable def l150_14 (call : CallFn) (n : Nat) : Nat → AV → AV → AV → AV → AV → AHeap → Kont → Bool :=
  @Nat.rec (fun _ => AV → AV → AV → AV → AV → AHeap → Kont → Bool) (fun _ _ _ _ _ _ _ => false) (fun _ ih x1 x2 x15 x16 x17 h K => b150_14 call n (fun x1 x2 x15 x16 x17 h => ih x1 x2 x15 x16 x17 h K) x1 x2 x15 x16 x17 h K)
noncomputable def p150_10 (call : CallFn) (n : Nat) (x0 x1 x2 : AV) (h : AHeap) (K : Kont) : Bool :=
  lenK x0 fun v4 => l150_14 call n n x1 x2 x0 v4 (.int .i64 0) h K
noncomputable def s150 (call : CallFn) (n : Nat) (x0 x1 x2 : AV) (h : AHeap) (K : Kont) : Bool :=
  lenK x0 fun v1 => lenK x1 fun v2 => neqK v1 v2 fun v3 => condK v3 (K (.bool false) h) (p150_10 call n x0 x1 x2 h K)

/-! ### 151 proctor/print.sameClass -/
noncomputable def p151_4001 (call : CallFn) (n : Nat) (x17 x22 : AV) (h : AHeap) (K : Kont) : Bool :=
  pickK x17 x22 (.bool false) fun v19 => K v19 h
noncomputable def s151 (call : CallFn) (n : Nat) (x0 x1 : AV) (h : AHeap) (K : Kont) : Bool :=
  optPK (boxA h (none) 3 x0) fun v1 h => optPK (boxA h (none) 3 x1) fun v2 h => fadrK 0 v1 fun v3 => loadK h v3 fun v4 => fadrK 0 v2 fun v5 => loadK h v5 fun v6 => eqlK v4 v6 fun v7 => gK v7 true (fadrK 1 v1) fun v8 => gK v7 true (loadK h v8) fun v9 => gK v7 true (fadrK 1 v2) fun v10 => gK v7 true (loadK h v10) fun v11 => gK v7 true (eqlK v9 v11) fun v12 => pickK v7 v12 (.bool false) fun v13 => gK v13 true (fadrK 2 v1) fun v14 => gK v13 true (loadK h v14) fun v15 => gK v13 true (fadrK 2 v2) fun v16 => gK v13 true (loadK h v16) fun v17 => gP v13 true (fun k => call (.func 202) [v15, v17] h (pz K k)) h fun v18 h => p151_4001 call n v13 v18 h K

/-! ### 152 slices.EqualFunc[[]proctor/api.Rule,[]proctor/api.Rule,proctor/api.Rule,proctor/api.Rule] -/
noncomputable def p152_29001 (call : CallFn) (n : Nat) (B14 : F5) (x1 x2 x15 x16 x17 x29 : AV) (h : AHeap) (K : Kont) : Bool :=
  notK x29 fun v17 => condK v17 (K (.bool false) h) (addK x17 (.int .i64 1) fun v18 => B14 x1 x2 x15 x16 v18 h)
noncomputable def b152_14 (call : CallFn) (n : Nat) (B14 : F5) (x1 x2 x15 x16 x17 : AV) (h : AHeap) (K : Kont) : Bool :=
  lssK x17 x16 fun v5 => condK v5 (iadrK h 8 x15 x17 fun v6 => loadGK h 8 v6 fun v7 => allocK h [.str [], .int .i64 0, .str [], .str [], .bool false, .bool false, .nilSlc, .nilSlc] 8 fun v8 h => storeNK h 8 v8 v7 fun h => iadrK h 8 x1 x17 fun v10 => loadGK h 8 v10 fun v11 => allocK h [.str [], .int .i64 0, .str [], .str [], .bool false, .bool false, .nilSlc, .nilSlc] 8 fun v12 h => storeNK h 8 v12 v11 fun h => loadGK h 8 v8 fun v14 => loadGK h 8 v12 fun v15 => callV call x2 [v14, v15] h <| pz K fun v16 h => p152_29001 call n B14 x1 x2 x15 x16 x17 v16 h K) (K (.bool true) h)
noncomputable def l152_14 (call : CallFn) (n : Nat) : Nat → AV → AV → AV → AV → AV → AHeap → Kont → Bool :=
  @Nat.rec (fun _ => AV → AV → AV → AV → AV → AHeap → Kont → Bool) (fun _ _ _ _ _ _ _ => false) (fun _ ih x1 x2 x15 x16 x17 h K => b152_14 call n (fun x1 x2 x15 x16 x17 h => ih x1 x2 x15 x16 x17 h K) x1 x2 x15 x16 x17 h K)
noncomputable def p152_10 (call : CallFn) (n : Nat) (x0 x1 x2 : AV) (h : AHeap) (K : Kont) : Bool :=
  lenK x0 fun v4 => l152_14 call n n x1 x2 x0 v4 (.int .i64 0) h K
noncomputable def s152 (call : CallFn) (n : Nat) (x0 x1 x2 : AV) (h : AHeap) (K : Kont) : Bool :=
  lenK x0 fun v1 => lenK x1 fun v2 => neqK v1 v2 fun v3 => condK v3 (K (.bool false) h) (p152_10 call n x0 x1 x2 h K)

/-! ### 153 proctor/print.sameRule -/
noncomputable def p153_4002 (call : CallFn) (n : Nat) (x52 x57 : AV) (h : AHeap) (K : Kont) : Bool :=
  pickK x52 x57 (.bool false) fun v49 => K v49 h
noncomputable def p153_4001 (call : CallFn) (n : Nat) (x2 x3 x45 x50 : AV) (h : AHeap) (K : Kont) : Bool :=
  pickK x45 x50 (.bool false) fun v43 => gK v43 true (fadrK 7 x2) fun v44 => gK v43 true (loadK h v44) fun v45 => gK v43 true (fadrK 7 x3) fun v46 => gK v43 true (loadK h v46) fun v47 => gP v43 true (fun k => call (.func 204) [v45, v47, (.fn (.func 205) [] [])] h (pz K k)) h fun v48 h => p153_4002 call n v43 v48 h K
set_option maxRecDepth 100000 in
noncomputable def s153 (call : CallFn) (n : Nat) (x0 x1 : AV) (h : AHeap) (K : Kont) : Bool :=
  optPK (boxA h (none) 8 x0) fun v1 h => optPK (boxA h (none) 8 x1) fun v2 h => fadrK 0 v1 fun v3 => loadK h v3 fun v4 => fadrK 0 v2 fun v5 => loadK h v5 fun v6 => eqlK v4 v6 fun v7 => gK v7 true (fadrK 1 v1) fun v8 => gK v7 true (loadK h v8) fun v9 => gK v7 true (fadrK 1 v2) fun v10 => gK v7 true (loadK h v10) fun v11 => gK v7 true (eqlK v9 v11) fun v12 => pickK v7 v12 (.bool false) fun v13 => gK v13 true (fadrK 2 v1) fun v14 => gK v13 true (loadK h v14) fun v15 => gK v13 true (fadrK 2 v2) fun v16 => gK v13 true (loadK h v16) fun v17 => gK v13 true (eqlK v15 v17) fun v18 => pickK v13 v18 (.bool false) fun v19 => gK v19 true (fadrK 3 v1) fun v20 => gK v19 true (loadK h v20) fun v21 => gK v19 true (fadrK 3 v2) fun v22 => gK v19 true (loadK h v22) fun v23 => gK v19 true (eqlK v21 v23) fun v24 => pickK v19 v24 (.bool false) fun v25 => gK v25 true (fadrK 4 v1) fun v26 => gK v25 true (loadK h v26) fun v27 => gK v25 true (fadrK 4 v2) fun v28 => gK v25 true (loadK h v28) fun v29 => gK v25 true (optK (eqV h false .bool v27 v29)) fun v30 => pickK v25 v30 (.bool false) fun v31 => gK v31 true (fadrK 5 v1) fun v32 => gK v31 true (loadK h v32) fun v33 => gK v31 true (fadrK 5 v2) fun v34 => gK v31 true (loadK h v34) fun v35 => gK v31 true (optK (eqV h false .bool v33 v35)) fun v36 => pickK v31 v36 (.bool false) fun v37 => gK v37 true (fadrK 6 v1) fun v38 => gK v37 true (loadK h v38) fun v39 => gK v37 true (fadrK 6 v2) fun v40 => gK v37 true (loadK h v40) fun v41 => gP v37 true (fun k => call (.func 203) [v39, v41] h (pz K k)) h fun v42 h => p153_4001 call n v1 v2 v37 v42 h K

/-! ### 154 slices.EqualFunc[[]proctor/api.Query,[]proctor/api.Query,proctor/api.Query,proctor/api.Query] -/
noncomputable def p154_29001 (call : CallFn) (n : Nat) (B14 : F5) (x1 x2 x15 x16 x17 x29 : AV) (h : AHeap) (K : Kont) : Bool :=
  notK x29 fun v17 => condK v17 (K (.bool false) h) (addK x17 (.int .i64 1) fun v18 => B14 x1 x2 x15 x16 v18 h)
noncomputable def b154_14 (call : CallFn) (n : Nat) (B14 : F5) (x1 x2 x15 x16 x17 : AV) (h : AHeap) (K : Kont) : Bool :=
  lssK x17 x16 fun v5 => condK v5 (iadrK h 3 x15 x17 fun v6 => loadGK h 3 v6 fun v7 => allocK h [.str [], .nilSlc, .nilSlc] 3 fun v8 h => storeNK h 3 v8 v7 fun h => iadrK h 3 x1 x17 fun v10 => loadGK h 3 v10 fun v11 => allocK h [.str [], .nilSlc, .nilSlc] 3 fun v12 h => storeNK h 3 v12 v11 fun h => loadGK h 3 v8 fun v14 => loadGK h 3 v12 fun v15 => callV call x2 [v14, v15] h <| pz K fun v16 h => p154_29001 call n B14 x1 x2 x15 x16 x17 v16 h K) (K (.bool true) h)
noncomputable def l154_14 (call : CallFn) (n : Nat) : Nat → AV → AV → AV → AV → AV → AHeap → Kont → Bool :=
  @Nat.rec (fun _ => AV → AV → AV → AV → AV → AHeap → Kont → Bool) (fun _ _ _ _ _ _ _ => false) (fun _ ih x1 x2 x15 x16 x17 h K => b154_14 call n (fun x1 x2 x15 x16 x17 h => ih x1 x2 x15 x16 x17 h K) x1 x2 x15 x16 x17 h K)
noncomputable def p154_10 (call : CallFn) (n : Nat) (x0 x1 x2 : AV) (h : AHeap) (K : Kont) : Bool :=
  lenK x0 fun v4 => l154_14 call n n x1 x2 x0 v4 (.int .i64 0) h K
noncomputable def s154 (call : CallFn) (n : Nat) (x0 x1 x2 : AV) (h : AHeap) (K : Kont) : Bool :=
  lenK x0 fun v1 => lenK x1 fun v2 => neqK v1 v2 fun v3 => condK v3 (K (.bool false) h) (p154_10 call n x0 x1 x2 h K)

/-! ### 155 proctor/print.sameQuery -/
noncomputable def p155_4002 (call : CallFn) (n : Nat) (x17 x22 : AV) (h : AHeap) (K : Kont) : Bool :=
  pickK x17 x22 (.bool false) fun v19 => K v19 h
noncomputable def p155_4001 (call : CallFn) (n : Nat) (x2 x3 x10 x15 : AV) (h : AHeap) (K : Kont) : Bool :=
  pickK x10 x15 (.bool false) fun v13 => gK v13 true (fadrK 2 x2) fun v14 => gK v13 true (loadK h v14) fun v15 => gK v13 true (fadrK 2 x3) fun v16 => gK v13 true (loadK h v16) fun v17 => gP v13 true (fun k => call (.func 203) [v15, v17] h (pz K k)) h fun v18 h => p155_4002 call n v13 v18 h K
noncomputable def s155 (call : CallFn) (n : Nat) (x0 x1 : AV) (h : AHeap) (K : Kont) : Bool :=
  optPK (boxA h (none) 3 x0) fun v1 h => optPK (boxA h (none) 3 x1) fun v2 h => fadrK 0 v1 fun v3 => loadK h v3 fun v4 => fadrK 0 v2 fun v5 => loadK h v5 fun v6 => eqlK v4 v6 fun v7 => gK v7 true (fadrK 1 v1) fun v8 => gK v7 true (loadK h v8) fun v9 => gK v7 true (fadrK 1 v2) fun v10 => gK v7 true (loadK h v10) fun v11 => gP v7 true (fun k => call (.func 206) [v9, v11] h (pz K k)) h fun v12 h => p155_4001 call n v1 v2 v7 v12 h K

/-! ### 156 proctor/check.need -/
noncomputable def s156 (call : CallFn) (n : Nat) (x0 : AV) (h : AHeap) (K : Kont) : Bool :=
  notK x0 fun v1 => condK v1 (buildK [] [] fun v2 => optK (mkifA 233 v2) fun v3 => pncK K v3 h) (K (.tup []) h)

/-! ### 158 maps.Clone[proctor/check.scope,string,proctor/check.state] -/
noncomputable def p158_12001 (call : CallFn) (n : Nat) (x7 : AV) (h : AHeap) (K : Kont) : Bool :=
  optK (tasA 169 false .nilMap x7) fun v4 => K v4 h
noncomputable def s158 (call : CallFn) (n : Nat) (x0 : AV) (h : AHeap) (K : Kont) : Bool :=
  optK (eqV h false .map x0 .nilMap) fun v1 => condK v1 (K .nilMap h) (optK (mkifA 169 x0) fun v2 => call (.func 207) [v2] h <| pz K fun v3 h => p158_12001 call n v3 h K)

/-! ### 159 (*proctor/check.checker).cond -/
noncomputable def p159_34002 (call : CallFn) (n : Nat) (x2 x4 x71 x75 : AV) (h : AHeap) (K : Kont) : Bool :=
  gK x71 true (notK x75) fun v52 => pickK x71 v52 (.bool false) fun v53 => call (.func 156) [v53] h <| pz K fun v54 h => fadrK 1 x4 fun v55 => loadK h v55 fun v56 => call (.func 85) [x2, v56] h <| pz K fun v57 h => K (.tup []) h
noncomputable def p159_34001 (call : CallFn) (n : Nat) (x2 x4 x6 x70 : AV) (h : AHeap) (K : Kont) : Bool :=
  gK x70 true (optK (some x6)) fun v48 => gK x70 true (fadrK 1 x4) fun v49 => gK x70 true (loadK h v49) fun v50 => gP x70 true (fun k => call (.func 84) [v48, v50] h (pz K k)) h fun v51 h => p159_34002 call n x2 x4 x70 v51 h K
noncomputable def p159_78 (call : CallFn) (n : Nat) (B62 : F4) (x2 x124 x125 x126 : AV) (h : AHeap) (K : Kont) : Bool :=
  addK x126 (.int .i64 1) fun v109 => B62 x2 x124 x125 v109 h
noncomputable def b159_62 (call : CallFn) (n : Nat) (B62 : F4) (x2 x124 x125 x126 : AV) (h : AHeap) (K : Kont) : Bool :=
  lssK x126 x125 fun v97 => condK v97 (iadrK h 9 x124 x126 fun v98 => loadGK h 9 v98 fun v99 => allocK h [.str [], .int .i64 0, .str [], .int .i64 0, .bool false, .int .i64 0, .str [], .nilSlc, .nilSlc] 9 fun v100 h => storeNK h 9 v100 v99 fun h => fadrK 1 v100 fun v102 => fadrK 0 v102 fun v103 => loadK h v103 fun v104 => eqlK v104 (.int .i64 0) fun v105 => condK v105 (fadrK 0 v100 fun v106 => loadK h v106 fun v107 => call (.func 85) [x2, v107] h <| pz K fun v108 h => p159_78 call n B62 x2 x124 x125 x126 h K) (p159_78 call n B62 x2 x124 x125 x126 h K)) (K (.tup []) h)
noncomputable def l159_62 (call : CallFn) (n : Nat) : Nat → AV → AV → AV → AV → AHeap → Kont → Bool :=
  @Nat.rec (fun _ => AV → AV → AV → AV → AHeap → Kont → Bool) (fun _ _ _ _ _ _ => false) (fun _ ih x2 x124 x125 x126 h K => b159_62 call n (fun x2 x124 x125 x126 h => ih x2 x124 x125 x126 h K) x2 x124 x125 x126 h K)
noncomputable def p159_59 (call : CallFn) (n : Nat) (x2 x4 : AV) (h : AHeap) (K : Kont) : Bool :=
  fadrK 18 x4 fun v94 => loadK h v94 fun v95 => lenK v95 fun v96 => l159_62 call n n x2 v95 v96 (.int .i64 0) h K
noncomputable def b159_46 (call : CallFn) (n : Nat) (B46 : F5) (x2 x4 x112 x113 x114 : AV) (h : AHeap) (K : Kont) : Bool :=
  lssK x114 x113 fun v85 => condK v85 (iadrK h 9 x112 x114 fun v86 => loadGK h 9 v86 fun v87 => allocK h [.str [], .int .i64 0, .str [], .int .i64 0, .bool false, .int .i64 0, .str [], .nilSlc, .nilSlc] 9 fun v88 h => storeNK h 9 v88 v87 fun h => fadrK 1 v88 fun v90 => loadGK h 8 v90 fun v91 => call (.func 161) [x2, v91] h <| pz K fun v92 h => addK x114 (.int .i64 1) fun v93 => B46 x2 x4 x112 x113 v93 h) (p159_59 call n x2 x4 h K)
noncomputable def l159_46 (call : CallFn) (n : Nat) : Nat → AV → AV → AV → AV → AV → AHeap → Kont → Bool :=
  @Nat.rec (fun _ => AV → AV → AV → AV → AV → AHeap → Kont → Bool) (fun _ _ _ _ _ _ _ => false) (fun _ ih x2 x4 x112 x113 x114 h K => b159_46 call n (fun x2 x4 x112 x113 x114 h => ih x2 x4 x112 x113 x114 h K) x2 x4 x112 x113 x114 h K)
noncomputable def p159_85 (call : CallFn) (n : Nat) (x0 x2 x4 x13 x139 : AV) (h : AHeap) (K : Kont) : Bool :=
  condK x139 (fadrK 5 x4 fun v111 => loadK h v111 fun v112 => call (.func 95) [x0, v112, x2] h <| pz K fun v113 h => K (.tup []) h) (eqlK x13 (.int .i64 4) fun v114 => condK v114 (nilckK x0 fun v115 => fadrK 4 v115 fun v116 => loadK h v116 fun v117 => notK v117 fun v118 => call (.func 156) [v118] h <| pz K fun v119 h => fadrK 6 x4 fun v120 => loadK h v120 fun v121 => fadrK 5 x4 fun v122 => loadK h v122 fun v123 => call (.func 95) [x0, v123, x2] h <| pz K fun v124 h => loadK h v120 <| sameK v121 <| call (.func 95) [x0, v121, v124] h <| pz K fun v125 h => K (.tup []) h) (eqlK x13 (.int .i64 5) fun v126 => condK v126 (nilckK x0 fun v127 => fadrK 5 v127 fun v128 => loadK h v128 fun v129 => eqlK v129 (.int .i64 0) fun v130 => call (.func 156) [v130] h <| pz K fun v131 h => loadGK h 19 x4 fun v132 => call (.func 210) [x0, v132, x2] h <| pz K fun v133 h => K (.tup []) h) (K (.tup []) h)))
set_option maxRecDepth 100000 in
noncomputable def s159 (call : CallFn) (n : Nat) (x0 x1 x2 : AV) (h : AHeap) (K : Kont) : Bool :=
  optPK (boxA h (none) 19 x1) fun v1 h => fadrK 0 v1 fun v2 => loadK h v2 fun v3 => eqlK v3 (.int .i64 1) fun v4 => condK v4 (loadGK h 19 v1 fun v5 => call (.func 208) [x0, v5, x2] h <| pz K fun v6 h => K (.tup []) h) (eqlK v3 (.int .i64 6) fun v7 => condK v7 (fadrK 8 v1 fun v8 => loadGK h 8 v8 fun v9 => call (.func 161) [x2, v9] h <| pz K fun v10 h => fadrK 1 v1 fun v11 => loadK h v11 fun v12 => call (.func 85) [x2, v12] h <| pz K fun v13 h => K (.tup []) h) (eqlK v3 (.int .i64 8) fun v14 => condK v14 (fadrK 8 v1 fun v15 => loadGK h 8 v15 fun v16 => call (.func 161) [x2, v16] h <| pz K fun v17 h => K (.tup []) h) (eqlK v3 (.int .i64 7) fun v18 => condK v18 (nilckK x0 fun v19 => fadrK 4 v19 fun v20 => loadK h v20 fun v21 => notK v21 fun v22 => call (.func 156) [v22] h <| pz K fun v23 h => nilckK x0 fun v24 => fadrK 5 v24 fun v25 => loadK h v25 fun v26 => addK v26 (.int .i64 1) fun v27 => nilckK x0 fun v28 => fadrK 5 v28 fun v29 => storeK h v29 v27 fun h => fadrK 5 v1 fun v31 => loadK h v31 fun v32 => call (.func 95) [x0, v32, x2] h <| pz K fun v33 h => nilckK x0 fun v34 => fadrK 5 v34 fun v35 => loadK h v35 fun v36 => subK v36 (.int .i64 1) fun v37 => nilckK x0 fun v38 => fadrK 5 v38 fun v39 => storeK h v39 v37 fun h => fadrK 8 v1 fun v41 => loadGK h 8 v41 fun v42 => call (.func 161) [v33, v42] h <| pz K fun v43 h => optPK (bsliceV h 5 1 [.str []] [(0, (.str [99, 111, 117, 110, 116])), (1, (.str [115, 117, 109])), (2, (.str [109, 105, 110])), (3, (.str [109, 97, 120])), (4, (.str [108, 105, 115, 116]))]) fun v44 h => fadrK 16 v1 fun v45 => loadK h v45 fun v46 => call (.func 162) [v44, v46] h <| pz K fun v47 h => p159_34001 call n x2 v1 v33 v47 h K) (eqlK v3 (.int .i64 9) fun v58 => condK v58 (nilckK x0 fun v59 => fadrK 0 v59 fun v60 => fadrK 2 v60 fun v61 => loadK h v61 fun v62 => optK (some (.fn (.func 209) [] [v1])) fun v63 => call (.func 105) [v62, v63] h <| pz K fun v64 h => geqK v64 (.int .i64 0) fun v65 => gK v65 true (optK (some x0)) fun v66 => gK v65 true (nilckK v66) fun v67 => gK v65 true (fadrK 0 v67) fun v68 => gK v65 true (fadrK 2 v68) fun v69 => gK v65 true (loadK h v69) fun v70 => gK v65 true (optK (some v64)) fun v71 => gK v65 true (iadrK h 3 v70 v71) fun v72 => gK v65 true (fadrK 1 v72) fun v73 => gK v65 true (loadK h v73) fun v74 => gK v65 true (lenK v74) fun v75 => gK v65 true (fadrK 18 v1) fun v76 => gK v65 true (loadK h v76) fun v77 => gK v65 true (lenK v77) fun v78 => gK v65 true (eqlK v75 v78) fun v79 => pickK v65 v79 (.bool false) fun v80 => call (.func 156) [v80] h <| pz K fun v81 h => fadrK 18 v1 fun v82 => loadK h v82 fun v83 => lenK v83 fun v84 => l159_46 call n n x2 v1 v83 v84 (.int .i64 0) h K) (eqlK v3 (.int .i64 2) fun v110 => condK v110 (p159_85 call n x0 x2 v1 v3 v110 h K) (eqlK v3 (.int .i64 3) fun v134 => p159_85 call n x0 x2 v1 v3 v134 h K))))))

/-! ### 160 (*proctor/check.checker).set -/
noncomputable def p160_30 (call : CallFn) (n : Nat) (B7 : F7) (x0 x2 x4 x6 x8 x12 x13 x14 : AV) (h : AHeap) (K : Kont) : Bool :=
  fadrK 1 x8 fun v34 => loadGK h 8 v34 fun v35 => call (.func 161) [x2, v35] h <| pz K fun v36 h => addK x14 (.int .i64 1) fun v37 => B7 x0 x2 x4 x6 x12 x13 v37 h
noncomputable def p160_20001 (call : CallFn) (n : Nat) (B7 : F7) (x0 x2 x4 x6 x8 x12 x13 x14 x21 : AV) (h : AHeap) (K : Kont) : Bool :=
  notK x21 fun v13 => call (.func 156) [v13] h <| pz K fun v14 h => fadrK 0 x8 fun v15 => loadK h v15 fun v16 => optPK (bsliceV h 1 1 [.str []] [(0, v16)]) fun v17 h => appK h 1 16 x6 v17 fun v18 h => fadrK 0 x4 fun v19 => loadK h v19 fun v20 => neqK v20 (.int .i64 3) fun v21 => condK v21 (nilckK x0 fun v22 => fadrK 3 v22 fun v23 => loadK h v23 fun v24 => fadrK 1 x4 fun v25 => loadK h v25 fun v26 => fadrK 0 x8 fun v27 => loadK h v27 fun v28 => call (.func 211) [v24, v26, v28] h <| pz K fun v29 h => extK 0 v29 fun v30 => extK 1 v29 fun v31 => eqlK v31 (.int .i64 0) fun v32 => call (.func 156) [v32] h <| pz K fun v33 h => p160_30 call n B7 x0 x2 x4 v18 x8 x12 x13 x14 h K) (p160_30 call n B7 x0 x2 x4 v18 x8 x12 x13 x14 h K)
noncomputable def b160_7 (call : CallFn) (n : Nat) (B7 : F7) (x0 x2 x4 x6 x12 x13 x14 : AV) (h : AHeap) (K : Kont) : Bool :=
  lssK x14 x13 fun v5 => condK v5 (iadrK h 9 x12 x14 fun v6 => loadGK h 9 v6 fun v7 => allocK h [.str [], .int .i64 0, .str [], .int .i64 0, .bool false, .int .i64 0, .str [], .nilSlc, .nilSlc] 9 fun v8 h => storeNK h 9 v8 v7 fun h => fadrK 0 v8 fun v10 => loadK h v10 fun v11 => call (.func 162) [x6, v11] h <| pz K fun v12 h => p160_20001 call n B7 x0 x2 x4 x6 v8 x12 x13 x14 v12 h K) (K (.tup []) h)
noncomputable def l160_7 (call : CallFn) (n : Nat) : Nat → AV → AV → AV → AV → AV → AV → AV → AHeap → Kont → Bool :=
  @Nat.rec (fun _ => AV → AV → AV → AV → AV → AV → AV → AHeap → Kont → Bool) (fun _ _ _ _ _ _ _ _ _ => false) (fun _ ih x0 x2 x4 x6 x12 x13 x14 h K => b160_7 call n (fun x0 x2 x4 x6 x12 x13 x14 h => ih x0 x2 x4 x6 x12 x13 x14 h K) x0 x2 x4 x6 x12 x13 x14 h K)
noncomputable def s160 (call : CallFn) (n : Nat) (x0 x1 x2 : AV) (h : AHeap) (K : Kont) : Bool :=
  optPK (boxA h (none) 12 x1) fun v1 h => fadrK 2 v1 fun v2 => loadK h v2 fun v3 => lenK v3 fun v4 => l160_7 call n n x0 x2 v1 .nilSlc v3 v4 (.int .i64 0) h K

/-! ### 161 (proctor/check.scope).expr -/
noncomputable def s161 (call : CallFn) (n : Nat) (x0 x1 : AV) (h : AHeap) (K : Kont) : Bool :=
  boxK h x0 fun v1 h => optPK (boxA h (none) 8 x1) fun v2 h => loadGK h 8 v2 fun v3 => optK (some (.fn (.func 213) [] [v1])) fun v4 => call (.func 212) [v3, v4] h <| pz K fun v5 h => K (.tup []) h

/-! ### 162 slices.Contains[[]string,string] -/
noncomputable def p162_4001 (call : CallFn) (n : Nat) (x7 : AV) (h : AHeap) (K : Kont) : Bool :=
  geqK x7 (.int .i64 0) fun v2 => K v2 h
noncomputable def s162 (call : CallFn) (n : Nat) (x0 x1 : AV) (h : AHeap) (K : Kont) : Bool :=
  call (.func 214) [x0, x1] h <| pz K fun v1 h => p162_4001 call n v1 h K

end Go.Proofs.YtgdccjbnakolmaaGreatDoor
