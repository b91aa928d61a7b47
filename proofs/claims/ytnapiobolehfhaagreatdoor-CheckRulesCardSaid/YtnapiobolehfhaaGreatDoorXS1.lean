/-
  The functions as functions of Lean (printed by wip/tools/gen2.py).
-/
import Derived.Test.YtnapiobolehfhaaGreatDoorXS0
namespace Go.Proofs.YtnapiobolehfhaaGreatDoor
open Go.Ab
set_option linter.unusedVariables false

/-! ### 167 (*proctor/lex.lexer).all$1 -/
noncomputable def p167_27001 (call : CallFn) (n : Nat) (B1 : F2) (x0 x1 x49 : AV) (h : AHeap) (K : Kont) : Bool :=
  notK x49 fun v47 => condK v47 (K (.tup []) h) (B1 x0 x1 h)
noncomputable def p167_13001 (call : CallFn) (n : Nat) (B1 : F2) (x0 x1 x19 : AV) (h : AHeap) (K : Kont) : Bool :=
  extK 0 x19 fun v15 => extK 1 x19 fun v16 => allocK h [.int .i64 0, .str [], .int .i64 0, .int .i64 0] 4 fun v17 h => storeNK h 4 v17 v15 fun h => eqlK v16 (.int .i64 0) fun v19 => condK v19 (loadK h x1 fun v20 => nilckK v20 fun v21 => fadrK 2 v21 fun v22 => storeK h v22 (.bool true) fun h => K (.tup []) h) (loadK h x1 fun v24 => nilckK v24 fun v25 => fadrK 1 v25 fun v26 => loadK h v26 fun v27 => loadK h x1 fun v28 => nilckK v28 fun v29 => fadrK 1 v29 fun v30 => loadK h v30 fun v31 => addK v31 v16 fun v32 => fadrK 2 v17 fun v33 => storeK h v33 v27 fun h => loadK h x1 <| sameK v28 <| loadK h v30 <| sameK v31 <| fadrK 3 v17 fun v35 => storeK h v35 v32 fun h => loadK h x1 fun v37 => nilckK v37 fun v38 => fadrK 1 v38 fun v39 => loadK h v39 fun v40 => addK v40 v16 fun v41 => nilckK v37 fun v42 => fadrK 1 v42 fun v43 => storeK h v43 v41 fun h => loadGK h 4 v17 fun v45 => callV call x0 [v45] h <| pz K fun v46 h => p167_27001 call n B1 x0 x1 v46 h K)
noncomputable def b167_1 (call : CallFn) (n : Nat) (B1 : F2) (x0 x1 : AV) (h : AHeap) (K : Kont) : Bool :=
  loadK h x1 fun v1 => call (.func 168) [v1] h <| pz K fun v2 h => loadK h x1 fun v3 => nilckK v3 fun v4 => fadrK 1 v4 fun v5 => loadK h v5 fun v6 => loadK h x1 fun v7 => nilckK v7 fun v8 => fadrK 0 v8 fun v9 => loadK h v9 fun v10 => lenSK v10 fun v11 => geqK v6 v11 fun v12 => condK v12 (K (.tup []) h) (loadK h x1 fun v13 => call (.func 169) [v13] h <| pz K fun v14 h => p167_13001 call n B1 x0 x1 v14 h K)
noncomputable def l167_1 (call : CallFn) (n : Nat) : Nat → AV → AV → AHeap → Kont → Bool :=
  @Nat.rec (fun _ => AV → AV → AHeap → Kont → Bool) (fun _ _ _ _ => false) (fun _ ih x0 x1 h K => b167_1 call n (fun x0 x1 h => ih x0 x1 h K) x0 x1 h K)
noncomputable def s167 (call : CallFn) (n : Nat) (x0 x1 : AV) (h : AHeap) (K : Kont) : Bool :=
  l167_1 call n n x0 x1 h K

/-! ### 168 (*proctor/lex.lexer).blank -/
noncomputable def p168_49 (call : CallFn) (n : Nat) (B0 : F1) (x0 x3 : AV) (h : AHeap) (K : Kont) : Bool :=
  nilckK x0 fun v41 => fadrK 1 v41 fun v42 => loadK h v42 fun v43 => addK v43 x3 fun v44 => nilckK x0 fun v45 => fadrK 1 v45 fun v46 => storeK h v46 v44 fun h => B0 x0 h
noncomputable def p168_40001 (call : CallFn) (n : Nat) (B0 : F1) (x0 x31 x33 : AV) (h : AHeap) (K : Kont) : Bool :=
  gK x31 true (eqlK x33 (.int .u8 47)) fun v22 => pickK x31 v22 (.bool false) fun v23 => condK v23 (nilckK x0 fun v24 => fadrK 0 v24 fun v25 => loadK h v25 fun v26 => nilckK x0 fun v27 => fadrK 1 v27 fun v28 => loadK h v28 fun v29 => slsK v26 (some v29) none fun v30 => call (.func 181) [v30, (.int .u8 10)] h <| pz K fun v31 h => lssK v31 (.int .i64 0) fun v32 => condK v32 (nilckK x0 fun v33 => fadrK 0 v33 fun v34 => loadK h v34 fun v35 => lenSK v35 fun v36 => nilckK x0 fun v37 => fadrK 1 v37 fun v38 => loadK h v38 fun v39 => subK v36 v39 fun v40 => p168_49 call n B0 x0 v40 h K) (p168_49 call n B0 x0 v31 h K)) (K (.tup []) h)
noncomputable def j168_0 (call : CallFn) (n : Nat) (B0 : F1) (x0 : AV) (h : AHeap) (K : Kont) : Bool :=
  call (.func 201) [x0, (.int .i64 0)] h <| pz K fun v1 h => eqlK v1 (.int .u8 32) fun v2 => gK v2 false (optK (some v1)) fun v3 => gK v2 false (eqlK v3 (.int .u8 9)) fun v4 => pickK v2 (.bool true) v4 fun v5 => gK v5 false (optK (some v1)) fun v6 => gK v5 false (eqlK v6 (.int .u8 13)) fun v7 => pickK v5 (.bool true) v7 fun v8 => gK v8 false (optK (some v1)) fun v9 => gK v8 false (eqlK v9 (.int .u8 10)) fun v10 => pickK v8 (.bool true) v10 fun v11 => condK v11 (nilckK x0 fun v12 => fadrK 1 v12 fun v13 => loadK h v13 fun v14 => addK v14 (.int .i64 1) fun v15 => nilckK x0 fun v16 => fadrK 1 v16 fun v17 => storeK h v17 v15 fun h => B0 x0 h) (eqlK v1 (.int .u8 47) fun v19 => gK v19 true (optK (some x0)) fun v20 => gP v19 true (fun k => call (.func 201) [v20, (.int .i64 1)] h (pz K k)) h fun v21 h => p168_40001 call n B0 x0 v19 v21 h K)
noncomputable def g168_0 (call : CallFn) (n : Nat) : Nat → AV → AHeap → Kont → Bool :=
  @Nat.rec (fun _ => AV → AHeap → Kont → Bool) (fun _ _ _ => false) (fun _ ih x0 h K => j168_0 call n (fun x0 h => ih x0 h K) x0 h K)
noncomputable def p168_23 (call : CallFn) (n : Nat) (B0 : F1) (x0 x3 : AV) (h : AHeap) (K : Kont) : Bool :=
  nilckK x0 fun v88 => fadrK 1 v88 fun v89 => loadK h v89 fun v90 => addK v90 x3 fun v91 => nilckK x0 fun v92 => fadrK 1 v92 fun v93 => storeK h v93 v91 fun h => B0 x0 h
noncomputable def p168_14001 (call : CallFn) (n : Nat) (B0 : F1) (x0 x31 x33 : AV) (h : AHeap) (K : Kont) : Bool :=
  gK x31 true (eqlK x33 (.int .u8 47)) fun v69 => pickK x31 v69 (.bool false) fun v70 => condK v70 (nilckK x0 fun v71 => fadrK 0 v71 fun v72 => loadK h v72 fun v73 => nilckK x0 fun v74 => fadrK 1 v74 fun v75 => loadK h v75 fun v76 => slsK v73 (some v76) none fun v77 => call (.func 181) [v77, (.int .u8 10)] h <| pz K fun v78 h => lssK v78 (.int .i64 0) fun v79 => condK v79 (nilckK x0 fun v80 => fadrK 0 v80 fun v81 => loadK h v81 fun v82 => lenSK v82 fun v83 => nilckK x0 fun v84 => fadrK 1 v84 fun v85 => loadK h v85 fun v86 => subK v83 v86 fun v87 => p168_23 call n B0 x0 v87 h K) (p168_23 call n B0 x0 v78 h K)) (K (.tup []) h)
noncomputable def f168_0 (call : CallFn) (n : Nat) (B0 : F1) (x0 : AV) (h : AHeap) (K : Kont) : Bool :=
  call (.func 201) [x0, (.int .i64 0)] h <| pz K fun v48 h => eqlK v48 (.int .u8 32) fun v49 => gK v49 false (optK (some v48)) fun v50 => gK v49 false (eqlK v50 (.int .u8 9)) fun v51 => pickK v49 (.bool true) v51 fun v52 => gK v52 false (optK (some v48)) fun v53 => gK v52 false (eqlK v53 (.int .u8 13)) fun v54 => pickK v52 (.bool true) v54 fun v55 => gK v55 false (optK (some v48)) fun v56 => gK v55 false (eqlK v56 (.int .u8 10)) fun v57 => pickK v55 (.bool true) v57 fun v58 => condK v58 (nilckK x0 fun v59 => fadrK 1 v59 fun v60 => loadK h v60 fun v61 => addK v61 (.int .i64 1) fun v62 => nilckK x0 fun v63 => fadrK 1 v63 fun v64 => storeK h v64 v62 fun h => B0 x0 h) (eqlK v48 (.int .u8 47) fun v66 => gK v66 true (optK (some x0)) fun v67 => gP v66 true (fun k => call (.func 201) [v67, (.int .i64 1)] h (pz K k)) h fun v68 h => p168_14001 call n B0 x0 v66 v68 h K)
noncomputable def s168 (call : CallFn) (n : Nat) (x0 : AV) (h : AHeap) (K : Kont) : Bool :=
  f168_0 call n (pF1 (pC1 (g168_0 call n n) K)) x0 h K

/-! ### 169 (*proctor/lex.lexer).next -/
noncomputable def p169_15001 (call : CallFn) (n : Nat) (x2 x3 x18 : AV) (h : AHeap) (K : Kont) : Bool :=
  buildK [.int .i64 0, .str [], .int .i64 0, .int .i64 0] [(0, 1, (.int .i64 0)), (1, 1, x18)] fun v10 => storeNK h 4 x2 v10 fun h => optR (resV h [(x2, some (true, 4)), (x3, none)]) h K
noncomputable def p169_27001 (call : CallFn) (n : Nat) (x2 x3 x30 : AV) (h : AHeap) (K : Kont) : Bool :=
  buildK [.int .i64 0, .str [], .int .i64 0, .int .i64 0] [(0, 1, (.int .i64 1)), (1, 1, x30)] fun v17 => addK x3 (.int .i64 1) fun v18 => storeNK h 4 x2 v17 fun h => optR (resV h [(x2, some (true, 4)), (v18, none)]) h K
noncomputable def p169_39001 (call : CallFn) (n : Nat) (x2 x3 x42 : AV) (h : AHeap) (K : Kont) : Bool :=
  buildK [.int .i64 0, .str [], .int .i64 0, .int .i64 0] [(0, 1, (.int .i64 2)), (1, 1, x42)] fun v26 => storeNK h 4 x2 v26 fun h => optR (resV h [(x2, some (true, 4)), (x3, none)]) h K
noncomputable def p169_45001 (call : CallFn) (n : Nat) (x2 x50 : AV) (h : AHeap) (K : Kont) : Bool :=
  extK 0 x50 fun v31 => extK 1 x50 fun v32 => buildK [.int .i64 0, .str [], .int .i64 0, .int .i64 0] [(0, 1, (.int .i64 3)), (1, 1, v31)] fun v33 => storeNK h 4 x2 v33 fun h => optR (resV h [(x2, some (true, 4)), (v32, none)]) h K
noncomputable def p169_53001 (call : CallFn) (n : Nat) (x2 x3 x60 : AV) (h : AHeap) (K : Kont) : Bool :=
  buildK [.int .i64 0, .str [], .int .i64 0, .int .i64 0] [(0, 1, (.int .i64 4)), (1, 1, x60)] fun v38 => storeNK h 4 x2 v38 fun h => optR (resV h [(x2, some (true, 4)), (x3, none)]) h K
noncomputable def s169 (call : CallFn) (n : Nat) (x0 : AV) (h : AHeap) (K : Kont) : Bool :=
  boxK h x0 fun v1 h => allocK h [.int .i64 0, .str [], .int .i64 0, .int .i64 0] 4 fun v2 h => optK (some (.fn (.func 202) [] [v1])) fun v3 => loadK h v1 fun v4 => call (.func 201) [v4, (.int .i64 0)] h <| pz K fun v5 h => call (.func 203) [v5] h <| pz K fun v6 h => condK v6 (loadK h v1 fun v7 => call (.func 204) [v7, (.int .i64 0)] h <| pz K fun v8 h => callV call v3 [(.int .i64 0), v8] h <| pz K fun v9 h => p169_15001 call n v2 v8 v9 h K) (eqlK v5 (.int .u8 36) fun v12 => condK v12 (loadK h v1 fun v13 => call (.func 204) [v13, (.int .i64 1)] h <| pz K fun v14 h => gtrK v14 (.int .i64 0) fun v15 => condK v15 (callV call v3 [(.int .i64 1), v14] h <| pz K fun v16 h => p169_27001 call n v2 v14 v16 h K) (loadGK h 4 v2 fun v20 => storeNK h 4 v2 v20 fun h => optR (resV h [(v2, some (true, 4)), ((.int .i64 0), none)]) h K)) (call (.func 205) [v5] h <| pz K fun v22 h => condK v22 (loadK h v1 fun v23 => call (.func 206) [v23, (.int .i64 0), (.fn (.func 205) [] [])] h <| pz K fun v24 h => callV call v3 [(.int .i64 0), v24] h <| pz K fun v25 h => p169_39001 call n v2 v24 v25 h K) (eqlK v5 (.int .u8 34) fun v28 => condK v28 (loadK h v1 fun v29 => call (.func 207) [v29] h <| pz K fun v30 h => p169_45001 call n v2 v30 h K) (loadK h v1 fun v35 => call (.func 208) [v35] h <| pz K fun v36 h => callV call v3 [(.int .i64 0), v36] h <| pz K fun v37 h => p169_53001 call n v2 v36 v37 h K))))

/-! ### 172 (*proctor/parse.parser).block -/
noncomputable def s172 (call : CallFn) (n : Nat) (x0 : AV) (h : AHeap) (K : Kont) : Bool :=
  call (.func 77) [x0, (.str [40])] h <| pz K fun v1 h => optPK (bsliceV h 1 1 [.str []] [(0, (.str [41]))]) fun v2 h => call (.func 173) [x0, v2] h <| pz K fun v3 h => call (.func 80) [x0, (.str [41])] h <| pz K fun v4 h => K v3 h

/-! ### 173 (*proctor/parse.parser).some -/
noncomputable def p173_4001 (call : CallFn) (n : Nat) (x0 x1 x7 : AV) (h : AHeap) (K : Kont) : Bool :=
  allocK h [.int .i64 0, .str [], .str [], .nilSlc, .nilSlc, .nilSlc, .nilSlc, .nilSlc, .int .i64 0, .str [], .int .i64 0, .bool false, .int .i64 0, .str [], .nilSlc, .nilSlc, .str [], .str [], .nilSlc] 19 fun v2 h => storeNK h 19 v2 x7 fun h => loadGK h 19 v2 fun v4 => optPK (bsliceV h 1 19 [.int .i64 0, .str [], .str [], .nilSlc, .nilSlc, .nilSlc, .nilSlc, .nilSlc, .int .i64 0, .str [], .int .i64 0, .bool false, .int .i64 0, .str [], .nilSlc, .nilSlc, .str [], .str [], .nilSlc] [(0, v4)]) fun v5 h => loadGK h 19 v2 <| sameK v4 <| call (.func 83) [x0, x1] h <| pz (goneQ [v5] K) fun v6 h => loadGK h 19 v2 <| sameK v4 <| appK h 19 328 v5 v6 fun v7 h => K v7 h
noncomputable def s173 (call : CallFn) (n : Nat) (x0 x1 : AV) (h : AHeap) (K : Kont) : Bool :=
  call (.func 127) [x0] h <| pz K fun v1 h => p173_4001 call n x0 x1 v1 h K

/-! ### 174 (*proctor/parse.parser).or -/
noncomputable def p174_25 (call : CallFn) (n : Nat) (x0 x2 x3 : AV) (h : AHeap) (K : Kont) : Bool :=
  call (.func 80) [x0, (.str [41])] h <| pz K fun v25 h => loadGK h 19 x3 fun v26 => storeNK h 19 x2 v26 fun h => optR (resV h [(x2, some (true, 19))]) h K
noncomputable def b174_14 (call : CallFn) (n : Nat) (B14 : F4) (x0 x2 x3 x4 : AV) (h : AHeap) (K : Kont) : Bool :=
  condK x4 (fadrK 7 x3 fun v16 => loadK h v16 fun v17 => optPK (bsliceV h 2 1 [.str []] [(0, (.str [111, 114])), (1, (.str [41]))]) fun v18 h => loadK h v16 <| sameK v17 <| call (.func 173) [x0, v18] h <| pz (goneQ [v18] K) fun v19 h => loadK h v16 <| sameK v17 <| optPK (bsliceV h 1 1 [.nilSlc] [(0, v19)]) fun v20 h => loadK h v16 <| sameK v17 <| appK h 1 24 v17 v20 fun v21 h => fadrK 7 x3 fun v22 => storeK h v22 v21 fun h => call (.func 23) [x0, (.str [111, 114])] h <| pz K fun v24 h => B14 x0 x2 x3 v24 h) (p174_25 call n x0 x2 x3 h K)
noncomputable def l174_14 (call : CallFn) (n : Nat) : Nat → AV → AV → AV → AV → AHeap → Kont → Bool :=
  @Nat.rec (fun _ => AV → AV → AV → AV → AHeap → Kont → Bool) (fun _ _ _ _ _ _ => false) (fun _ ih x0 x2 x3 x4 h K => b174_14 call n (fun x0 x2 x3 x4 h => ih x0 x2 x3 x4 h K) x0 x2 x3 x4 h K)
noncomputable def s174 (call : CallFn) (n : Nat) (x0 : AV) (h : AHeap) (K : Kont) : Bool :=
  allocK h [.int .i64 0, .str [], .str [], .nilSlc, .nilSlc, .nilSlc, .nilSlc, .nilSlc, .int .i64 0, .str [], .int .i64 0, .bool false, .int .i64 0, .str [], .nilSlc, .nilSlc, .str [], .str [], .nilSlc] 19 fun v1 h => buildK [.int .i64 0, .str [], .str [], .nilSlc, .nilSlc, .nilSlc, .nilSlc, .nilSlc, .int .i64 0, .str [], .int .i64 0, .bool false, .int .i64 0, .str [], .nilSlc, .nilSlc, .str [], .str [], .nilSlc] [(0, 1, (.int .i64 5))] fun v2 => allocK h [.int .i64 0, .str [], .str [], .nilSlc, .nilSlc, .nilSlc, .nilSlc, .nilSlc, .int .i64 0, .str [], .int .i64 0, .bool false, .int .i64 0, .str [], .nilSlc, .nilSlc, .str [], .str [], .nilSlc] 19 fun v3 h => storeNK h 19 v3 v2 fun h => call (.func 77) [x0, (.str [40])] h <| pz K fun v5 h => fadrK 7 v3 fun v6 => loadK h v6 fun v7 => optPK (bsliceV h 2 1 [.str []] [(0, (.str [111, 114])), (1, (.str [41]))]) fun v8 h => loadK h v6 <| sameK v7 <| call (.func 173) [x0, v8] h <| pz (goneQ [v8] K) fun v9 h => loadK h v6 <| sameK v7 <| optPK (bsliceV h 1 1 [.nilSlc] [(0, v9)]) fun v10 h => loadK h v6 <| sameK v7 <| appK h 1 24 v7 v10 fun v11 h => fadrK 7 v3 fun v12 => storeK h v12 v11 fun h => optPK (bsliceV h 1 1 [.str []] [(0, (.str [111, 114]))]) fun v14 h => call (.func 26) [x0, v14] h <| pz K fun v15 h => l174_14 call n n x0 v1 v3 (.bool true) h K

/-! ### 175 (*proctor/parse.parser).acc -/
noncomputable def p175_24001 (call : CallFn) (n : Nat) (x0 x2 x3 x30 : AV) (h : AHeap) (K : Kont) : Bool :=
  fadrK 5 x3 fun v21 => storeK h v21 x30 fun h => call (.func 80) [x0, (.str [41])] h <| pz K fun v23 h => loadGK h 19 x3 fun v24 => storeNK h 19 x2 v24 fun h => optR (resV h [(x2, some (true, 19))]) h K
noncomputable def p175_18001 (call : CallFn) (n : Nat) (x0 x2 x3 x21 : AV) (h : AHeap) (K : Kont) : Bool :=
  fadrK 8 x3 fun v14 => storeNK h 8 v14 x21 fun h => call (.func 80) [x0, (.str [41])] h <| pz K fun v16 h => optPK (bsliceV h 1 1 [.str []] [(0, (.str [111, 118, 101, 114]))]) fun v17 h => call (.func 26) [x0, v17] h <| pz K fun v18 h => optPK (bsliceV h 1 1 [.str []] [(0, (.str [41]))]) fun v19 h => call (.func 173) [x0, v19] h <| pz K fun v20 h => p175_24001 call n x0 x2 x3 v20 h K
noncomputable def p175_14 (call : CallFn) (n : Nat) (x0 x2 x3 : AV) (h : AHeap) (K : Kont) : Bool :=
  call (.func 77) [x0, (.str [40])] h <| pz K fun v12 h => call (.func 129) [x0] h <| pz K fun v13 h => p175_18001 call n x0 x2 x3 v13 h K
noncomputable def p175_14001 (call : CallFn) (n : Nat) (x0 x2 x3 x16 : AV) (h : AHeap) (K : Kont) : Bool :=
  fadrK 16 x3 fun v27 => storeK h v27 x16 fun h => p175_14 call n x0 x2 x3 h K
noncomputable def p175_6001 (call : CallFn) (n : Nat) (x0 x2 x7 : AV) (h : AHeap) (K : Kont) : Bool :=
  buildK [.int .i64 0, .str [], .str [], .nilSlc, .nilSlc, .nilSlc, .nilSlc, .nilSlc, .int .i64 0, .str [], .int .i64 0, .bool false, .int .i64 0, .str [], .nilSlc, .nilSlc, .str [], .str [], .nilSlc] [(0, 1, (.int .i64 7)), (1, 1, x7)] fun v4 => allocK h [.int .i64 0, .str [], .str [], .nilSlc, .nilSlc, .nilSlc, .nilSlc, .nilSlc, .int .i64 0, .str [], .int .i64 0, .bool false, .int .i64 0, .str [], .nilSlc, .nilSlc, .str [], .str [], .nilSlc] 19 fun v5 h => storeNK h 19 v5 v4 fun h => optPK (bsliceV h 1 1 [.str []] [(0, (.str [58]))]) fun v7 h => call (.func 26) [x0, v7] h <| pz K fun v8 h => call (.func 23) [x0, (.str [108, 105, 115, 116])] h <| pz K fun v9 h => condK v9 (fadrK 16 v5 fun v10 => storeK h v10 (.str [108, 105, 115, 116]) fun h => p175_14 call n x0 x2 v5 h K) (call (.func 76) [x0] h <| pz K fun v26 h => p175_14001 call n x0 x2 v5 v26 h K)
noncomputable def s175 (call : CallFn) (n : Nat) (x0 : AV) (h : AHeap) (K : Kont) : Bool :=
  allocK h [.int .i64 0, .str [], .str [], .nilSlc, .nilSlc, .nilSlc, .nilSlc, .nilSlc, .int .i64 0, .str [], .int .i64 0, .bool false, .int .i64 0, .str [], .nilSlc, .nilSlc, .str [], .str [], .nilSlc] 19 fun v1 h => call (.func 77) [x0, (.str [40])] h <| pz K fun v2 h => call (.func 87) [x0] h <| pz K fun v3 h => p175_6001 call n x0 v1 v3 h K

/-! ### 176 (*proctor/parse.parser).ask -/
noncomputable def p176_4001 (call : CallFn) (n : Nat) (x1 x2 x5 : AV) (h : AHeap) (K : Kont) : Bool :=
  buildK [.int .i64 0, .str [], .str [], .nilSlc, .nilSlc, .nilSlc, .nilSlc, .nilSlc, .int .i64 0, .str [], .int .i64 0, .bool false, .int .i64 0, .str [], .nilSlc, .nilSlc, .str [], .str [], .nilSlc] [(0, 1, (.int .i64 9)), (17, 1, x5)] fun v5 => allocK h [.int .i64 0, .str [], .str [], .nilSlc, .nilSlc, .nilSlc, .nilSlc, .nilSlc, .int .i64 0, .str [], .int .i64 0, .bool false, .int .i64 0, .str [], .nilSlc, .nilSlc, .str [], .str [], .nilSlc] 19 fun v6 h => storeNK h 19 v6 v5 fun h => loadK h x1 fun v8 => call (.func 77) [v8, (.str [40])] h <| pz K fun v9 h => loadK h x1 fun v10 => optK (some (.fn (.func 214) [] [x1, v6])) fun v11 => call (.func 85) [v10, (.str [41]), v11] h <| pz K fun v12 h => loadGK h 19 v6 fun v13 => storeNK h 19 x2 v13 fun h => optR (resV h [(x2, some (true, 19))]) h K
noncomputable def s176 (call : CallFn) (n : Nat) (x0 : AV) (h : AHeap) (K : Kont) : Bool :=
  boxK h x0 fun v1 h => allocK h [.int .i64 0, .str [], .str [], .nilSlc, .nilSlc, .nilSlc, .nilSlc, .nilSlc, .int .i64 0, .str [], .int .i64 0, .bool false, .int .i64 0, .str [], .nilSlc, .nilSlc, .str [], .str [], .nilSlc] 19 fun v2 h => loadK h v1 fun v3 => call (.func 76) [v3] h <| pz K fun v4 h => p176_4001 call n v1 v2 v4 h K

/-! ### 177 (*proctor/parse.parser).pattern -/
noncomputable def p177_14001 (call : CallFn) (n : Nat) (x1 x2 x3 x14 : AV) (h : AHeap) (K : Kont) : Bool :=
  fadrK 2 x3 fun v17 => storeK h v17 x14 fun h => loadK h x1 fun v19 => call (.func 77) [v19, (.str [40])] h <| pz K fun v20 h => loadK h x1 fun v21 => optK (some (.fn (.func 215) [] [x1, x3])) fun v22 => call (.func 85) [v21, (.str [41]), v22] h <| pz K fun v23 h => loadGK h 19 x3 fun v24 => storeNK h 19 x2 v24 fun h => optR (resV h [(x2, some (true, 19))]) h K
noncomputable def p177_12 (call : CallFn) (n : Nat) (x1 x2 x3 : AV) (h : AHeap) (K : Kont) : Bool :=
  loadK h x1 fun v15 => call (.func 76) [v15] h <| pz K fun v16 h => p177_14001 call n x1 x2 x3 v16 h K
noncomputable def p177_10001 (call : CallFn) (n : Nat) (x1 x2 x3 x8 : AV) (h : AHeap) (K : Kont) : Bool :=
  fadrK 1 x3 fun v10 => storeK h v10 x8 fun h => loadK h x1 fun v12 => optPK (bsliceV h 1 1 [.str []] [(0, (.str [58]))]) fun v13 h => call (.func 26) [v12, v13] h <| pz K fun v14 h => p177_12 call n x1 x2 x3 h K
noncomputable def s177 (call : CallFn) (n : Nat) (x0 : AV) (h : AHeap) (K : Kont) : Bool :=
  boxK h x0 fun v1 h => allocK h [.int .i64 0, .str [], .str [], .nilSlc, .nilSlc, .nilSlc, .nilSlc, .nilSlc, .int .i64 0, .str [], .int .i64 0, .bool false, .int .i64 0, .str [], .nilSlc, .nilSlc, .str [], .str [], .nilSlc] 19 fun v2 h => buildK [.int .i64 0, .str [], .str [], .nilSlc, .nilSlc, .nilSlc, .nilSlc, .nilSlc, .int .i64 0, .str [], .int .i64 0, .bool false, .int .i64 0, .str [], .nilSlc, .nilSlc, .str [], .str [], .nilSlc] [(0, 1, (.int .i64 1))] fun v3 => allocK h [.int .i64 0, .str [], .str [], .nilSlc, .nilSlc, .nilSlc, .nilSlc, .nilSlc, .int .i64 0, .str [], .int .i64 0, .bool false, .int .i64 0, .str [], .nilSlc, .nilSlc, .str [], .str [], .nilSlc] 19 fun v4 h => storeNK h 19 v4 v3 fun h => loadK h v1 fun v6 => call (.func 125) [v6, (.int .i64 1)] h <| pz K fun v7 h => condK v7 (loadK h v1 fun v8 => call (.func 87) [v8] h <| pz K fun v9 h => p177_10001 call n v1 v2 v4 v9 h K) (p177_12 call n v1 v2 v4 h K)

/-! ### 178 (*proctor/parse.parser).sets$1 -/
noncomputable def p178_6001 (call : CallFn) (n : Nat) (x1 x2 x10 : AV) (h : AHeap) (K : Kont) : Bool :=
  fadrK 1 x2 fun v11 => storeNK h 8 v11 x10 fun h => loadK h x1 fun v13 => loadGK h 9 x2 fun v14 => optPK (bsliceV h 1 9 [.str [], .int .i64 0, .str [], .int .i64 0, .bool false, .int .i64 0, .str [], .nilSlc, .nilSlc] [(0, v14)]) fun v15 h => appK h 9 128 v13 v15 fun v16 h => storeK h x1 v16 fun h => K (.tup []) h
noncomputable def p178_2001 (call : CallFn) (n : Nat) (x0 x1 x4 : AV) (h : AHeap) (K : Kont) : Bool :=
  buildK [.str [], .int .i64 0, .str [], .int .i64 0, .bool false, .int .i64 0, .str [], .nilSlc, .nilSlc] [(0, 1, x4)] fun v3 => allocK h [.str [], .int .i64 0, .str [], .int .i64 0, .bool false, .int .i64 0, .str [], .nilSlc, .nilSlc] 9 fun v4 h => storeNK h 9 v4 v3 fun h => loadK h x0 fun v6 => optPK (bsliceV h 1 1 [.str []] [(0, (.str [61]))]) fun v7 h => call (.func 26) [v6, v7] h <| pz K fun v8 h => loadK h x0 fun v9 => call (.func 129) [v9] h <| pz K fun v10 h => p178_6001 call n x1 v4 v10 h K
noncomputable def s178 (call : CallFn) (n : Nat) (x0 x1 : AV) (h : AHeap) (K : Kont) : Bool :=
  loadK h x0 fun v1 => call (.func 76) [v1] h <| pz K fun v2 h => p178_2001 call n x0 x1 v2 h K

/-! ### 179 (*proctor/parse.parser).level -/
noncomputable def p179_8001 (call : CallFn) (n : Nat) (x4 x13 : AV) (h : AHeap) (K : Kont) : Bool :=
  storeNK h 9 x4 x13 fun h => optR (resV h [(x4, some (true, 9))]) h K
set_option maxRecDepth 100000 in
noncomputable def p179_17002 (call : CallFn) (n : Nat) (B13 : F4) (x0 x1 x4 x5 x19 x21 : AV) (h : AHeap) (K : Kont) : Bool :=
  allocK h [.int .i64 0, .str [], .int .i64 0, .int .i64 0] 4 fun v11 h => storeNK h 4 v11 x21 fun h => nilckK x0 fun v13 => fadrK 4 v13 fun v14 => loadK h v14 fun v15 => optK (lookA h (.leaf .int) false .nilMap v15 x1) fun v16 => fadrK 1 v11 fun v17 => loadK h v17 fun v18 => optK (lookA h (.leaf .str) true (.int .i64 0) v16 v18) fun v19 => extK 0 v19 fun v20 => extK 1 v19 fun v21 => notK v21 fun v22 => gK v22 false (fadrK 0 v11) fun v23 => gK v22 false (loadK h v23) fun v24 => gK v22 false (neqK v24 (.int .i64 4)) fun v25 => pickK v22 (.bool true) v25 fun v26 => condK v26 (loadGK h 9 x5 fun v27 => storeNK h 9 x4 v27 fun h => optR (resV h [(x4, some (true, 9))]) h K) (nilckK x0 fun v29 => fadrK 1 v29 fun v30 => loadK h v30 fun v31 => addK v31 (.int .i64 1) fun v32 => nilckK x0 fun v33 => fadrK 1 v33 fun v34 => storeK h v34 v32 fun h => buildK [.int .i64 0, .str [], .int .i64 0, .bool false, .int .i64 0, .str [], .nilSlc, .nilSlc] [(0, 1, v20)] fun v36 => loadGK h 9 x5 fun v37 => addK x1 (.int .i64 1) fun v38 => call (.func 179) [x0, v38] h <| pz K fun v39 h => loadGK h 9 x5 <| sameK v37 <| optPK (bsliceV h 2 9 [.int .i64 0, .str [], .int .i64 0, .bool false, .int .i64 0, .str [], .nilSlc, .nilSlc, .int .i64 0] [(0, v37), (1, v39)]) fun v40 h => loadGK h 9 x5 <| sameK v37 <| call (.func 217) [x19, v36, v40] h <| pz (goneQ [v40] K) fun v41 h => storeNK h 9 x5 v41 fun h => eqlK x1 (.int .i64 2) fun v43 => condK v43 (loadGK h 9 x5 fun v44 => storeNK h 9 x4 v44 fun h => optR (resV h [(x4, some (true, 9))]) h K) (B13 x0 x1 x4 x5 h))
noncomputable def p179_17001 (call : CallFn) (n : Nat) (B13 : F4) (x0 x1 x4 x5 x19 : AV) (h : AHeap) (K : Kont) : Bool :=
  call (.func 121) [x0, (.int .i64 0)] h <| pz K fun v10 h => p179_17002 call n B13 x0 x1 x4 x5 x19 v10 h K
noncomputable def b179_13 (call : CallFn) (n : Nat) (B13 : F4) (x0 x1 x4 x5 : AV) (h : AHeap) (K : Kont) : Bool :=
  call (.func 120) [x0] h <| pz K fun v9 h => p179_17001 call n B13 x0 x1 x4 x5 v9 h K
noncomputable def l179_13 (call : CallFn) (n : Nat) : Nat → AV → AV → AV → AV → AHeap → Kont → Bool :=
  @Nat.rec (fun _ => AV → AV → AV → AV → AHeap → Kont → Bool) (fun _ _ _ _ _ _ => false) (fun _ ih x0 x1 x4 x5 h K => b179_13 call n (fun x0 x1 x4 x5 h => ih x0 x1 x4 x5 h K) x0 x1 x4 x5 h K)
noncomputable def p179_12001 (call : CallFn) (n : Nat) (x0 x1 x4 x17 : AV) (h : AHeap) (K : Kont) : Bool :=
  allocK h [.int .i64 0, .str [], .int .i64 0, .bool false, .int .i64 0, .str [], .nilSlc, .nilSlc, .int .i64 0] 9 fun v7 h => storeNK h 9 v7 x17 fun h => l179_13 call n n x0 x1 x4 v7 h K
noncomputable def p179_10 (call : CallFn) (n : Nat) (x0 x1 x4 : AV) (h : AHeap) (K : Kont) : Bool :=
  addK x1 (.int .i64 1) fun v5 => call (.func 179) [x0, v5] h <| pz K fun v6 h => p179_12001 call n x0 x1 x4 v6 h K
noncomputable def s179 (call : CallFn) (n : Nat) (x0 x1 : AV) (h : AHeap) (K : Kont) : Bool :=
  allocK h [.int .i64 0, .str [], .int .i64 0, .bool false, .int .i64 0, .str [], .nilSlc, .nilSlc, .int .i64 0] 9 fun v1 h => eqlK x1 (.int .i64 5) fun v2 => condK v2 (call (.func 216) [x0] h <| pz K fun v3 h => p179_8001 call n v1 v3 h K) (p179_10 call n x0 x1 v1 h K)

/-! ### 180 (*strings.Builder).WriteByte -/
noncomputable def s180 (call : CallFn) (n : Nat) (x0 x1 : AV) (h : AHeap) (K : Kont) : Bool :=
  call (.func 218) [x0] h <| pz K fun v1 h => nilckK x0 fun v2 => fadrK 1 v2 fun v3 => loadK h v3 fun v4 => optPK (bsliceV h 1 1 [.int .u8 0] [(0, x1)]) fun v5 h => optPK (appbA h 5 v4 v5) fun v6 h => nilckK x0 fun v7 => fadrK 1 v7 fun v8 => storeK h v8 v6 fun h => K .nilIf h

/-! ### 181 strings.IndexByte -/
noncomputable def s181 (call : CallFn) (n : Nat) (x0 x1 : AV) (h : AHeap) (K : Kont) : Bool :=
  call (.func 219) [x0, x1] h <| pz K fun v1 h => K v1 h

/-! ### 182 (*strings.Builder).String -/
noncomputable def s182 (call : CallFn) (n : Nat) (x0 : AV) (h : AHeap) (K : Kont) : Bool :=
  nilckK x0 fun v1 => fadrK 1 v1 fun v2 => loadK h v2 fun v3 => optK (sdatA v3) fun v4 => nilckK x0 fun v5 => fadrK 1 v5 fun v6 => loadK h v6 fun v7 => lenK v7 fun v8 => optPK (ustrA h 5 v4 v8) fun v9 h => K v9 h

/-! ### 183 internal/strconv.FormatInt -/
noncomputable def p183_24 (call : CallFn) (n : Nat) (x6 : AV) (h : AHeap) (K : Kont) : Bool :=
  call (.func 221) [x6] h <| pz K fun v11 h => addK (.int .i64 1) v11 fun v12 => false
noncomputable def p183_44001 (call : CallFn) (n : Nat) (x50 : AV) (h : AHeap) (K : Kont) : Bool :=
  extK 0 x50 fun v16 => extK 1 x50 fun v17 => K v17 h
noncomputable def s183 (call : CallFn) (n : Nat) (x0 x1 : AV) (h : AHeap) (K : Kont) : Bool :=
  eqlK x1 (.int .i64 10) fun v1 => condK v1 (leqK (.int .i64 0) x0 fun v2 => gK v2 true (optK (some x0)) fun v3 => gK v2 true (lssK v3 (.int .i64 100)) fun v4 => pickK v2 v4 (.bool false) fun v5 => condK v5 (call (.func 220) [x0] h <| pz K fun v6 h => K v6 h) (allocK h [.int .u8 0, .int .u8 0, .int .u8 0, .int .u8 0, .int .u8 0, .int .u8 0, .int .u8 0, .int .u8 0, .int .u8 0, .int .u8 0, .int .u8 0, .int .u8 0, .int .u8 0, .int .u8 0, .int .u8 0, .int .u8 0, .int .u8 0, .int .u8 0, .int .u8 0, .int .u8 0, .int .u8 0, .int .u8 0, .int .u8 0, .int .u8 0] 24 fun v7 h => optK (convA .u64 x0) fun v8 => lssK x0 (.int .i64 0) fun v9 => condK v9 (optK (negA v8) fun v10 => p183_24 call n v10 h K) (p183_24 call n v8 h K))) (optK (convA .u64 x0) fun v13 => lssK x0 (.int .i64 0) fun v14 => call (.func 223) [.nilSlc, v13, x1, v14, (.bool false)] h <| pz K fun v15 h => p183_44001 call n v15 h K)

/-! ### 184 (*proctor/print.writer).cond -/
noncomputable def p184_100 (call : CallFn) (n : Nat) (x2 : AV) (h : AHeap) (K : Kont) : Bool :=
  loadK h x2 fun v11 => nilckK v11 fun v12 => fadrK 2 v12 fun v13 => loadK h v13 fun v14 => subK v14 (.int .i64 1) fun v15 => nilckK v11 fun v16 => fadrK 2 v16 fun v17 => storeK h v17 v15 fun h => K (.tup []) h
noncomputable def p184_62 (call : CallFn) (n : Nat) (B45 : F4) (x2 x5 x60 x61 x62 : AV) (h : AHeap) (K : Kont) : Bool :=
  loadK h x2 fun v67 => call (.func 134) [v67, x5] h <| pz K fun v68 h => addK x62 (.int .i64 1) fun v69 => B45 x2 x60 x61 v69 h
noncomputable def p184_64 (call : CallFn) (n : Nat) (x2 : AV) (h : AHeap) (K : Kont) : Bool :=
  loadK h x2 fun v70 => optPK (bsliceV h 1 1 [.str []] [(0, (.str [41]))]) fun v71 h => call (.func 130) [v70, v71] h <| pz K fun v72 h => p184_100 call n x2 h K
noncomputable def b184_45 (call : CallFn) (n : Nat) (B45 : F4) (x2 x60 x61 x62 : AV) (h : AHeap) (K : Kont) : Bool :=
  lssK x62 x61 fun v60 => condK v60 (iadrK h 1 x60 x62 fun v61 => loadK h v61 fun v62 => gtrK x62 (.int .i64 0) fun v63 => condK v63 (loadK h x2 fun v64 => optPK (bsliceV h 1 1 [.str []] [(0, (.str [111, 114]))]) fun v65 h => call (.func 130) [v64, v65] h <| pz K fun v66 h => p184_62 call n B45 x2 v62 x60 x61 x62 h K) (p184_62 call n B45 x2 v62 x60 x61 x62 h K)) (p184_64 call n x2 h K)
noncomputable def l184_45 (call : CallFn) (n : Nat) : Nat → AV → AV → AV → AV → AHeap → Kont → Bool :=
  @Nat.rec (fun _ => AV → AV → AV → AV → AHeap → Kont → Bool) (fun _ _ _ _ _ _ => false) (fun _ ih x2 x60 x61 x62 h K => b184_45 call n (fun x2 x60 x61 x62 h => ih x2 x60 x61 x62 h K) x2 x60 x61 x62 h K)
set_option maxRecDepth 100000 in
noncomputable def p184_18 (call : CallFn) (n : Nat) (x2 x3 x9 x17 : AV) (h : AHeap) (K : Kont) : Bool :=
  condK x17 (loadK h x2 fun v20 => fadrK 0 x3 fun v21 => loadK h v21 fun v22 => optPK (bsliceV h 4 1 [.str []] [(2, (.str [110, 111, 116])), (3, (.str [101, 120, 105, 115, 116, 115]))]) fun v23 h => loadK h x2 <| sameK v20 <| loadK h v21 <| sameK v22 <| iadrK h 1 v23 v22 fun v24 => loadK h v24 fun v25 => optPK (bsliceV h 2 1 [.str []] [(0, v25), (1, (.str [40]))]) fun v26 h => loadK h x2 <| sameK v20 <| loadK h v21 <| sameK v22 <| iadrK h 1 v23 v22 <| sameK v24 <| loadK h v24 <| sameK v25 <| call (.func 130) [v20, v26] h <| pz (goneQ [v26, v23] K) fun v27 h => loadK h x2 fun v28 => fadrK 5 x3 fun v29 => loadK h v29 fun v30 => call (.func 134) [v28, v30] h <| pz K fun v31 h => loadK h x2 fun v32 => optPK (bsliceV h 1 1 [.str []] [(0, (.str [41]))]) fun v33 h => call (.func 130) [v32, v33] h <| pz K fun v34 h => p184_100 call n x2 h K) (eqlK x9 (.int .i64 4) fun v35 => condK v35 (loadK h x2 fun v36 => optPK (bsliceV h 2 1 [.str []] [(0, (.str [102, 111, 114, 97, 108, 108])), (1, (.str [40]))]) fun v37 h => call (.func 130) [v36, v37] h <| pz K fun v38 h => loadK h x2 fun v39 => fadrK 5 x3 fun v40 => loadK h v40 fun v41 => call (.func 134) [v39, v41] h <| pz K fun v42 h => loadK h x2 fun v43 => optPK (bsliceV h 1 1 [.str []] [(0, (.str [59]))]) fun v44 h => call (.func 130) [v43, v44] h <| pz K fun v45 h => loadK h x2 fun v46 => fadrK 6 x3 fun v47 => loadK h v47 fun v48 => call (.func 134) [v46, v48] h <| pz K fun v49 h => loadK h x2 fun v50 => optPK (bsliceV h 1 1 [.str []] [(0, (.str [41]))]) fun v51 h => call (.func 130) [v50, v51] h <| pz K fun v52 h => p184_100 call n x2 h K) (eqlK x9 (.int .i64 5) fun v53 => condK v53 (loadK h x2 fun v54 => optPK (bsliceV h 1 1 [.str []] [(0, (.str [40]))]) fun v55 h => call (.func 130) [v54, v55] h <| pz K fun v56 h => fadrK 7 x3 fun v57 => loadK h v57 fun v58 => lenK v58 fun v59 => l184_45 call n n x2 v58 v59 (.int .i64 0) h K) (eqlK x9 (.int .i64 6) fun v73 => condK v73 (loadK h x2 fun v74 => fadrK 1 x3 fun v75 => loadK h v75 fun v76 => addK (.str [36]) v76 fun v77 => optPK (bsliceV h 2 1 [.str []] [(0, v77), (1, (.str [102, 114, 111, 109]))]) fun v78 h => call (.func 130) [v74, v78] h <| pz K fun v79 h => loadK h x2 fun v80 => fadrK 8 x3 fun v81 => loadGK h 8 v81 fun v82 => call (.func 186) [v80, v82, (.int .i64 0)] h <| pz K fun v83 h => p184_100 call n x2 h K) (eqlK x9 (.int .i64 7) fun v84 => condK v84 (loadK h x2 fun v85 => fadrK 1 x3 fun v86 => loadK h v86 fun v87 => addK (.str [36]) v87 fun v88 => fadrK 16 x3 fun v89 => loadK h v89 fun v90 => optPK (bsliceV h 6 1 [.str []] [(0, (.str [97, 99, 99])), (1, (.str [40])), (2, v88), (3, (.str [58])), (4, v90), (5, (.str [40]))]) fun v91 h => call (.func 130) [v85, v91] h <| pz K fun v92 h => loadK h x2 fun v93 => fadrK 8 x3 fun v94 => loadGK h 8 v94 fun v95 => call (.func 186) [v93, v95, (.int .i64 0)] h <| pz K fun v96 h => loadK h x2 fun v97 => optPK (bsliceV h 2 1 [.str []] [(0, (.str [41])), (1, (.str [111, 118, 101, 114]))]) fun v98 h => call (.func 130) [v97, v98] h <| pz K fun v99 h => loadK h x2 fun v100 => fadrK 5 x3 fun v101 => loadK h v101 fun v102 => call (.func 134) [v100, v102] h <| pz K fun v103 h => loadK h x2 fun v104 => optPK (bsliceV h 1 1 [.str []] [(0, (.str [41]))]) fun v105 h => call (.func 130) [v104, v105] h <| pz K fun v106 h => p184_100 call n x2 h K) (eqlK x9 (.int .i64 8) fun v107 => condK v107 (loadK h x2 fun v108 => optPK (bsliceV h 2 1 [.str []] [(0, (.str [101, 118, 97, 108])), (1, (.str [40]))]) fun v109 h => call (.func 130) [v108, v109] h <| pz K fun v110 h => loadK h x2 fun v111 => fadrK 8 x3 fun v112 => loadGK h 8 v112 fun v113 => call (.func 186) [v111, v113, (.int .i64 0)] h <| pz K fun v114 h => loadK h x2 fun v115 => optPK (bsliceV h 1 1 [.str []] [(0, (.str [41]))]) fun v116 h => call (.func 130) [v115, v116] h <| pz K fun v117 h => p184_100 call n x2 h K) (eqlK x9 (.int .i64 9) fun v118 => condK v118 (loadK h x2 fun v119 => fadrK 17 x3 fun v120 => loadK h v120 fun v121 => optPK (bsliceV h 3 1 [.str []] [(0, (.str [63])), (1, v121), (2, (.str [40]))]) fun v122 h => call (.func 130) [v119, v122] h <| pz K fun v123 h => loadK h x2 fun v124 => fadrK 18 x3 fun v125 => loadK h v125 fun v126 => optK (some (.fn (.func 227) [] [x2])) fun v127 => call (.func 226) [v124, v126, v127] h <| pz K fun v128 h => loadK h x2 fun v129 => optPK (bsliceV h 1 1 [.str []] [(0, (.str [41]))]) fun v130 h => call (.func 130) [v129, v130] h <| pz K fun v131 h => p184_100 call n x2 h K) (buildK [] [] fun v132 => optK (mkifA 136 v132) fun v133 => pncK K v133 h)))))))
noncomputable def s184 (call : CallFn) (n : Nat) (x0 x1 : AV) (h : AHeap) (K : Kont) : Bool :=
  boxK h x0 fun v1 h => optPK (boxA h (none) 19 x1) fun v2 h => loadK h v1 fun v3 => call (.func 224) [v3] h <| pz K fun v4 h => fadrK 0 v2 fun v5 => loadK h v5 fun v6 => eqlK v6 (.int .i64 1) fun v7 => condK v7 (loadK h v1 fun v8 => loadGK h 19 v2 fun v9 => call (.func 225) [v8, v9] h <| pz K fun v10 h => p184_100 call n v1 h K) (eqlK v6 (.int .i64 2) fun v19 => condK v19 (p184_18 call n v1 v2 v6 v19 h K) (eqlK v6 (.int .i64 3) fun v135 => p184_18 call n v1 v2 v6 v135 h K))

/-! ### 185 (*proctor/print.writer).sets -/
noncomputable def s185 (call : CallFn) (n : Nat) (x0 x1 : AV) (h : AHeap) (K : Kont) : Bool :=
  boxK h x0 fun v1 h => loadK h v1 fun v2 => optPK (bsliceV h 1 1 [.str []] [(0, (.str [123]))]) fun v3 h => call (.func 130) [v2, v3] h <| pz K fun v4 h => loadK h v1 fun v5 => optK (some (.fn (.func 229) [] [v1])) fun v6 => call (.func 228) [v5, x1, v6] h <| pz K fun v7 h => loadK h v1 fun v8 => optPK (bsliceV h 1 1 [.str []] [(0, (.str [125]))]) fun v9 h => call (.func 130) [v8, v9] h <| pz K fun v10 h => K (.tup []) h

/-! ### 186 (*proctor/print.writer).expr -/
noncomputable def p186_51 (call : CallFn) (n : Nat) (x0 : AV) (h : AHeap) (K : Kont) : Bool :=
  nilckK x0 fun v15 => fadrK 2 v15 fun v16 => loadK h v16 fun v17 => subK v17 (.int .i64 1) fun v18 => nilckK x0 fun v19 => fadrK 2 v19 fun v20 => storeK h v20 v18 fun h => K (.tup []) h
noncomputable def p186_46 (call : CallFn) (n : Nat) (x0 x4 x6 x7 x8 : AV) (h : AHeap) (K : Kont) : Bool :=
  fadrK 7 x4 fun v59 => loadK h v59 fun v60 => iadrK h 8 v60 (.int .i64 0) fun v61 => loadGK h 8 v61 fun v62 => call (.func 186) [x0, v62, x8] h <| pz K fun v63 h => optPK (bsliceV h 1 1 [.str []] [(0, x7)]) fun v64 h => call (.func 130) [x0, v64] h <| pz K fun v65 h => fadrK 7 x4 fun v66 => loadK h v66 fun v67 => iadrK h 8 v67 (.int .i64 1) fun v68 => loadGK h 8 v68 fun v69 => addK x6 (.int .i64 1) fun v70 => call (.func 186) [x0, v69, v70] h <| pz K fun v71 h => p186_51 call n x0 h K
set_option maxRecDepth 100000 in
noncomputable def p186_6001 (call : CallFn) (n : Nat) (x0 x2 x4 x14 : AV) (h : AHeap) (K : Kont) : Bool :=
  extK 0 x14 fun v6 => extK 1 x14 fun v7 => lssK v6 x2 fun v8 => condK v8 (optPK (bsliceV h 1 1 [.str []] [(0, (.str [40]))]) fun v9 h => call (.func 130) [x0, v9] h <| pz K fun v10 h => loadGK h 8 x4 fun v11 => call (.func 186) [x0, v11, (.int .i64 0)] h <| pz K fun v12 h => optPK (bsliceV h 1 1 [.str []] [(0, (.str [41]))]) fun v13 h => call (.func 130) [x0, v13] h <| pz K fun v14 h => p186_51 call n x0 h K) (eqlK v6 (.int .i64 7) fun v22 => condK v22 (loadGK h 8 x4 fun v23 => call (.func 231) [x0, v23] h <| pz K fun v24 h => p186_51 call n x0 h K) (eqlK v6 (.int .i64 6) fun v25 => condK v25 (fadrK 7 x4 fun v26 => loadK h v26 fun v27 => lenK v27 fun v28 => eqlK v28 (.int .i64 1) fun v29 => call (.func 132) [v29] h <| pz K fun v30 h => fadrK 7 x4 fun v31 => loadK h v31 fun v32 => iadrK h 8 v32 (.int .i64 0) fun v33 => loadGK h 8 v33 fun v34 => call (.func 186) [x0, v34, (.int .i64 6)] h <| pz K fun v35 h => fadrK 1 x4 fun v36 => loadK h v36 fun v37 => optPK (bsliceV h 2 1 [.str []] [(0, v7), (1, v37)]) fun v38 h => call (.func 130) [x0, v38] h <| pz K fun v39 h => p186_51 call n x0 h K) (eqlK v6 (.int .i64 5) fun v40 => condK v40 (fadrK 7 x4 fun v41 => loadK h v41 fun v42 => lenK v42 fun v43 => eqlK v43 (.int .i64 1) fun v44 => call (.func 132) [v44] h <| pz K fun v45 h => optPK (bsliceV h 1 1 [.str []] [(0, v7)]) fun v46 h => call (.func 130) [x0, v46] h <| pz K fun v47 h => fadrK 7 x4 fun v48 => loadK h v48 fun v49 => iadrK h 8 v49 (.int .i64 0) fun v50 => loadGK h 8 v50 fun v51 => call (.func 186) [x0, v51, (.int .i64 5)] h <| pz K fun v52 h => p186_51 call n x0 h K) (fadrK 7 x4 fun v53 => loadK h v53 fun v54 => lenK v54 fun v55 => eqlK v55 (.int .i64 2) fun v56 => call (.func 132) [v56] h <| pz K fun v57 h => eqlK v6 (.int .i64 2) fun v58 => condK v58 (p186_46 call n x0 x4 v6 v7 (.int .i64 3) h K) (p186_46 call n x0 x4 v6 v7 v6 h K)))))
noncomputable def s186 (call : CallFn) (n : Nat) (x0 x1 x2 : AV) (h : AHeap) (K : Kont) : Bool :=
  optPK (boxA h (none) 8 x1) fun v1 h => call (.func 224) [x0] h <| pz K fun v2 h => fadrK 0 v1 fun v3 => loadK h v3 fun v4 => call (.func 230) [v4] h <| pz K fun v5 h => p186_6001 call n x0 x2 v1 v5 h K

/-! ### 187 slices.EqualFunc[[]proctor/api.Cond,[]proctor/api.Cond,proctor/api.Cond,proctor/api.Cond] -/
noncomputable def p187_29001 (call : CallFn) (n : Nat) (B14 : F5) (x1 x2 x15 x16 x17 x29 : AV) (h : AHeap) (K : Kont) : Bool :=
  notK x29 fun v17 => condK v17 (K (.bool false) h) (addK x17 (.int .i64 1) fun v18 => B14 x1 x2 x15 x16 v18 h)
noncomputable def b187_14 (call : CallFn) (n : Nat) (B14 : F5) (x1 x2 x15 x16 x17 : AV) (h : AHeap) (K : Kont) : Bool :=
  lssK x17 x16 fun v5 => condK v5 (iadrK h 19 x15 x17 fun v6 => loadGK h 19 v6 fun v7 => allocK h [.int .i64 0, .str [], .str [], .nilSlc, .nilSlc, .nilSlc, .nilSlc, .nilSlc, .int .i64 0, .str [], .int .i64 0, .bool false, .int .i64 0, .str [], .nilSlc, .nilSlc, .str [], .str [], .nilSlc] 19 fun v8 h => storeNK h 19 v8 v7 fun h => iadrK h 19 x1 x17 fun v10 => loadGK h 19 v10 fun v11 => allocK h [.int .i64 0, .str [], .str [], .nilSlc, .nilSlc, .nilSlc, .nilSlc, .nilSlc, .int .i64 0, .str [], .int .i64 0, .bool false, .int .i64 0, .str [], .nilSlc, .nilSlc, .str [], .str [], .nilSlc] 19 fun v12 h => storeNK h 19 v12 v11 fun h => loadGK h 19 v8 fun v14 => loadGK h 19 v12 fun v15 => callV call x2 [v14, v15] h <| pz K fun v16 h => p187_29001 call n B14 x1 x2 x15 x16 x17 v16 h K) (K (.bool true) h)
noncomputable def l187_14 (call : CallFn) (n : Nat) : Nat → AV → AV → AV → AV → AV → AHeap → Kont → Bool :=
  @Nat.rec (fun _ => AV → AV → AV → AV → AV → AHeap → Kont → Bool) (fun _ _ _ _ _ _ _ => false) (fun _ ih x1 x2 x15 x16 x17 h K => b187_14 call n (fun x1 x2 x15 x16 x17 h => ih x1 x2 x15 x16 x17 h K) x1 x2 x15 x16 x17 h K)
noncomputable def p187_10 (call : CallFn) (n : Nat) (x0 x1 x2 : AV) (h : AHeap) (K : Kont) : Bool :=
  lenK x0 fun v4 => l187_14 call n n x1 x2 x0 v4 (.int .i64 0) h K
noncomputable def s187 (call : CallFn) (n : Nat) (x0 x1 x2 : AV) (h : AHeap) (K : Kont) : Bool :=
  lenK x0 fun v1 => lenK x1 fun v2 => neqK v1 v2 fun v3 => condK v3 (K (.bool false) h) (p187_10 call n x0 x1 x2 h K)

/-! ### 188 proctor/print.sameCond -/
noncomputable def p188_4007 (call : CallFn) (n : Nat) (x80 x85 : AV) (h : AHeap) (K : Kont) : Bool :=
  pickK x80 x85 (.bool false) fun v73 => K v73 h
noncomputable def p188_4006 (call : CallFn) (n : Nat) (x2 x3 x73 x78 : AV) (h : AHeap) (K : Kont) : Bool :=
  pickK x73 x78 (.bool false) fun v67 => gK v67 true (fadrK 18 x2) fun v68 => gK v67 true (loadK h v68) fun v69 => gK v67 true (fadrK 18 x3) fun v70 => gK v67 true (loadK h v70) fun v71 => gP v67 true (fun k => call (.func 235) [v69, v71, (.fn (.func 236) [] [])] h (pz K k)) h fun v72 h => p188_4007 call n v67 v72 h K
noncomputable def p188_4005 (call : CallFn) (n : Nat) (x2 x3 x66 x71 : AV) (h : AHeap) (K : Kont) : Bool :=
  pickK x66 x71 (.bool false) fun v61 => gK v61 true (fadrK 8 x2) fun v62 => gK v61 true (loadGK h 8 v62) fun v63 => gK v61 true (fadrK 8 x3) fun v64 => gK v61 true (loadGK h 8 v64) fun v65 => gP v61 true (fun k => call (.func 191) [v63, v65] h (pz K k)) h fun v66 h => p188_4006 call n x2 x3 v61 v66 h K
noncomputable def p188_4004 (call : CallFn) (n : Nat) (x2 x3 x59 x64 : AV) (h : AHeap) (K : Kont) : Bool :=
  pickK x59 x64 (.bool false) fun v55 => gK v55 true (fadrK 7 x2) fun v56 => gK v55 true (loadK h v56) fun v57 => gK v55 true (fadrK 7 x3) fun v58 => gK v55 true (loadK h v58) fun v59 => gP v55 true (fun k => call (.func 234) [v57, v59, (.fn (.func 139) [] [])] h (pz K k)) h fun v60 h => p188_4005 call n x2 x3 v55 v60 h K
noncomputable def p188_4003 (call : CallFn) (n : Nat) (x2 x3 x52 x57 : AV) (h : AHeap) (K : Kont) : Bool :=
  pickK x52 x57 (.bool false) fun v49 => gK v49 true (fadrK 6 x2) fun v50 => gK v49 true (loadK h v50) fun v51 => gK v49 true (fadrK 6 x3) fun v52 => gK v49 true (loadK h v52) fun v53 => gP v49 true (fun k => call (.func 139) [v51, v53] h (pz K k)) h fun v54 h => p188_4004 call n x2 x3 v49 v54 h K
noncomputable def p188_4002 (call : CallFn) (n : Nat) (x2 x3 x45 x50 : AV) (h : AHeap) (K : Kont) : Bool :=
  pickK x45 x50 (.bool false) fun v43 => gK v43 true (fadrK 5 x2) fun v44 => gK v43 true (loadK h v44) fun v45 => gK v43 true (fadrK 5 x3) fun v46 => gK v43 true (loadK h v46) fun v47 => gP v43 true (fun k => call (.func 139) [v45, v47] h (pz K k)) h fun v48 h => p188_4003 call n x2 x3 v43 v48 h K
noncomputable def p188_4001 (call : CallFn) (n : Nat) (x2 x3 x38 x43 : AV) (h : AHeap) (K : Kont) : Bool :=
  pickK x38 x43 (.bool false) fun v37 => gK v37 true (fadrK 4 x2) fun v38 => gK v37 true (loadK h v38) fun v39 => gK v37 true (fadrK 4 x3) fun v40 => gK v37 true (loadK h v40) fun v41 => gP v37 true (fun k => call (.func 233) [v39, v41, (.fn (.func 191) [] [])] h (pz K k)) h fun v42 h => p188_4002 call n x2 x3 v37 v42 h K
noncomputable def s188 (call : CallFn) (n : Nat) (x0 x1 : AV) (h : AHeap) (K : Kont) : Bool :=
  optPK (boxA h (none) 19 x0) fun v1 h => optPK (boxA h (none) 19 x1) fun v2 h => fadrK 0 v1 fun v3 => loadK h v3 fun v4 => fadrK 0 v2 fun v5 => loadK h v5 fun v6 => eqlK v4 v6 fun v7 => gK v7 true (fadrK 1 v1) fun v8 => gK v7 true (loadK h v8) fun v9 => gK v7 true (fadrK 1 v2) fun v10 => gK v7 true (loadK h v10) fun v11 => gK v7 true (eqlK v9 v11) fun v12 => pickK v7 v12 (.bool false) fun v13 => gK v13 true (fadrK 2 v1) fun v14 => gK v13 true (loadK h v14) fun v15 => gK v13 true (fadrK 2 v2) fun v16 => gK v13 true (loadK h v16) fun v17 => gK v13 true (eqlK v15 v17) fun v18 => pickK v13 v18 (.bool false) fun v19 => gK v19 true (fadrK 16 v1) fun v20 => gK v19 true (loadK h v20) fun v21 => gK v19 true (fadrK 16 v2) fun v22 => gK v19 true (loadK h v22) fun v23 => gK v19 true (eqlK v21 v23) fun v24 => pickK v19 v24 (.bool false) fun v25 => gK v25 true (fadrK 17 v1) fun v26 => gK v25 true (loadK h v26) fun v27 => gK v25 true (fadrK 17 v2) fun v28 => gK v25 true (loadK h v28) fun v29 => gK v25 true (eqlK v27 v29) fun v30 => pickK v25 v30 (.bool false) fun v31 => gK v31 true (fadrK 3 v1) fun v32 => gK v31 true (loadK h v32) fun v33 => gK v31 true (fadrK 3 v2) fun v34 => gK v31 true (loadK h v34) fun v35 => gP v31 true (fun k => call (.func 232) [v33, v35] h (pz K k)) h fun v36 h => p188_4001 call n v1 v2 v31 v36 h K

/-! ### 189 slices.EqualFunc[[]proctor/api.Assign,[]proctor/api.Assign,proctor/api.Assign,proctor/api.Assign] -/
noncomputable def p189_29001 (call : CallFn) (n : Nat) (B14 : F5) (x1 x2 x15 x16 x17 x29 : AV) (h : AHeap) (K : Kont) : Bool :=
  notK x29 fun v17 => condK v17 (K (.bool false) h) (addK x17 (.int .i64 1) fun v18 => B14 x1 x2 x15 x16 v18 h)
noncomputable def b189_14 (call : CallFn) (n : Nat) (B14 : F5) (x1 x2 x15 x16 x17 : AV) (h : AHeap) (K : Kont) : Bool :=
  lssK x17 x16 fun v5 => condK v5 (iadrK h 9 x15 x17 fun v6 => loadGK h 9 v6 fun v7 => allocK h [.str [], .int .i64 0, .str [], .int .i64 0, .bool false, .int .i64 0, .str [], .nilSlc, .nilSlc] 9 fun v8 h => storeNK h 9 v8 v7 fun h => iadrK h 9 x1 x17 fun v10 => loadGK h 9 v10 fun v11 => allocK h [.str [], .int .i64 0, .str [], .int .i64 0, .bool false, .int .i64 0, .str [], .nilSlc, .nilSlc] 9 fun v12 h => storeNK h 9 v12 v11 fun h => loadGK h 9 v8 fun v14 => loadGK h 9 v12 fun v15 => callV call x2 [v14, v15] h <| pz K fun v16 h => p189_29001 call n B14 x1 x2 x15 x16 x17 v16 h K) (K (.bool true) h)
noncomputable def l189_14 (call : CallFn) (n : Nat) : Nat → AV → AV → AV → AV → AV → AHeap → Kont → Bool :=
  @Nat.rec (fun _ => AV → AV → AV → AV → AV → AHeap → Kont → Bool) (fun _ _ _ _ _ _ _ => false) (fun _ ih x1 x2 x15 x16 x17 h K => b189_14 call n (fun x1 x2 x15 x16 x17 h => ih x1 x2 x15 x16 x17 h K) x1 x2 x15 x16 x17 h K)
noncomputable def p189_10 (call : CallFn) (n : Nat) (x0 x1 x2 : AV) (h : AHeap) (K : Kont) : Bool :=
  lenK x0 fun v4 => l189_14 call n n x1 x2 x0 v4 (.int .i64 0) h K
noncomputable def s189 (call : CallFn) (n : Nat) (x0 x1 x2 : AV) (h : AHeap) (K : Kont) : Bool :=
  lenK x0 fun v1 => lenK x1 fun v2 => neqK v1 v2 fun v3 => condK v3 (K (.bool false) h) (p189_10 call n x0 x1 x2 h K)

/-! ### 190 proctor/print.sameSet -/
noncomputable def p190_4001 (call : CallFn) (n : Nat) (x10 x15 : AV) (h : AHeap) (K : Kont) : Bool :=
  pickK x10 x15 (.bool false) fun v13 => K v13 h
noncomputable def s190 (call : CallFn) (n : Nat) (x0 x1 : AV) (h : AHeap) (K : Kont) : Bool :=
  optPK (boxA h (none) 9 x0) fun v1 h => optPK (boxA h (none) 9 x1) fun v2 h => fadrK 0 v1 fun v3 => loadK h v3 fun v4 => fadrK 0 v2 fun v5 => loadK h v5 fun v6 => eqlK v4 v6 fun v7 => gK v7 true (fadrK 1 v1) fun v8 => gK v7 true (loadGK h 8 v8) fun v9 => gK v7 true (fadrK 1 v2) fun v10 => gK v7 true (loadGK h 8 v10) fun v11 => gP v7 true (fun k => call (.func 191) [v9, v11] h (pz K k)) h fun v12 h => p190_4001 call n v7 v12 h K

/-! ### 191 proctor/print.sameExpr -/
noncomputable def p191_4002 (call : CallFn) (n : Nat) (x24 x29 : AV) (h : AHeap) (K : Kont) : Bool :=
  pickK x24 x29 (.bool false) fun v25 => K v25 h
noncomputable def p191_4001 (call : CallFn) (n : Nat) (x2 x3 x17 x22 : AV) (h : AHeap) (K : Kont) : Bool :=
  pickK x17 x22 (.bool false) fun v19 => gK v19 true (fadrK 7 x2) fun v20 => gK v19 true (loadK h v20) fun v21 => gK v19 true (fadrK 7 x3) fun v22 => gK v19 true (loadK h v22) fun v23 => gP v19 true (fun k => call (.func 233) [v21, v23, (.fn (.func 191) [] [])] h (pz K k)) h fun v24 h => p191_4002 call n v19 v24 h K
noncomputable def s191 (call : CallFn) (n : Nat) (x0 x1 : AV) (h : AHeap) (K : Kont) : Bool :=
  optPK (boxA h (none) 8 x0) fun v1 h => optPK (boxA h (none) 8 x1) fun v2 h => fadrK 0 v1 fun v3 => loadK h v3 fun v4 => fadrK 0 v2 fun v5 => loadK h v5 fun v6 => eqlK v4 v6 fun v7 => gK v7 true (fadrK 1 v1) fun v8 => gK v7 true (loadK h v8) fun v9 => gK v7 true (fadrK 1 v2) fun v10 => gK v7 true (loadK h v10) fun v11 => gK v7 true (eqlK v9 v11) fun v12 => pickK v7 v12 (.bool false) fun v13 => gK v13 true (fadrK 2 v1) fun v14 => gK v13 true (loadGK h 5 v14) fun v15 => gK v13 true (fadrK 2 v2) fun v16 => gK v13 true (loadGK h 5 v16) fun v17 => gP v13 true (fun k => call (.func 237) [v15, v17] h (pz K k)) h fun v18 h => p191_4001 call n v1 v2 v13 v18 h K

/-! ### 192 (*proctor/check.checker).pattern$1 -/
noncomputable def p192_4001 (call : CallFn) (n : Nat) (x2 x3 x4 x10 x14 : AV) (h : AHeap) (K : Kont) : Bool :=
  pickK x10 (.bool true) x14 fun v9 => call (.func 104) [v9] h <| pz K fun v10 h => fadrK 0 x4 fun v11 => loadK h v11 fun v12 => eqlK v12 (.int .i64 3) fun v13 => condK v13 (loadK h x2 fun v14 => nilckK v14 fun v15 => fadrK 3 v15 fun v16 => loadK h v16 fun v17 => fadrK 2 x3 fun v18 => loadK h v18 fun v19 => fadrK 1 x4 fun v20 => loadK h v20 fun v21 => call (.func 150) [v17, v19, v21] h <| pz K fun v22 h => extK 0 v22 fun v23 => extK 1 v22 fun v24 => eqlK v24 (.int .i64 0) fun v25 => call (.func 104) [v25] h <| pz K fun v26 h => K (.tup []) h) (K (.tup []) h)
noncomputable def s192 (call : CallFn) (n : Nat) (x0 x1 x2 x3 : AV) (h : AHeap) (K : Kont) : Bool :=
  optPK (boxA h (none) 8 x0) fun v1 h => fadrK 0 v1 fun v2 => loadK h v2 fun v3 => neqK v3 (.int .i64 2) fun v4 => gK v4 false (loadK h x1) fun v5 => gK v4 false (fadrK 1 v1) fun v6 => gK v4 false (loadK h v6) fun v7 => gP v4 false (fun k => call (.func 37) [v5, v7] h (pz K k)) h fun v8 h => p192_4001 call n x2 x3 v1 v4 v8 h K

/-! ### 193 maps.Copy[proctor/check.scope,proctor/check.scope,string,proctor/check.state] -/
noncomputable def b193_3 (call : CallFn) (n : Nat) (B3 : F2) (x0 x7 : AV) (h : AHeap) (K : Kont) : Bool :=
  nextA h x7 fun v2 h => extK 0 v2 fun v3 => condK v3 (optK (entA h x7) fun v4 => extK 0 v4 fun v5 => extK 1 v4 fun v6 => optPK (unit (mupdA h (.leaf .str) x0 v5 v6)) fun _ h => B3 x0 x7 h) (K (.tup []) h)
noncomputable def l193_3 (call : CallFn) (n : Nat) : Nat → AV → AV → AHeap → Kont → Bool :=
  @Nat.rec (fun _ => AV → AV → AHeap → Kont → Bool) (fun _ _ _ _ => false) (fun _ ih x0 x7 h K => b193_3 call n (fun x0 x7 h => ih x0 x7 h K) x0 x7 h K)
noncomputable def s193 (call : CallFn) (n : Nat) (x0 x1 : AV) (h : AHeap) (K : Kont) : Bool :=
  optPK (rngA h x1) fun v1 h => l193_3 call n n x0 v1 h K

/-! ### 195 slices.IndexFunc[[]proctor/api.Field,proctor/api.Field] -/
noncomputable def b195_6 (call : CallFn) (n : Nat) (B6 : F4) (x0 x1 x7 x8 : AV) (h : AHeap) (K : Kont) : Bool :=
  lssK x8 x7 fun v2 => condK v2 (iadrK h 3 x0 x8 fun v3 => loadGK h 3 v3 fun v4 => callV call x1 [v4] h <| pz K fun v5 h => condK v5 (K x8 h) (addK x8 (.int .i64 1) fun v6 => B6 x0 x1 x7 v6 h)) (K (.int .i64 (-1)) h)
noncomputable def l195_6 (call : CallFn) (n : Nat) : Nat → AV → AV → AV → AV → AHeap → Kont → Bool :=
  @Nat.rec (fun _ => AV → AV → AV → AV → AHeap → Kont → Bool) (fun _ _ _ _ _ _ => false) (fun _ ih x0 x1 x7 x8 h K => b195_6 call n (fun x0 x1 x7 x8 h => ih x0 x1 x7 x8 h K) x0 x1 x7 x8 h K)
noncomputable def s195 (call : CallFn) (n : Nat) (x0 x1 : AV) (h : AHeap) (K : Kont) : Bool :=
  lenK x0 fun v1 => l195_6 call n n x0 x1 v1 (.int .i64 0) h K

/-! ### 196 (*proctor/class.Table).Index$1 -/
noncomputable def s196 (call : CallFn) (n : Nat) (x0 x1 : AV) (h : AHeap) (K : Kont) : Bool :=
  optPK (boxA h (none) 3 x0) fun v1 h => fadrK 0 v1 fun v2 => loadK h v2 fun v3 => loadK h x1 fun v4 => eqlK v3 v4 fun v5 => K v5 h

/-! ### 197 slices.IndexFunc[[]proctor/api.Bind,proctor/api.Bind] -/
noncomputable def b197_6 (call : CallFn) (n : Nat) (B6 : F4) (x0 x1 x7 x8 : AV) (h : AHeap) (K : Kont) : Bool :=
  lssK x8 x7 fun v2 => condK v2 (iadrK h 2 x0 x8 fun v3 => loadGK h 2 v3 fun v4 => callV call x1 [v4] h <| pz K fun v5 h => condK v5 (K x8 h) (addK x8 (.int .i64 1) fun v6 => B6 x0 x1 x7 v6 h)) (K (.int .i64 (-1)) h)
noncomputable def l197_6 (call : CallFn) (n : Nat) : Nat → AV → AV → AV → AV → AHeap → Kont → Bool :=
  @Nat.rec (fun _ => AV → AV → AV → AV → AHeap → Kont → Bool) (fun _ _ _ _ _ _ => false) (fun _ ih x0 x1 x7 x8 h K => b197_6 call n (fun x0 x1 x7 x8 h => ih x0 x1 x7 x8 h K) x0 x1 x7 x8 h K)
noncomputable def s197 (call : CallFn) (n : Nat) (x0 x1 : AV) (h : AHeap) (K : Kont) : Bool :=
  lenK x0 fun v1 => l197_6 call n n x0 x1 v1 (.int .i64 0) h K

/-! ### 198 slices.IndexFunc[[]proctor/api.Arg,proctor/api.Arg] -/
noncomputable def b198_6 (call : CallFn) (n : Nat) (B6 : F4) (x0 x1 x7 x8 : AV) (h : AHeap) (K : Kont) : Bool :=
  lssK x8 x7 fun v2 => condK v2 (iadrK h 9 x0 x8 fun v3 => loadGK h 9 v3 fun v4 => callV call x1 [v4] h <| pz K fun v5 h => condK v5 (K x8 h) (addK x8 (.int .i64 1) fun v6 => B6 x0 x1 x7 v6 h)) (K (.int .i64 (-1)) h)
noncomputable def l198_6 (call : CallFn) (n : Nat) : Nat → AV → AV → AV → AV → AHeap → Kont → Bool :=
  @Nat.rec (fun _ => AV → AV → AV → AV → AHeap → Kont → Bool) (fun _ _ _ _ _ _ => false) (fun _ ih x0 x1 x7 x8 h K => b198_6 call n (fun x0 x1 x7 x8 h => ih x0 x1 x7 x8 h K) x0 x1 x7 x8 h K)
noncomputable def s198 (call : CallFn) (n : Nat) (x0 x1 : AV) (h : AHeap) (K : Kont) : Bool :=
  lenK x0 fun v1 => l198_6 call n n x0 x1 v1 (.int .i64 0) h K

/-! ### 199 slices.IndexFunc[[]proctor/api.Cond,proctor/api.Cond] -/
noncomputable def b199_6 (call : CallFn) (n : Nat) (B6 : F4) (x0 x1 x7 x8 : AV) (h : AHeap) (K : Kont) : Bool :=
  lssK x8 x7 fun v2 => condK v2 (iadrK h 19 x0 x8 fun v3 => loadGK h 19 v3 fun v4 => callV call x1 [v4] h <| pz K fun v5 h => condK v5 (K x8 h) (addK x8 (.int .i64 1) fun v6 => B6 x0 x1 x7 v6 h)) (K (.int .i64 (-1)) h)
noncomputable def l199_6 (call : CallFn) (n : Nat) : Nat → AV → AV → AV → AV → AHeap → Kont → Bool :=
  @Nat.rec (fun _ => AV → AV → AV → AV → AHeap → Kont → Bool) (fun _ _ _ _ _ _ => false) (fun _ ih x0 x1 x7 x8 h K => b199_6 call n (fun x0 x1 x7 x8 h => ih x0 x1 x7 x8 h K) x0 x1 x7 x8 h K)
noncomputable def s199 (call : CallFn) (n : Nat) (x0 x1 : AV) (h : AHeap) (K : Kont) : Bool :=
  lenK x0 fun v1 => l199_6 call n n x0 x1 v1 (.int .i64 0) h K

/-! ### 200 slices.IndexFunc[[]string,string] -/
noncomputable def b200_6 (call : CallFn) (n : Nat) (B6 : F4) (x0 x1 x7 x8 : AV) (h : AHeap) (K : Kont) : Bool :=
  lssK x8 x7 fun v2 => condK v2 (iadrK h 1 x0 x8 fun v3 => loadK h v3 fun v4 => callV call x1 [v4] h <| pz K fun v5 h => condK v5 (K x8 h) (addK x8 (.int .i64 1) fun v6 => B6 x0 x1 x7 v6 h)) (K (.int .i64 (-1)) h)
noncomputable def l200_6 (call : CallFn) (n : Nat) : Nat → AV → AV → AV → AV → AHeap → Kont → Bool :=
  @Nat.rec (fun _ => AV → AV → AV → AV → AHeap → Kont → Bool) (fun _ _ _ _ _ _ => false) (fun _ ih x0 x1 x7 x8 h K => b200_6 call n (fun x0 x1 x7 x8 h => ih x0 x1 x7 x8 h K) x0 x1 x7 x8 h K)
noncomputable def s200 (call : CallFn) (n : Nat) (x0 x1 : AV) (h : AHeap) (K : Kont) : Bool :=
  lenK x0 fun v1 => l200_6 call n n x0 x1 v1 (.int .i64 0) h K

/-! ### 201 (*proctor/lex.lexer).peek -/
noncomputable def s201 (call : CallFn) (n : Nat) (x0 x1 : AV) (h : AHeap) (K : Kont) : Bool :=
  nilckK x0 fun v1 => fadrK 1 v1 fun v2 => loadK h v2 fun v3 => addK v3 x1 fun v4 => nilckK x0 fun v5 => fadrK 0 v5 fun v6 => loadK h v6 fun v7 => lenSK v7 fun v8 => geqK v4 v8 fun v9 => condK v9 (K (.int .u8 0) h) (nilckK x0 fun v10 => fadrK 0 v10 fun v11 => loadK h v11 fun v12 => nilckK x0 fun v13 => fadrK 1 v13 fun v14 => loadK h v14 fun v15 => addK v15 x1 fun v16 => idxsK v12 v16 fun v17 => K v17 h)

/-! ### 202 (*proctor/lex.lexer).next$1 -/
noncomputable def s202 (call : CallFn) (n : Nat) (x0 x1 x2 : AV) (h : AHeap) (K : Kont) : Bool :=
  loadK h x2 fun v1 => nilckK v1 fun v2 => fadrK 0 v2 fun v3 => loadK h v3 fun v4 => loadK h x2 fun v5 => nilckK v5 fun v6 => fadrK 1 v6 fun v7 => loadK h v7 fun v8 => addK v8 x0 fun v9 => loadK h x2 fun v10 => nilckK v10 fun v11 => fadrK 1 v11 fun v12 => loadK h v12 fun v13 => addK v13 x0 fun v14 => addK v14 x1 fun v15 => slsK v4 (some v9) (some v15) fun v16 => K v16 h

/-! ### 203 proctor/lex.letter -/
noncomputable def s203 (call : CallFn) (n : Nat) (x0 : AV) (h : AHeap) (K : Kont) : Bool :=
  geqK x0 (.int .u8 97) fun v1 => gK v1 true (optK (some x0)) fun v2 => gK v1 true (leqK v2 (.int .u8 122)) fun v3 => pickK v1 v3 (.bool false) fun v4 => gK v4 false (optK (some x0)) fun v5 => gK v4 false (geqK v5 (.int .u8 65)) fun v6 => gK v4 false (optK (some v6)) fun v7 => gK v7 true (optK (some x0)) fun v8 => gK v7 true (leqK v8 (.int .u8 90)) fun v9 => gK v4 false (pickK v7 v9 (.bool false)) fun v10 => pickK v4 (.bool true) v10 fun v11 => K v11 h

/-! ### 204 (*proctor/lex.lexer).word -/
noncomputable def p204_5002 (call : CallFn) (n : Nat) (x0 x1 x8 : AV) (h : AHeap) (K : Kont) : Bool :=
  notK x8 fun v3 => condK v3 (K (.int .i64 0) h) (call (.func 206) [x0, x1, (.fn (.func 239) [] [])] h <| pz K fun v4 h => K v4 h)
noncomputable def p204_5001 (call : CallFn) (n : Nat) (x0 x1 x7 : AV) (h : AHeap) (K : Kont) : Bool :=
  call (.func 203) [x7] h <| pz K fun v2 h => p204_5002 call n x0 x1 v2 h K
noncomputable def s204 (call : CallFn) (n : Nat) (x0 x1 : AV) (h : AHeap) (K : Kont) : Bool :=
  call (.func 201) [x0, x1] h <| pz K fun v1 h => p204_5001 call n x0 x1 v1 h K

/-! ### 205 proctor/lex.digit -/
noncomputable def s205 (call : CallFn) (n : Nat) (x0 : AV) (h : AHeap) (K : Kont) : Bool :=
  geqK x0 (.int .u8 48) fun v1 => gK v1 true (optK (some x0)) fun v2 => gK v1 true (leqK v2 (.int .u8 57)) fun v3 => pickK v1 v3 (.bool false) fun v4 => K v4 h

/-! ### 206 (*proctor/lex.lexer).run -/
noncomputable def b206_6 (call : CallFn) (n : Nat) (B6 : F4) (x0 x1 x2 x7 : AV) (h : AHeap) (K : Kont) : Bool :=
  nilckK x0 fun v1 => fadrK 1 v1 fun v2 => loadK h v2 fun v3 => addK v3 x1 fun v4 => addK v4 x7 fun v5 => nilckK x0 fun v6 => fadrK 0 v6 fun v7 => loadK h v7 fun v8 => lenSK v8 fun v9 => lssK v5 v9 fun v10 => gK v10 true (optK (some x2)) fun v11 => gK v10 true (optK (some x0)) fun v12 => gK v10 true (nilckK v12) fun v13 => gK v10 true (fadrK 0 v13) fun v14 => gK v10 true (loadK h v14) fun v15 => gK v10 true (optK (some x0)) fun v16 => gK v10 true (nilckK v16) fun v17 => gK v10 true (fadrK 1 v17) fun v18 => gK v10 true (loadK h v18) fun v19 => gK v10 true (optK (some x1)) fun v20 => gK v10 true (addK v19 v20) fun v21 => gK v10 true (optK (some x7)) fun v22 => gK v10 true (addK v21 v22) fun v23 => gK v10 true (idxsK v15 v23) fun v24 => gP v10 true (fun k => callV call v11 [v24] h (pz K k)) h fun v25 h => pickK v10 v25 (.bool false) fun v26 => condK v26 (addK x7 (.int .i64 1) fun v27 => B6 x0 x1 x2 v27 h) (K x7 h)
noncomputable def l206_6 (call : CallFn) (n : Nat) : Nat → AV → AV → AV → AV → AHeap → Kont → Bool :=
  @Nat.rec (fun _ => AV → AV → AV → AV → AHeap → Kont → Bool) (fun _ _ _ _ _ _ => false) (fun _ ih x0 x1 x2 x7 h K => b206_6 call n (fun x0 x1 x2 x7 h => ih x0 x1 x2 x7 h K) x0 x1 x2 x7 h K)
noncomputable def s206 (call : CallFn) (n : Nat) (x0 x1 x2 : AV) (h : AHeap) (K : Kont) : Bool :=
  l206_6 call n n x0 x1 x2 (.int .i64 0) h K

/-! ### 207 (*proctor/lex.lexer).quoted -/
noncomputable def p207_25001 (call : CallFn) (n : Nat) (B8 : F3) (x5 x30 : AV) (h : AHeap) (K : Kont) : Bool :=
  addK x5 (.int .i64 1) fun v14 => K (.tup [x30, v14]) h
noncomputable def p207_49 (call : CallFn) (n : Nat) (B8 : F3) (x0 x4 x5 : AV) (h : AHeap) (K : Kont) : Bool :=
  addK x5 (.int .i64 1) fun v22 => B8 x0 x4 v22 h
noncomputable def p207_33001 (call : CallFn) (n : Nat) (B8 : F3) (x0 x4 x5 x40 : AV) (h : AHeap) (K : Kont) : Bool :=
  call (.func 181) [(.str [34, 92, 110, 116]), x40] h <| pz K fun v18 h => lssK v18 (.int .i64 0) fun v19 => condK v19 (K (.tup [(.str []), (.int .i64 0)]) h) (idxsK (.str [34, 92, 10, 9]) v18 fun v20 => call (.func 180) [x4, v20] h <| pz K fun v21 h => p207_49 call n B8 x0 x4 x5 h K)
noncomputable def b207_8 (call : CallFn) (n : Nat) (B8 : F3) (x0 x4 x5 : AV) (h : AHeap) (K : Kont) : Bool :=
  nilckK x0 fun v2 => fadrK 1 v2 fun v3 => loadK h v3 fun v4 => addK v4 x5 fun v5 => nilckK x0 fun v6 => fadrK 0 v6 fun v7 => loadK h v7 fun v8 => lenSK v8 fun v9 => lssK v5 v9 fun v10 => condK v10 (call (.func 201) [x0, x5] h <| pz K fun v11 h => eqlK v11 (.int .u8 34) fun v12 => condK v12 (call (.func 182) [x4] h <| pz K fun v13 h => p207_25001 call n B8 x5 v13 h K) (eqlK v11 (.int .u8 92) fun v15 => condK v15 (addK x5 (.int .i64 1) fun v16 => call (.func 201) [x0, v16] h <| pz K fun v17 h => p207_33001 call n B8 x0 x4 v16 v17 h K) (lssK v11 (.int .u8 32) fun v23 => condK v23 (K (.tup [(.str []), (.int .i64 0)]) h) (call (.func 180) [x4, v11] h <| pz K fun v24 h => p207_49 call n B8 x0 x4 x5 h K)))) (K (.tup [(.str []), (.int .i64 0)]) h)
noncomputable def l207_8 (call : CallFn) (n : Nat) : Nat → AV → AV → AV → AHeap → Kont → Bool :=
  @Nat.rec (fun _ => AV → AV → AV → AHeap → Kont → Bool) (fun _ _ _ _ _ => false) (fun _ ih x0 x4 x5 h K => b207_8 call n (fun x0 x4 x5 h => ih x0 x4 x5 h K) x0 x4 x5 h K)
noncomputable def s207 (call : CallFn) (n : Nat) (x0 : AV) (h : AHeap) (K : Kont) : Bool :=
  optPK (allotV h 233 [.nilPtr, .nilSlc]) fun v1 h => l207_8 call n n x0 v1 (.int .i64 1) h K

/-! ### 208 (*proctor/lex.lexer).mark -/
noncomputable def p208_25 (call : CallFn) (n : Nat) (x0 : AV) (h : AHeap) (K : Kont) : Bool :=
  nilckK x0 fun v15 => fadrK 0 v15 fun v16 => loadK h v16 fun v17 => nilckK x0 fun v18 => fadrK 1 v18 fun v19 => loadK h v19 fun v20 => idxsK v17 v20 fun v21 => call (.func 181) [(.str [40, 41, 91, 93, 123, 125, 44, 46, 58, 59, 63, 60, 62, 61, 43, 45, 42, 47, 37, 33]), v21] h <| pz K fun v22 h => geqK v22 (.int .i64 0) fun v23 => condK v23 (K (.int .i64 1) h) (K (.int .i64 0) h)
noncomputable def b208_6 (call : CallFn) (n : Nat) (B6 : F4) (x0 x5 x6 x7 : AV) (h : AHeap) (K : Kont) : Bool :=
  lssK x7 x6 fun v3 => condK v3 (iadrK h 1 x5 x7 fun v4 => loadK h v4 fun v5 => nilckK x0 fun v6 => fadrK 0 v6 fun v7 => loadK h v7 fun v8 => nilckK x0 fun v9 => fadrK 1 v9 fun v10 => loadK h v10 fun v11 => slsK v8 (some v11) none fun v12 => call (.func 240) [v12, v5] h <| pz K fun v13 h => condK v13 (K (.int .i64 2) h) (addK x7 (.int .i64 1) fun v14 => B6 x0 x5 x6 v14 h)) (p208_25 call n x0 h K)
noncomputable def l208_6 (call : CallFn) (n : Nat) : Nat → AV → AV → AV → AV → AHeap → Kont → Bool :=
  @Nat.rec (fun _ => AV → AV → AV → AV → AHeap → Kont → Bool) (fun _ _ _ _ _ _ => false) (fun _ ih x0 x5 x6 x7 h K => b208_6 call n (fun x0 x5 x6 x7 h => ih x0 x5 x6 x7 h K) x0 x5 x6 x7 h K)
noncomputable def s208 (call : CallFn) (n : Nat) (x0 : AV) (h : AHeap) (K : Kont) : Bool :=
  optPK (bsliceV h 6 1 [.str []] [(0, (.str [61, 61])), (1, (.str [33, 61])), (2, (.str [60, 61])), (3, (.str [62, 61])), (4, (.str [38, 38])), (5, (.str [124, 124]))]) fun v1 h => lenK v1 fun v2 => l208_6 call n n x0 v1 v2 (.int .i64 0) h K

/-! ### 214 (*proctor/parse.parser).ask$1 -/
noncomputable def p214_2002 (call : CallFn) (n : Nat) (x0 x1 x4 x6 : AV) (h : AHeap) (K : Kont) : Bool :=
  pickK x4 x6 (.bool false) fun v5 => condK v5 (fadrK 18 x1 fun v6 => loadK h v6 fun v7 => loadK h x0 fun v8 => call (.func 87) [v8] h <| pz K fun v9 h => loadK h v6 <| sameK v7 <| buildK [.str [], .int .i64 0, .str [], .int .i64 0, .bool false, .int .i64 0, .str [], .nilSlc, .nilSlc] [(0, 1, v9)] fun v10 => optPK (bsliceV h 1 9 [.str [], .int .i64 0, .str [], .int .i64 0, .bool false, .int .i64 0, .str [], .nilSlc, .nilSlc] [(0, v10)]) fun v11 h => loadK h v6 <| sameK v7 <| loadK h x0 <| sameK v8 <| appK h 9 128 v7 v11 fun v12 h => fadrK 18 x1 fun v13 => storeK h v13 v12 fun h => loadK h x0 fun v15 => optPK (bsliceV h 1 1 [.str []] [(0, (.str [63]))]) fun v16 h => call (.func 26) [v15, v16] h <| pz K fun v17 h => K (.tup []) h) (fadrK 18 x1 fun v18 => loadK h v18 fun v19 => loadK h x0 fun v20 => call (.func 129) [v20] h <| pz K fun v21 h => loadK h v18 <| sameK v19 <| buildK [.str [], .int .i64 0, .str [], .int .i64 0, .bool false, .int .i64 0, .str [], .nilSlc, .nilSlc] [(1, 8, v21)] fun v22 => optPK (bsliceV h 1 9 [.str [], .int .i64 0, .str [], .int .i64 0, .bool false, .int .i64 0, .str [], .nilSlc, .nilSlc] [(0, v22)]) fun v23 h => loadK h v18 <| sameK v19 <| loadK h x0 <| sameK v20 <| appK h 9 128 v19 v23 fun v24 h => fadrK 18 x1 fun v25 => storeK h v25 v24 fun h => K (.tup []) h)
noncomputable def p214_2001 (call : CallFn) (n : Nat) (x0 x1 x3 : AV) (h : AHeap) (K : Kont) : Bool :=
  gK x3 true (loadK h x0) fun v3 => gP x3 true (fun k => call (.func 75) [v3, (.int .i64 1), (.str [63])] h (pz K k)) h fun v4 h => p214_2002 call n x0 x1 x3 v4 h K
noncomputable def s214 (call : CallFn) (n : Nat) (x0 x1 : AV) (h : AHeap) (K : Kont) : Bool :=
  loadK h x0 fun v1 => call (.func 125) [v1, (.int .i64 1)] h <| pz K fun v2 h => p214_2001 call n x0 x1 v2 h K

/-! ### 215 (*proctor/parse.parser).pattern$1 -/
set_option maxRecDepth 100000 in
noncomputable def p215_2002 (call : CallFn) (n : Nat) (x0 x1 x5 x7 : AV) (h : AHeap) (K : Kont) : Bool :=
  pickK x5 x7 (.bool false) fun v5 => condK v5 (loadK h x0 fun v6 => call (.func 87) [v6] h <| pz K fun v7 h => loadK h x0 fun v8 => optPK (bsliceV h 1 1 [.str []] [(0, (.str [58]))]) fun v9 h => call (.func 26) [v8, v9] h <| pz K fun v10 h => fadrK 3 x1 fun v11 => loadK h v11 fun v12 => loadK h x0 fun v13 => call (.func 76) [v13] h <| pz K fun v14 h => loadK h v11 <| sameK v12 <| buildK [.str [], .str []] [(0, 1, v7), (1, 1, v14)] fun v15 => optPK (bsliceV h 1 2 [.str [], .str []] [(0, v15)]) fun v16 h => loadK h v11 <| sameK v12 <| loadK h x0 <| sameK v13 <| appK h 2 32 v12 v16 fun v17 h => fadrK 3 x1 fun v18 => storeK h v18 v17 fun h => K (.tup []) h) (fadrK 4 x1 fun v20 => loadK h v20 fun v21 => loadK h x0 fun v22 => lenK v21 fun v23 => optPK (bsliceV h 1 8 [.int .i64 0, .str [], .int .i64 0, .bool false, .int .i64 0, .str [], .nilSlc, .nilSlc] [(0, (.agg [.int .i64 0, .str [], .int .i64 0, .bool false, .int .i64 0, .str [], .nilSlc, .nilSlc]))]) fun v24 h => loadK h v20 <| sameK v21 <| loadK h x0 <| sameK v22 <| lenK v21 <| sameK v23 <| call (.func 129) [v22] h <| pz (goneQ [v24] K) fun v25 h => loadK h v20 <| sameK v21 <| lenK v21 <| sameK v23 <| appK h 8 112 v21 v24 fun v26 h => iadrK h 8 v26 v23 fun v27 => fadrK 4 x1 fun v28 => optPK (bif apartP v27 v28 then unit (storeA h 8 v27 v25) else none) fun _ h => storeK h v28 v26 fun h => iadrK h 8 v26 v23 <| sameK v27 <| K (.tup []) h)
noncomputable def p215_2001 (call : CallFn) (n : Nat) (x0 x1 x4 : AV) (h : AHeap) (K : Kont) : Bool :=
  gK x4 true (loadK h x0) fun v3 => gP x4 true (fun k => call (.func 75) [v3, (.int .i64 1), (.str [58])] h (pz K k)) h fun v4 h => p215_2002 call n x0 x1 x4 v4 h K
noncomputable def s215 (call : CallFn) (n : Nat) (x0 x1 : AV) (h : AHeap) (K : Kont) : Bool :=
  loadK h x0 fun v1 => call (.func 125) [v1, (.int .i64 1)] h <| pz K fun v2 h => p215_2001 call n x0 x1 v2 h K

/-! ### 216 (*proctor/parse.parser).sign -/
noncomputable def p216_18001 (call : CallFn) (n : Nat) (x2 x19 : AV) (h : AHeap) (K : Kont) : Bool :=
  storeNK h 9 x2 x19 fun h => optR (resV h [(x2, some (true, 9))]) h K
noncomputable def p216_28001 (call : CallFn) (n : Nat) (x2 x37 : AV) (h : AHeap) (K : Kont) : Bool :=
  storeNK h 9 x2 x37 fun h => optR (resV h [(x2, some (true, 9))]) h K
noncomputable def p216_24001 (call : CallFn) (n : Nat) (x0 x2 x3 x4 x24 : AV) (h : AHeap) (K : Kont) : Bool :=
  allocK h [.int .i64 0, .str [], .int .i64 0, .bool false, .int .i64 0, .str [], .nilSlc, .nilSlc, .int .i64 0] 9 fun v14 h => storeNK h 9 v14 x24 fun h => nilckK x0 fun v16 => fadrK 3 v16 fun v17 => loadK h v17 fun v18 => subK v18 (.int .i64 1) fun v19 => nilckK x0 fun v20 => fadrK 3 v20 fun v21 => storeK h v21 v19 fun h => buildK [.int .i64 0, .str [], .int .i64 0, .bool false, .int .i64 0, .str [], .nilSlc, .nilSlc] [(0, 1, x4)] fun v23 => loadGK h 9 v14 fun v24 => optPK (bsliceV h 1 9 [.int .i64 0, .str [], .int .i64 0, .bool false, .int .i64 0, .str [], .nilSlc, .nilSlc, .int .i64 0] [(0, v24)]) fun v25 h => call (.func 217) [x3, v23, v25] h <| pz K fun v26 h => p216_28001 call n x2 v26 h K
noncomputable def p216_15002 (call : CallFn) (n : Nat) (x0 x2 x3 x4 x13 x15 : AV) (h : AHeap) (K : Kont) : Bool :=
  gK x13 true (notK x15) fun v8 => pickK x13 v8 (.bool false) fun v9 => condK v9 (call (.func 246) [x0] h <| pz K fun v10 h => p216_18001 call n x2 v10 h K) (call (.func 124) [x0, x3] h <| pz K fun v12 h => call (.func 216) [x0] h <| pz K fun v13 h => p216_24001 call n x0 x2 x3 x4 v13 h K)
noncomputable def p216_15001 (call : CallFn) (n : Nat) (x0 x2 x3 x4 x11 : AV) (h : AHeap) (K : Kont) : Bool :=
  notK x11 fun v5 => gK v5 true (optK (some x0)) fun v6 => gP v5 true (fun k => call (.func 23) [v6, (.str [33])] h (pz K k)) h fun v7 h => p216_15002 call n x0 x2 x3 x4 v5 v7 h K
noncomputable def p216_12 (call : CallFn) (n : Nat) (x0 x2 x3 x4 : AV) (h : AHeap) (K : Kont) : Bool :=
  call (.func 23) [x0, (.str [45])] h <| pz K fun v4 h => p216_15001 call n x0 x2 x3 x4 v4 h K
noncomputable def s216 (call : CallFn) (n : Nat) (x0 : AV) (h : AHeap) (K : Kont) : Bool :=
  allocK h [.int .i64 0, .str [], .int .i64 0, .bool false, .int .i64 0, .str [], .nilSlc, .nilSlc, .int .i64 0] 9 fun v1 h => call (.func 120) [x0] h <| pz K fun v2 h => call (.func 75) [x0, (.int .i64 0), (.str [33])] h <| pz K fun v3 h => condK v3 (p216_12 call n x0 v1 v2 (.int .i64 7) h K) (p216_12 call n x0 v1 v2 (.int .i64 6) h K)

/-! ### 217 proctor/parse.made -/
noncomputable def p217_29 (call : CallFn) (n : Nat) (x6 x7 : AV) (h : AHeap) (K : Kont) : Bool :=
  loadGK h 9 x7 fun v36 => storeNK h 9 x6 v36 fun h => optR (resV h [(x6, some (true, 9))]) h K
noncomputable def p217_23 (call : CallFn) (n : Nat) (x0 x6 x7 : AV) (h : AHeap) (K : Kont) : Bool :=
  fadrK 8 x7 fun v32 => loadK h v32 fun v33 => gtrK v33 (.int .i64 30) fun v34 => condK v34 (call (.func 119) [x0] h <| pz K fun v35 h => p217_29 call n x6 x7 h K) (p217_29 call n x6 x7 h K)
noncomputable def b217_8 (call : CallFn) (n : Nat) (B8 : F6) (x0 x6 x7 x12 x13 x14 : AV) (h : AHeap) (K : Kont) : Bool :=
  lssK x14 x13 fun v8 => condK v8 (iadrK h 9 x12 x14 fun v9 => loadGK h 9 v9 fun v10 => allocK h [.int .i64 0, .str [], .int .i64 0, .bool false, .int .i64 0, .str [], .nilSlc, .nilSlc, .int .i64 0] 9 fun v11 h => storeNK h 9 v11 v10 fun h => fadrK 0 x7 fun v13 => fadrK 7 v13 fun v14 => loadK h v14 fun v15 => fadrK 0 v11 fun v16 => loadGK h 8 v16 fun v17 => optPK (bsliceV h 1 8 [.int .i64 0, .str [], .int .i64 0, .bool false, .int .i64 0, .str [], .nilSlc, .nilSlc] [(0, v17)]) fun v18 h => appK h 8 112 v15 v18 fun v19 h => fadrK 0 x7 fun v20 => fadrK 7 v20 fun v21 => storeK h v21 v19 fun h => fadrK 8 x7 fun v23 => loadK h v23 fun v24 => fadrK 8 v11 fun v25 => loadK h v25 fun v26 => addK v26 (.int .i64 1) fun v27 => optK (mmV true [v24, v27]) fun v28 => fadrK 8 x7 fun v29 => storeK h v29 v28 fun h => addK x14 (.int .i64 1) fun v31 => B8 x0 x6 x7 x12 x13 v31 h) (p217_23 call n x0 x6 x7 h K)
noncomputable def l217_8 (call : CallFn) (n : Nat) : Nat → AV → AV → AV → AV → AV → AV → AHeap → Kont → Bool :=
  @Nat.rec (fun _ => AV → AV → AV → AV → AV → AV → AHeap → Kont → Bool) (fun _ _ _ _ _ _ _ _ => false) (fun _ ih x0 x6 x7 x12 x13 x14 h K => b217_8 call n (fun x0 x6 x7 x12 x13 x14 h => ih x0 x6 x7 x12 x13 x14 h K) x0 x6 x7 x12 x13 x14 h K)
noncomputable def s217 (call : CallFn) (n : Nat) (x0 x1 x2 : AV) (h : AHeap) (K : Kont) : Bool :=
  optPK (boxA h (none) 8 x1) fun v1 h => allocK h [.int .i64 0, .str [], .int .i64 0, .bool false, .int .i64 0, .str [], .nilSlc, .nilSlc, .int .i64 0] 9 fun v2 h => loadGK h 8 v1 fun v3 => buildK [.int .i64 0, .str [], .int .i64 0, .bool false, .int .i64 0, .str [], .nilSlc, .nilSlc, .int .i64 0] [(0, 8, v3), (8, 1, (.int .i64 1))] fun v4 => allocK h [.int .i64 0, .str [], .int .i64 0, .bool false, .int .i64 0, .str [], .nilSlc, .nilSlc, .int .i64 0] 9 fun v5 h => storeNK h 9 v5 v4 fun h => lenK x2 fun v7 => l217_8 call n n x0 v2 v5 x2 v7 (.int .i64 0) h K

/-! ### 218 (*strings.Builder).copyCheck -/
noncomputable def p218_4001 (call : CallFn) (n : Nat) (x7 x10 : AV) (h : AHeap) (K : Kont) : Bool :=
  optK (ufrA h 233 2 [] x10) fun v7 => nilckK x7 fun v8 => fadrK 0 v8 fun v9 => storeK h v9 v7 fun h => K (.tup []) h
noncomputable def s218 (call : CallFn) (n : Nat) (x0 : AV) (h : AHeap) (K : Kont) : Bool :=
  nilckK x0 fun v1 => fadrK 0 v1 fun v2 => loadK h v2 fun v3 => optK (eqV h false .ptr v3 .nilPtr) fun v4 => condK v4 (optK (utoA h x0) fun v5 => call (.func 247) [v5] h <| pz K fun v6 h => p218_4001 call n x0 v6 h K) (nilckK x0 fun v11 => fadrK 0 v11 fun v12 => loadK h v12 fun v13 => optK (eqV h true .ptr v13 x0) fun v14 => condK v14 (false) (K (.tup []) h))

/-! ### 219 internal/stringslite.IndexByte -/
noncomputable def s219 (call : CallFn) (n : Nat) (x0 x1 : AV) (h : AHeap) (K : Kont) : Bool :=
  call (.func 248) [x0, x1] h <| pz K fun v1 h => K v1 h

/-! ### 220 internal/strconv.small -/
noncomputable def s220 (call : CallFn) (n : Nat) (x0 : AV) (h : AHeap) (K : Kont) : Bool :=
  lssK x0 (.int .i64 10) fun v1 => condK v1 (addK x0 (.int .i64 1) fun v2 => slsK (.str [48, 49, 50, 51, 52, 53, 54, 55, 56, 57, 97, 98, 99, 100, 101, 102, 103, 104, 105, 106, 107, 108, 109, 110, 111, 112, 113, 114, 115, 116, 117, 118, 119, 120, 121, 122]) (some x0) (some v2) fun v3 => K v3 h) (optK (binA .mul x0 (.int .i64 2)) fun v4 => optK (binA .mul x0 (.int .i64 2)) fun v5 => addK v5 (.int .i64 2) fun v6 => slsK (.str [48, 48, 48, 49, 48, 50, 48, 51, 48, 52, 48, 53, 48, 54, 48, 55, 48, 56, 48, 57, 49, 48, 49, 49, 49, 50, 49, 51, 49, 52, 49, 53, 49, 54, 49, 55, 49, 56, 49, 57, 50, 48, 50, 49, 50, 50, 50, 51, 50, 52, 50, 53, 50, 54, 50, 55, 50, 56, 50, 57, 51, 48, 51, 49, 51, 50, 51, 51, 51, 52, 51, 53, 51, 54, 51, 55, 51, 56, 51, 57, 52, 48, 52, 49, 52, 50, 52, 51, 52, 52, 52, 53, 52, 54, 52, 55, 52, 56, 52, 57, 53, 48, 53, 49, 53, 50, 53, 51, 53, 52, 53, 53, 53, 54, 53, 55, 53, 56, 53, 57, 54, 48, 54, 49, 54, 50, 54, 51, 54, 52, 54, 53, 54, 54, 54, 55, 54, 56, 54, 57, 55, 48, 55, 49, 55, 50, 55, 51, 55, 52, 55, 53, 55, 54, 55, 55, 55, 56, 55, 57, 56, 48, 56, 49, 56, 50, 56, 51, 56, 52, 56, 53, 56, 54, 56, 55, 56, 56, 56, 57, 57, 48, 57, 49, 57, 50, 57, 51, 57, 52, 57, 53, 57, 54, 57, 55, 57, 56, 57, 57]) (some v4) (some v6) fun v7 => K v7 h)

/-! ### 224 (*proctor/print.writer).in -/
noncomputable def s224 (call : CallFn) (n : Nat) (x0 : AV) (h : AHeap) (K : Kont) : Bool :=
  nilckK x0 fun v1 => fadrK 2 v1 fun v2 => loadK h v2 fun v3 => addK v3 (.int .i64 1) fun v4 => nilckK x0 fun v5 => fadrK 2 v5 fun v6 => storeK h v6 v4 fun h => nilckK x0 fun v8 => fadrK 2 v8 fun v9 => loadK h v9 fun v10 => leqK v10 (.int .i64 8192) fun v11 => call (.func 132) [v11] h <| pz K fun v12 h => K (.tup []) h

/-! ### 225 (*proctor/print.writer).pattern -/
noncomputable def p225_18 (call : CallFn) (n : Nat) (x2 x3 : AV) (h : AHeap) (K : Kont) : Bool :=
  loadK h x2 fun v34 => fadrK 4 x3 fun v35 => loadK h v35 fun v36 => call (.func 256) [v34, v36] h <| pz K fun v37 h => loadK h x2 fun v38 => optPK (bsliceV h 1 1 [.str []] [(0, (.str [41]))]) fun v39 h => call (.func 130) [v38, v39] h <| pz K fun v40 h => K (.tup []) h
noncomputable def p225_8 (call : CallFn) (n : Nat) (x2 x3 : AV) (h : AHeap) (K : Kont) : Bool :=
  loadK h x2 fun v12 => fadrK 2 x3 fun v13 => loadK h v13 fun v14 => optPK (bsliceV h 2 1 [.str []] [(0, v14), (1, (.str [40]))]) fun v15 h => call (.func 130) [v12, v15] h <| pz K fun v16 h => loadK h x2 fun v17 => fadrK 3 x3 fun v18 => loadK h v18 fun v19 => optK (some (.fn (.func 255) [] [x2])) fun v20 => call (.func 254) [v17, v19, v20] h <| pz K fun v21 h => fadrK 3 x3 fun v22 => loadK h v22 fun v23 => lenK v23 fun v24 => gtrK v24 (.int .i64 0) fun v25 => gK v25 true (fadrK 4 x3) fun v26 => gK v25 true (loadK h v26) fun v27 => gK v25 true (lenK v27) fun v28 => gK v25 true (gtrK v28 (.int .i64 0)) fun v29 => pickK v25 v29 (.bool false) fun v30 => condK v30 (loadK h x2 fun v31 => optPK (bsliceV h 1 1 [.str []] [(0, (.str [44]))]) fun v32 h => call (.func 130) [v31, v32] h <| pz K fun v33 h => p225_18 call n x2 x3 h K) (p225_18 call n x2 x3 h K)
noncomputable def s225 (call : CallFn) (n : Nat) (x0 x1 : AV) (h : AHeap) (K : Kont) : Bool :=
  boxK h x0 fun v1 h => optPK (boxA h (none) 19 x1) fun v2 h => fadrK 1 v2 fun v3 => loadK h v3 fun v4 => neqK v4 (.str []) fun v5 => condK v5 (loadK h v1 fun v6 => fadrK 1 v2 fun v7 => loadK h v7 fun v8 => addK (.str [36]) v8 fun v9 => optPK (bsliceV h 2 1 [.str []] [(0, v9), (1, (.str [58]))]) fun v10 h => call (.func 130) [v6, v10] h <| pz K fun v11 h => p225_8 call n v1 v2 h K) (p225_8 call n v1 v2 h K)

/-! ### 226 proctor/print.commas[proctor/api.Arg] -/
noncomputable def p226_20 (call : CallFn) (n : Nat) (B3 : F5) (x0 x2 x7 x8 x9 x10 : AV) (h : AHeap) (K : Kont) : Bool :=
  loadGK h 9 x7 fun v10 => callV call x2 [v10] h <| pz K fun v11 h => addK x10 (.int .i64 1) fun v12 => B3 x0 x2 x8 x9 v12 h
noncomputable def b226_3 (call : CallFn) (n : Nat) (B3 : F5) (x0 x2 x8 x9 x10 : AV) (h : AHeap) (K : Kont) : Bool :=
  lssK x10 x9 fun v2 => condK v2 (iadrK h 9 x8 x10 fun v3 => loadGK h 9 v3 fun v4 => allocK h [.str [], .int .i64 0, .str [], .int .i64 0, .bool false, .int .i64 0, .str [], .nilSlc, .nilSlc] 9 fun v5 h => storeNK h 9 v5 v4 fun h => gtrK x10 (.int .i64 0) fun v7 => condK v7 (optPK (bsliceV h 1 1 [.str []] [(0, (.str [44]))]) fun v8 h => call (.func 130) [x0, v8] h <| pz K fun v9 h => p226_20 call n B3 x0 x2 v5 x8 x9 x10 h K) (p226_20 call n B3 x0 x2 v5 x8 x9 x10 h K)) (K (.tup []) h)
noncomputable def l226_3 (call : CallFn) (n : Nat) : Nat → AV → AV → AV → AV → AV → AHeap → Kont → Bool :=
  @Nat.rec (fun _ => AV → AV → AV → AV → AV → AHeap → Kont → Bool) (fun _ _ _ _ _ _ _ => false) (fun _ ih x0 x2 x8 x9 x10 h K => b226_3 call n (fun x0 x2 x8 x9 x10 h => ih x0 x2 x8 x9 x10 h K) x0 x2 x8 x9 x10 h K)
noncomputable def s226 (call : CallFn) (n : Nat) (x0 x1 x2 : AV) (h : AHeap) (K : Kont) : Bool :=
  lenK x1 fun v1 => l226_3 call n n x0 x2 x1 v1 (.int .i64 0) h K

/-! ### 227 (*proctor/print.writer).cond$1 -/
noncomputable def s227 (call : CallFn) (n : Nat) (x0 x1 : AV) (h : AHeap) (K : Kont) : Bool :=
  optPK (boxA h (none) 9 x0) fun v1 h => fadrK 1 v1 fun v2 => fadrK 0 v2 fun v3 => loadK h v3 fun v4 => eqlK v4 (.int .i64 0) fun v5 => condK v5 (loadK h x1 fun v6 => fadrK 0 v1 fun v7 => loadK h v7 fun v8 => addK (.str [36]) v8 fun v9 => optPK (bsliceV h 2 1 [.str []] [(0, v9), (1, (.str [63]))]) fun v10 h => call (.func 130) [v6, v10] h <| pz K fun v11 h => K (.tup []) h) (loadK h x1 fun v12 => fadrK 1 v1 fun v13 => loadGK h 8 v13 fun v14 => call (.func 186) [v12, v14, (.int .i64 0)] h <| pz K fun v15 h => K (.tup []) h)

/-! ### 228 proctor/print.commas[proctor/api.Assign] -/
noncomputable def p228_20 (call : CallFn) (n : Nat) (B3 : F5) (x0 x2 x7 x8 x9 x10 : AV) (h : AHeap) (K : Kont) : Bool :=
  loadGK h 9 x7 fun v10 => callV call x2 [v10] h <| pz K fun v11 h => addK x10 (.int .i64 1) fun v12 => B3 x0 x2 x8 x9 v12 h
noncomputable def b228_3 (call : CallFn) (n : Nat) (B3 : F5) (x0 x2 x8 x9 x10 : AV) (h : AHeap) (K : Kont) : Bool :=
  lssK x10 x9 fun v2 => condK v2 (iadrK h 9 x8 x10 fun v3 => loadGK h 9 v3 fun v4 => allocK h [.str [], .int .i64 0, .str [], .int .i64 0, .bool false, .int .i64 0, .str [], .nilSlc, .nilSlc] 9 fun v5 h => storeNK h 9 v5 v4 fun h => gtrK x10 (.int .i64 0) fun v7 => condK v7 (optPK (bsliceV h 1 1 [.str []] [(0, (.str [44]))]) fun v8 h => call (.func 130) [x0, v8] h <| pz K fun v9 h => p228_20 call n B3 x0 x2 v5 x8 x9 x10 h K) (p228_20 call n B3 x0 x2 v5 x8 x9 x10 h K)) (K (.tup []) h)
noncomputable def l228_3 (call : CallFn) (n : Nat) : Nat → AV → AV → AV → AV → AV → AHeap → Kont → Bool :=
  @Nat.rec (fun _ => AV → AV → AV → AV → AV → AHeap → Kont → Bool) (fun _ _ _ _ _ _ _ => false) (fun _ ih x0 x2 x8 x9 x10 h K => b228_3 call n (fun x0 x2 x8 x9 x10 h => ih x0 x2 x8 x9 x10 h K) x0 x2 x8 x9 x10 h K)
noncomputable def s228 (call : CallFn) (n : Nat) (x0 x1 x2 : AV) (h : AHeap) (K : Kont) : Bool :=
  lenK x1 fun v1 => l228_3 call n n x0 x2 x1 v1 (.int .i64 0) h K

/-! ### 229 (*proctor/print.writer).sets$1 -/
noncomputable def s229 (call : CallFn) (n : Nat) (x0 x1 : AV) (h : AHeap) (K : Kont) : Bool :=
  optPK (boxA h (none) 9 x0) fun v1 h => loadK h x1 fun v2 => fadrK 0 v1 fun v3 => loadK h v3 fun v4 => optPK (bsliceV h 2 1 [.str []] [(0, v4), (1, (.str [61]))]) fun v5 h => call (.func 130) [v2, v5] h <| pz K fun v6 h => loadK h x1 fun v7 => fadrK 1 v1 fun v8 => loadGK h 8 v8 fun v9 => call (.func 186) [v7, v9, (.int .i64 0)] h <| pz K fun v10 h => K (.tup []) h

/-! ### 230 proctor/print.hold -/
set_option maxRecDepth 100000 in
noncomputable def s230 (call : CallFn) (n : Nat) (x0 : AV) (h : AHeap) (K : Kont) : Bool :=
  eqlK x0 (.int .i64 9) fun v1 => condK v1 (K (.tup [(.int .i64 0), (.str [124, 124])]) h) (eqlK x0 (.int .i64 8) fun v2 => condK v2 (K (.tup [(.int .i64 1), (.str [38, 38])]) h) (eqlK x0 (.int .i64 10) fun v3 => condK v3 (K (.tup [(.int .i64 2), (.str [61, 61])]) h) (eqlK x0 (.int .i64 11) fun v4 => condK v4 (K (.tup [(.int .i64 2), (.str [33, 61])]) h) (eqlK x0 (.int .i64 12) fun v5 => condK v5 (K (.tup [(.int .i64 2), (.str [60])]) h) (eqlK x0 (.int .i64 13) fun v6 => condK v6 (K (.tup [(.int .i64 2), (.str [60, 61])]) h) (eqlK x0 (.int .i64 14) fun v7 => condK v7 (K (.tup [(.int .i64 2), (.str [62])]) h) (eqlK x0 (.int .i64 15) fun v8 => condK v8 (K (.tup [(.int .i64 2), (.str [62, 61])]) h) (eqlK x0 (.int .i64 16) fun v9 => condK v9 (K (.tup [(.int .i64 3), (.str [43])]) h) (eqlK x0 (.int .i64 17) fun v10 => condK v10 (K (.tup [(.int .i64 3), (.str [45])]) h) (eqlK x0 (.int .i64 18) fun v11 => condK v11 (K (.tup [(.int .i64 4), (.str [42])]) h) (eqlK x0 (.int .i64 19) fun v12 => condK v12 (K (.tup [(.int .i64 4), (.str [47])]) h) (eqlK x0 (.int .i64 20) fun v13 => condK v13 (K (.tup [(.int .i64 4), (.str [37])]) h) (eqlK x0 (.int .i64 6) fun v14 => condK v14 (K (.tup [(.int .i64 5), (.str [45])]) h) (eqlK x0 (.int .i64 7) fun v15 => condK v15 (K (.tup [(.int .i64 5), (.str [33])]) h) (eqlK x0 (.int .i64 4) fun v16 => condK v16 (K (.tup [(.int .i64 6), (.str [46])]) h) (K (.tup [(.int .i64 7), (.str [])]) h))))))))))))))))

/-! ### 231 (*proctor/print.writer).atom -/
set_option maxRecDepth 100000 in
noncomputable def s231 (call : CallFn) (n : Nat) (x0 x1 : AV) (h : AHeap) (K : Kont) : Bool :=
  optPK (boxA h (none) 8 x1) fun v1 h => fadrK 0 v1 fun v2 => loadK h v2 fun v3 => eqlK v3 (.int .i64 1) fun v4 => condK v4 (fadrK 2 v1 fun v5 => loadGK h 5 v5 fun v6 => call (.func 257) [x0, v6] h <| pz K fun v7 h => K (.tup []) h) (eqlK v3 (.int .i64 2) fun v8 => condK v8 (fadrK 1 v1 fun v9 => loadK h v9 fun v10 => addK (.str [36]) v10 fun v11 => optPK (bsliceV h 1 1 [.str []] [(0, v11)]) fun v12 h => call (.func 130) [x0, v12] h <| pz K fun v13 h => K (.tup []) h) (eqlK v3 (.int .i64 3) fun v14 => condK v14 (fadrK 1 v1 fun v15 => loadK h v15 fun v16 => optPK (bsliceV h 1 1 [.str []] [(0, v16)]) fun v17 h => call (.func 130) [x0, v17] h <| pz K fun v18 h => K (.tup []) h) (eqlK v3 (.int .i64 5) fun v19 => condK v19 (optPK (bsliceV h 1 1 [.str []] [(0, (.str [91]))]) fun v20 h => call (.func 130) [x0, v20] h <| pz K fun v21 h => fadrK 7 v1 fun v22 => loadK h v22 fun v23 => call (.func 256) [x0, v23] h <| pz K fun v24 h => optPK (bsliceV h 1 1 [.str []] [(0, (.str [93]))]) fun v25 h => call (.func 130) [x0, v25] h <| pz K fun v26 h => K (.tup []) h) (eqlK v3 (.int .i64 21) fun v27 => condK v27 (fadrK 7 v1 fun v28 => loadK h v28 fun v29 => lenK v29 fun v30 => eqlK v30 (.int .i64 1) fun v31 => call (.func 132) [v31] h <| pz K fun v32 h => optPK (bsliceV h 2 1 [.str []] [(0, (.str [115, 105, 122, 101])), (1, (.str [40]))]) fun v33 h => call (.func 130) [x0, v33] h <| pz K fun v34 h => fadrK 7 v1 fun v35 => loadK h v35 fun v36 => call (.func 256) [x0, v36] h <| pz K fun v37 h => optPK (bsliceV h 1 1 [.str []] [(0, (.str [41]))]) fun v38 h => call (.func 130) [x0, v38] h <| pz K fun v39 h => K (.tup []) h) (eqlK v3 (.int .i64 22) fun v40 => condK v40 (fadrK 7 v1 fun v41 => loadK h v41 fun v42 => lenK v42 fun v43 => eqlK v43 (.int .i64 2) fun v44 => call (.func 132) [v44] h <| pz K fun v45 h => optPK (bsliceV h 2 1 [.str []] [(0, (.str [104, 97, 115])), (1, (.str [40]))]) fun v46 h => call (.func 130) [x0, v46] h <| pz K fun v47 h => fadrK 7 v1 fun v48 => loadK h v48 fun v49 => call (.func 256) [x0, v49] h <| pz K fun v50 h => optPK (bsliceV h 1 1 [.str []] [(0, (.str [41]))]) fun v51 h => call (.func 130) [x0, v51] h <| pz K fun v52 h => K (.tup []) h) (buildK [] [] fun v53 => optK (mkifA 136 v53) fun v54 => pncK K v54 h))))))

/-! ### 232 slices.Equal[[]proctor/api.Bind,proctor/api.Bind] -/
noncomputable def b232_14 (call : CallFn) (n : Nat) (B14 : F4) (x0 x1 x12 x13 : AV) (h : AHeap) (K : Kont) : Bool :=
  lssK x13 x12 fun v5 => condK v5 (iadrK h 2 x0 x13 fun v6 => loadGK h 2 v6 fun v7 => iadrK h 2 x1 x13 fun v8 => loadGK h 2 v8 fun v9 => optK (eqV h true (.agg [.str, .str]) v7 v9) fun v10 => condK v10 (K (.bool false) h) (addK x13 (.int .i64 1) fun v11 => B14 x0 x1 x12 v11 h)) (K (.bool true) h)
noncomputable def l232_14 (call : CallFn) (n : Nat) : Nat → AV → AV → AV → AV → AHeap → Kont → Bool :=
  @Nat.rec (fun _ => AV → AV → AV → AV → AHeap → Kont → Bool) (fun _ _ _ _ _ _ => false) (fun _ ih x0 x1 x12 x13 h K => b232_14 call n (fun x0 x1 x12 x13 h => ih x0 x1 x12 x13 h K) x0 x1 x12 x13 h K)
noncomputable def p232_10 (call : CallFn) (n : Nat) (x0 x1 : AV) (h : AHeap) (K : Kont) : Bool :=
  lenK x0 fun v4 => l232_14 call n n x0 x1 v4 (.int .i64 0) h K
noncomputable def s232 (call : CallFn) (n : Nat) (x0 x1 : AV) (h : AHeap) (K : Kont) : Bool :=
  lenK x0 fun v1 => lenK x1 fun v2 => neqK v1 v2 fun v3 => condK v3 (K (.bool false) h) (p232_10 call n x0 x1 h K)

/-! ### 233 slices.EqualFunc[[]proctor/api.Expr,[]proctor/api.Expr,proctor/api.Expr,proctor/api.Expr] -/
noncomputable def p233_29001 (call : CallFn) (n : Nat) (B14 : F5) (x1 x2 x15 x16 x17 x29 : AV) (h : AHeap) (K : Kont) : Bool :=
  notK x29 fun v17 => condK v17 (K (.bool false) h) (addK x17 (.int .i64 1) fun v18 => B14 x1 x2 x15 x16 v18 h)
noncomputable def b233_14 (call : CallFn) (n : Nat) (B14 : F5) (x1 x2 x15 x16 x17 : AV) (h : AHeap) (K : Kont) : Bool :=
  lssK x17 x16 fun v5 => condK v5 (iadrK h 8 x15 x17 fun v6 => loadGK h 8 v6 fun v7 => allocK h [.int .i64 0, .str [], .int .i64 0, .bool false, .int .i64 0, .str [], .nilSlc, .nilSlc] 8 fun v8 h => storeNK h 8 v8 v7 fun h => iadrK h 8 x1 x17 fun v10 => loadGK h 8 v10 fun v11 => allocK h [.int .i64 0, .str [], .int .i64 0, .bool false, .int .i64 0, .str [], .nilSlc, .nilSlc] 8 fun v12 h => storeNK h 8 v12 v11 fun h => loadGK h 8 v8 fun v14 => loadGK h 8 v12 fun v15 => callV call x2 [v14, v15] h <| pz K fun v16 h => p233_29001 call n B14 x1 x2 x15 x16 x17 v16 h K) (K (.bool true) h)
noncomputable def l233_14 (call : CallFn) (n : Nat) : Nat → AV → AV → AV → AV → AV → AHeap → Kont → Bool :=
  @Nat.rec (fun _ => AV → AV → AV → AV → AV → AHeap → Kont → Bool) (fun _ _ _ _ _ _ _ => false) (fun _ ih x1 x2 x15 x16 x17 h K => b233_14 call n (fun x1 x2 x15 x16 x17 h => ih x1 x2 x15 x16 x17 h K) x1 x2 x15 x16 x17 h K)
noncomputable def p233_10 (call : CallFn) (n : Nat) (x0 x1 x2 : AV) (h : AHeap) (K : Kont) : Bool :=
  lenK x0 fun v4 => l233_14 call n n x1 x2 x0 v4 (.int .i64 0) h K
noncomputable def s233 (call : CallFn) (n : Nat) (x0 x1 x2 : AV) (h : AHeap) (K : Kont) : Bool :=
  lenK x0 fun v1 => lenK x1 fun v2 => neqK v1 v2 fun v3 => condK v3 (K (.bool false) h) (p233_10 call n x0 x1 x2 h K)

/-! ### 234 slices.EqualFunc[[][]proctor/api.Cond,[][]proctor/api.Cond,[]proctor/api.Cond,[]proctor/api.Cond] -/
noncomputable def p234_29001 (call : CallFn) (n : Nat) (B14 : F5) (x1 x2 x15 x16 x17 x29 : AV) (h : AHeap) (K : Kont) : Bool :=
  notK x29 fun v11 => condK v11 (K (.bool false) h) (addK x17 (.int .i64 1) fun v12 => B14 x1 x2 x15 x16 v12 h)
noncomputable def b234_14 (call : CallFn) (n : Nat) (B14 : F5) (x1 x2 x15 x16 x17 : AV) (h : AHeap) (K : Kont) : Bool :=
  lssK x17 x16 fun v5 => condK v5 (iadrK h 1 x15 x17 fun v6 => loadK h v6 fun v7 => iadrK h 1 x1 x17 fun v8 => loadK h v8 fun v9 => callV call x2 [v7, v9] h <| pz K fun v10 h => p234_29001 call n B14 x1 x2 x15 x16 x17 v10 h K) (K (.bool true) h)
noncomputable def l234_14 (call : CallFn) (n : Nat) : Nat → AV → AV → AV → AV → AV → AHeap → Kont → Bool :=
  @Nat.rec (fun _ => AV → AV → AV → AV → AV → AHeap → Kont → Bool) (fun _ _ _ _ _ _ _ => false) (fun _ ih x1 x2 x15 x16 x17 h K => b234_14 call n (fun x1 x2 x15 x16 x17 h => ih x1 x2 x15 x16 x17 h K) x1 x2 x15 x16 x17 h K)
noncomputable def p234_10 (call : CallFn) (n : Nat) (x0 x1 x2 : AV) (h : AHeap) (K : Kont) : Bool :=
  lenK x0 fun v4 => l234_14 call n n x1 x2 x0 v4 (.int .i64 0) h K
noncomputable def s234 (call : CallFn) (n : Nat) (x0 x1 x2 : AV) (h : AHeap) (K : Kont) : Bool :=
  lenK x0 fun v1 => lenK x1 fun v2 => neqK v1 v2 fun v3 => condK v3 (K (.bool false) h) (p234_10 call n x0 x1 x2 h K)

/-! ### 235 slices.EqualFunc[[]proctor/api.Arg,[]proctor/api.Arg,proctor/api.Arg,proctor/api.Arg] -/
noncomputable def p235_29001 (call : CallFn) (n : Nat) (B14 : F5) (x1 x2 x15 x16 x17 x29 : AV) (h : AHeap) (K : Kont) : Bool :=
  notK x29 fun v17 => condK v17 (K (.bool false) h) (addK x17 (.int .i64 1) fun v18 => B14 x1 x2 x15 x16 v18 h)
noncomputable def b235_14 (call : CallFn) (n : Nat) (B14 : F5) (x1 x2 x15 x16 x17 : AV) (h : AHeap) (K : Kont) : Bool :=
  lssK x17 x16 fun v5 => condK v5 (iadrK h 9 x15 x17 fun v6 => loadGK h 9 v6 fun v7 => allocK h [.str [], .int .i64 0, .str [], .int .i64 0, .bool false, .int .i64 0, .str [], .nilSlc, .nilSlc] 9 fun v8 h => storeNK h 9 v8 v7 fun h => iadrK h 9 x1 x17 fun v10 => loadGK h 9 v10 fun v11 => allocK h [.str [], .int .i64 0, .str [], .int .i64 0, .bool false, .int .i64 0, .str [], .nilSlc, .nilSlc] 9 fun v12 h => storeNK h 9 v12 v11 fun h => loadGK h 9 v8 fun v14 => loadGK h 9 v12 fun v15 => callV call x2 [v14, v15] h <| pz K fun v16 h => p235_29001 call n B14 x1 x2 x15 x16 x17 v16 h K) (K (.bool true) h)
noncomputable def l235_14 (call : CallFn) (n : Nat) : Nat → AV → AV → AV → AV → AV → AHeap → Kont → Bool :=
  @Nat.rec (fun _ => AV → AV → AV → AV → AV → AHeap → Kont → Bool) (fun _ _ _ _ _ _ _ => false) (fun _ ih x1 x2 x15 x16 x17 h K => b235_14 call n (fun x1 x2 x15 x16 x17 h => ih x1 x2 x15 x16 x17 h K) x1 x2 x15 x16 x17 h K)
noncomputable def p235_10 (call : CallFn) (n : Nat) (x0 x1 x2 : AV) (h : AHeap) (K : Kont) : Bool :=
  lenK x0 fun v4 => l235_14 call n n x1 x2 x0 v4 (.int .i64 0) h K
noncomputable def s235 (call : CallFn) (n : Nat) (x0 x1 x2 : AV) (h : AHeap) (K : Kont) : Bool :=
  lenK x0 fun v1 => lenK x1 fun v2 => neqK v1 v2 fun v3 => condK v3 (K (.bool false) h) (p235_10 call n x0 x1 x2 h K)

/-! ### 236 proctor/print.sameArg -/
noncomputable def p236_4001 (call : CallFn) (n : Nat) (x10 x15 : AV) (h : AHeap) (K : Kont) : Bool :=
  pickK x10 x15 (.bool false) fun v13 => K v13 h
noncomputable def s236 (call : CallFn) (n : Nat) (x0 x1 : AV) (h : AHeap) (K : Kont) : Bool :=
  optPK (boxA h (none) 9 x0) fun v1 h => optPK (boxA h (none) 9 x1) fun v2 h => fadrK 0 v1 fun v3 => loadK h v3 fun v4 => fadrK 0 v2 fun v5 => loadK h v5 fun v6 => eqlK v4 v6 fun v7 => gK v7 true (fadrK 1 v1) fun v8 => gK v7 true (loadGK h 8 v8) fun v9 => gK v7 true (fadrK 1 v2) fun v10 => gK v7 true (loadGK h 8 v10) fun v11 => gP v7 true (fun k => call (.func 191) [v9, v11] h (pz K k)) h fun v12 h => p236_4001 call n v7 v12 h K

/-! ### 237 proctor/value.Same -/
noncomputable def p237_4001 (call : CallFn) (n : Nat) (x31 x36 : AV) (h : AHeap) (K : Kont) : Bool :=
  pickK x31 x36 (.bool false) fun v31 => K v31 h
noncomputable def s237 (call : CallFn) (n : Nat) (x0 x1 : AV) (h : AHeap) (K : Kont) : Bool :=
  optPK (boxA h (none) 5 x0) fun v1 h => optPK (boxA h (none) 5 x1) fun v2 h => fadrK 0 v1 fun v3 => loadK h v3 fun v4 => fadrK 0 v2 fun v5 => loadK h v5 fun v6 => eqlK v4 v6 fun v7 => gK v7 true (fadrK 1 v1) fun v8 => gK v7 true (loadK h v8) fun v9 => gK v7 true (fadrK 1 v2) fun v10 => gK v7 true (loadK h v10) fun v11 => gK v7 true (optK (eqV h false .bool v9 v11)) fun v12 => pickK v7 v12 (.bool false) fun v13 => gK v13 true (fadrK 2 v1) fun v14 => gK v13 true (loadK h v14) fun v15 => gK v13 true (fadrK 2 v2) fun v16 => gK v13 true (loadK h v16) fun v17 => gK v13 true (eqlK v15 v17) fun v18 => pickK v13 v18 (.bool false) fun v19 => gK v19 true (fadrK 3 v1) fun v20 => gK v19 true (loadK h v20) fun v21 => gK v19 true (fadrK 3 v2) fun v22 => gK v19 true (loadK h v22) fun v23 => gK v19 true (eqlK v21 v23) fun v24 => pickK v19 v24 (.bool false) fun v25 => gK v25 true (fadrK 4 v1) fun v26 => gK v25 true (loadK h v26) fun v27 => gK v25 true (fadrK 4 v2) fun v28 => gK v25 true (loadK h v28) fun v29 => gP v25 true (fun k => call (.func 258) [v27, v29, (.fn (.func 237) [] [])] h (pz K k)) h fun v30 h => p237_4001 call n v25 v30 h K

/-! ### 238 slices.Concat[[]proctor/api.Field,proctor/api.Field] -/
noncomputable def p238_26 (call : CallFn) (n : Nat) (B8 : F5) (x0 x3 x9 x10 x11 : AV) (h : AHeap) (K : Kont) : Bool :=
  addK x11 (.int .i64 1) fun v10 => B8 x0 x3 x9 x10 v10 h
noncomputable def b238_33 (call : CallFn) (n : Nat) (B33 : F4) (x6 x25 x26 x27 : AV) (h : AHeap) (K : Kont) : Bool :=
  lssK x27 x26 fun v13 => condK v13 (iadrK h 1 x25 x27 fun v14 => loadK h v14 fun v15 => appK h 3 40 x6 v15 fun v16 h => addK x27 (.int .i64 1) fun v17 => B33 v16 x25 x26 v17 h) (K x6 h)
noncomputable def l238_33 (call : CallFn) (n : Nat) : Nat → AV → AV → AV → AV → AHeap → Kont → Bool :=
  @Nat.rec (fun _ => AV → AV → AV → AV → AHeap → Kont → Bool) (fun _ _ _ _ _ _ => false) (fun _ ih x6 x25 x26 x27 h K => b238_33 call n (fun x6 x25 x26 x27 h => ih x6 x25 x26 x27 h K) x6 x25 x26 x27 h K)
noncomputable def p238_27 (call : CallFn) (n : Nat) (x0 x3 : AV) (h : AHeap) (K : Kont) : Bool :=
  call (.func 259) [.nilSlc, x3] h <| pz K fun v11 h => lenK x0 fun v12 => l238_33 call n n v11 x0 v12 (.int .i64 0) h K
noncomputable def b238_8 (call : CallFn) (n : Nat) (B8 : F5) (x0 x3 x9 x10 x11 : AV) (h : AHeap) (K : Kont) : Bool :=
  lssK x11 x10 fun v2 => condK v2 (iadrK h 1 x9 x11 fun v3 => loadK h v3 fun v4 => lenK v4 fun v5 => addK x3 v5 fun v6 => lssK v6 (.int .i64 0) fun v7 => condK v7 (optK (mkifA 9 (.str [108, 101, 110, 32, 111, 117, 116, 32, 111, 102, 32, 114, 97, 110, 103, 101])) fun v8 => pncK K v8 h) (p238_26 call n B8 x0 v6 x9 x10 x11 h K)) (p238_27 call n x0 x3 h K)
noncomputable def l238_8 (call : CallFn) (n : Nat) : Nat → AV → AV → AV → AV → AV → AHeap → Kont → Bool :=
  @Nat.rec (fun _ => AV → AV → AV → AV → AV → AHeap → Kont → Bool) (fun _ _ _ _ _ _ _ => false) (fun _ ih x0 x3 x9 x10 x11 h K => b238_8 call n (fun x0 x3 x9 x10 x11 h => ih x0 x3 x9 x10 x11 h K) x0 x3 x9 x10 x11 h K)
noncomputable def s238 (call : CallFn) (n : Nat) (x0 : AV) (h : AHeap) (K : Kont) : Bool :=
  lenK x0 fun v1 => l238_8 call n n x0 (.int .i64 0) x0 v1 (.int .i64 0) h K

/-! ### 239 (*proctor/lex.lexer).word$1 -/
noncomputable def p239_4002 (call : CallFn) (n : Nat) (x0 x5 x7 : AV) (h : AHeap) (K : Kont) : Bool :=
  pickK x5 (.bool true) x7 fun v4 => gK v4 false (optK (some x0)) fun v5 => gK v4 false (eqlK v5 (.int .u8 95)) fun v6 => pickK v4 (.bool true) v6 fun v7 => K v7 h
noncomputable def p239_4001 (call : CallFn) (n : Nat) (x0 x4 : AV) (h : AHeap) (K : Kont) : Bool :=
  gK x4 false (optK (some x0)) fun v2 => gP x4 false (fun k => call (.func 205) [v2] h (pz K k)) h fun v3 h => p239_4002 call n x0 x4 v3 h K
noncomputable def s239 (call : CallFn) (n : Nat) (x0 : AV) (h : AHeap) (K : Kont) : Bool :=
  call (.func 203) [x0] h <| pz K fun v1 h => p239_4001 call n x0 v1 h K

/-! ### 240 strings.HasPrefix -/
noncomputable def s240 (call : CallFn) (n : Nat) (x0 x1 : AV) (h : AHeap) (K : Kont) : Bool :=
  call (.func 260) [x0, x1] h <| pz K fun v1 h => K v1 h

/-! ### 246 (*proctor/parse.parser).post -/
noncomputable def p246_12001 (call : CallFn) (n : Nat) (B5 : F3) (x0 x2 x3 x4 x10 : AV) (h : AHeap) (K : Kont) : Bool :=
  notK x10 fun v7 => condK v7 (loadGK h 9 x3 fun v8 => storeNK h 9 x2 v8 fun h => optR (resV h [(x2, some (true, 9))]) h K) (loadGK h 9 x3 fun v10 => optPK (bsliceV h 1 9 [.int .i64 0, .str [], .int .i64 0, .bool false, .int .i64 0, .str [], .nilSlc, .nilSlc, .int .i64 0] [(0, v10)]) fun v11 h => loadGK h 9 x3 <| sameK v10 <| call (.func 76) [x0] h <| pz (goneQ [v11] K) fun v12 h => loadGK h 9 x3 <| sameK v10 <| buildK [.int .i64 0, .str [], .int .i64 0, .bool false, .int .i64 0, .str [], .nilSlc, .nilSlc] [(0, 1, (.int .i64 4)), (1, 1, v12)] fun v13 => call (.func 217) [x4, v13, v11] h <| pz (goneQ [v11] K) fun v14 h => storeNK h 9 x3 v14 fun h => B5 x0 x2 x3 h)
noncomputable def b246_5 (call : CallFn) (n : Nat) (B5 : F3) (x0 x2 x3 : AV) (h : AHeap) (K : Kont) : Bool :=
  call (.func 120) [x0] h <| pz K fun v5 h => call (.func 23) [x0, (.str [46])] h <| pz K fun v6 h => p246_12001 call n B5 x0 x2 x3 v5 v6 h K
noncomputable def l246_5 (call : CallFn) (n : Nat) : Nat → AV → AV → AV → AHeap → Kont → Bool :=
  @Nat.rec (fun _ => AV → AV → AV → AHeap → Kont → Bool) (fun _ _ _ _ _ => false) (fun _ ih x0 x2 x3 h K => b246_5 call n (fun x0 x2 x3 h => ih x0 x2 x3 h K) x0 x2 x3 h K)
noncomputable def p246_4001 (call : CallFn) (n : Nat) (x0 x2 x6 : AV) (h : AHeap) (K : Kont) : Bool :=
  allocK h [.int .i64 0, .str [], .int .i64 0, .bool false, .int .i64 0, .str [], .nilSlc, .nilSlc, .int .i64 0] 9 fun v3 h => storeNK h 9 v3 x6 fun h => l246_5 call n n x0 x2 v3 h K
noncomputable def s246 (call : CallFn) (n : Nat) (x0 : AV) (h : AHeap) (K : Kont) : Bool :=
  allocK h [.int .i64 0, .str [], .int .i64 0, .bool false, .int .i64 0, .str [], .nilSlc, .nilSlc, .int .i64 0] 9 fun v1 h => call (.func 262) [x0] h <| pz K fun v2 h => p246_4001 call n x0 v1 v2 h K

/-! ### 254 proctor/print.commas[proctor/api.Bind] -/
noncomputable def p254_20 (call : CallFn) (n : Nat) (B3 : F5) (x0 x2 x7 x8 x9 x10 : AV) (h : AHeap) (K : Kont) : Bool :=
  loadGK h 2 x7 fun v10 => callV call x2 [v10] h <| pz K fun v11 h => addK x10 (.int .i64 1) fun v12 => B3 x0 x2 x8 x9 v12 h
noncomputable def b254_3 (call : CallFn) (n : Nat) (B3 : F5) (x0 x2 x8 x9 x10 : AV) (h : AHeap) (K : Kont) : Bool :=
  lssK x10 x9 fun v2 => condK v2 (iadrK h 2 x8 x10 fun v3 => loadGK h 2 v3 fun v4 => allocK h [.str [], .str []] 2 fun v5 h => storeNK h 2 v5 v4 fun h => gtrK x10 (.int .i64 0) fun v7 => condK v7 (optPK (bsliceV h 1 1 [.str []] [(0, (.str [44]))]) fun v8 h => call (.func 130) [x0, v8] h <| pz K fun v9 h => p254_20 call n B3 x0 x2 v5 x8 x9 x10 h K) (p254_20 call n B3 x0 x2 v5 x8 x9 x10 h K)) (K (.tup []) h)
noncomputable def l254_3 (call : CallFn) (n : Nat) : Nat → AV → AV → AV → AV → AV → AHeap → Kont → Bool :=
  @Nat.rec (fun _ => AV → AV → AV → AV → AV → AHeap → Kont → Bool) (fun _ _ _ _ _ _ _ => false) (fun _ ih x0 x2 x8 x9 x10 h K => b254_3 call n (fun x0 x2 x8 x9 x10 h => ih x0 x2 x8 x9 x10 h K) x0 x2 x8 x9 x10 h K)
noncomputable def s254 (call : CallFn) (n : Nat) (x0 x1 x2 : AV) (h : AHeap) (K : Kont) : Bool :=
  lenK x1 fun v1 => l254_3 call n n x0 x2 x1 v1 (.int .i64 0) h K

/-! ### 255 (*proctor/print.writer).pattern$1 -/
noncomputable def s255 (call : CallFn) (n : Nat) (x0 x1 : AV) (h : AHeap) (K : Kont) : Bool :=
  optPK (boxA h (none) 2 x0) fun v1 h => loadK h x1 fun v2 => fadrK 0 v1 fun v3 => loadK h v3 fun v4 => addK (.str [36]) v4 fun v5 => fadrK 1 v1 fun v6 => loadK h v6 fun v7 => optPK (bsliceV h 3 1 [.str []] [(0, v5), (1, (.str [58])), (2, v7)]) fun v8 h => call (.func 130) [v2, v8] h <| pz K fun v9 h => K (.tup []) h

/-! ### 256 (*proctor/print.writer).exprs -/
noncomputable def s256 (call : CallFn) (n : Nat) (x0 x1 : AV) (h : AHeap) (K : Kont) : Bool :=
  boxK h x0 fun v1 h => loadK h v1 fun v2 => optK (some (.fn (.func 266) [] [v1])) fun v3 => call (.func 265) [v2, x1, v3] h <| pz K fun v4 h => K (.tup []) h

/-! ### 257 (*proctor/print.writer).literal -/
noncomputable def p257_13001 (call : CallFn) (n : Nat) (x15 x18 : AV) (h : AHeap) (K : Kont) : Bool :=
  optPK (bsliceV h 1 1 [.str []] [(0, x18)]) fun v11 h => call (.func 130) [x15, v11] h <| pz K fun v12 h => K (.tup []) h
noncomputable def p257_17001 (call : CallFn) (n : Nat) (x23 x26 : AV) (h : AHeap) (K : Kont) : Bool :=
  optPK (bsliceV h 1 1 [.str []] [(0, x26)]) fun v17 h => call (.func 130) [x23, v17] h <| pz K fun v18 h => K (.tup []) h
noncomputable def p257_21001 (call : CallFn) (n : Nat) (x31 x34 : AV) (h : AHeap) (K : Kont) : Bool :=
  optPK (bsliceV h 1 1 [.str []] [(0, x34)]) fun v23 h => call (.func 130) [x31, v23] h <| pz K fun v24 h => K (.tup []) h
noncomputable def s257 (call : CallFn) (n : Nat) (x0 x1 : AV) (h : AHeap) (K : Kont) : Bool :=
  optPK (boxA h (none) 5 x1) fun v1 h => fadrK 0 v1 fun v2 => loadK h v2 fun v3 => eqlK v3 (.int .i64 0) fun v4 => condK v4 (optPK (bsliceV h 1 1 [.str []] [(0, (.str [110, 117, 108, 108]))]) fun v5 h => call (.func 130) [x0, v5] h <| pz K fun v6 h => K (.tup []) h) (eqlK v3 (.int .i64 1) fun v7 => condK v7 (fadrK 1 v1 fun v8 => loadK h v8 fun v9 => call (.func 267) [v9] h <| pz K fun v10 h => p257_13001 call n x0 v10 h K) (eqlK v3 (.int .i64 2) fun v13 => condK v13 (fadrK 2 v1 fun v14 => loadK h v14 fun v15 => call (.func 133) [v15, (.int .i64 10)] h <| pz K fun v16 h => p257_17001 call n x0 v16 h K) (eqlK v3 (.int .i64 3) fun v19 => condK v19 (fadrK 3 v1 fun v20 => loadK h v20 fun v21 => call (.func 131) [v21] h <| pz K fun v22 h => p257_21001 call n x0 v22 h K) (buildK [] [] fun v25 => optK (mkifA 136 v25) fun v26 => pncK K v26 h))))

/-! ### 258 slices.EqualFunc[[]proctor/api.Value,[]proctor/api.Value,proctor/api.Value,proctor/api.Value] -/
noncomputable def p258_29001 (call : CallFn) (n : Nat) (B14 : F5) (x1 x2 x15 x16 x17 x29 : AV) (h : AHeap) (K : Kont) : Bool :=
  notK x29 fun v17 => condK v17 (K (.bool false) h) (addK x17 (.int .i64 1) fun v18 => B14 x1 x2 x15 x16 v18 h)
noncomputable def b258_14 (call : CallFn) (n : Nat) (B14 : F5) (x1 x2 x15 x16 x17 : AV) (h : AHeap) (K : Kont) : Bool :=
  lssK x17 x16 fun v5 => condK v5 (iadrK h 5 x15 x17 fun v6 => loadGK h 5 v6 fun v7 => allocK h [.int .i64 0, .bool false, .int .i64 0, .str [], .nilSlc] 5 fun v8 h => storeNK h 5 v8 v7 fun h => iadrK h 5 x1 x17 fun v10 => loadGK h 5 v10 fun v11 => allocK h [.int .i64 0, .bool false, .int .i64 0, .str [], .nilSlc] 5 fun v12 h => storeNK h 5 v12 v11 fun h => loadGK h 5 v8 fun v14 => loadGK h 5 v12 fun v15 => callV call x2 [v14, v15] h <| pz K fun v16 h => p258_29001 call n B14 x1 x2 x15 x16 x17 v16 h K) (K (.bool true) h)
noncomputable def l258_14 (call : CallFn) (n : Nat) : Nat → AV → AV → AV → AV → AV → AHeap → Kont → Bool :=
  @Nat.rec (fun _ => AV → AV → AV → AV → AV → AHeap → Kont → Bool) (fun _ _ _ _ _ _ _ => false) (fun _ ih x1 x2 x15 x16 x17 h K => b258_14 call n (fun x1 x2 x15 x16 x17 h => ih x1 x2 x15 x16 x17 h K) x1 x2 x15 x16 x17 h K)
noncomputable def p258_10 (call : CallFn) (n : Nat) (x0 x1 x2 : AV) (h : AHeap) (K : Kont) : Bool :=
  lenK x0 fun v4 => l258_14 call n n x1 x2 x0 v4 (.int .i64 0) h K
noncomputable def s258 (call : CallFn) (n : Nat) (x0 x1 x2 : AV) (h : AHeap) (K : Kont) : Bool :=
  lenK x0 fun v1 => lenK x1 fun v2 => neqK v1 v2 fun v3 => condK v3 (K (.bool false) h) (p258_10 call n x0 x1 x2 h K)

/-! ### 259 slices.Grow[[]proctor/api.Field,proctor/api.Field] -/
noncomputable def p259_8 (call : CallFn) (n : Nat) (x0 x1 : AV) (h : AHeap) (K : Kont) : Bool :=
  optK (capA x0) fun v4 => lenK x0 fun v5 => subK v4 v5 fun v6 => subK x1 v6 fun v7 => gtrK v7 (.int .i64 0) fun v8 => condK v8 (optK (capA x0) fun v9 => optK (sliceV h 3 x0 none (some v9) none) fun v10 => optPK (appzA h 3 40 [.str [], .int .i64 0, .str []] v10 v7) fun v11 h => lenK x0 fun v12 => optK (sliceV h 3 v11 none (some v12) none) fun v13 => K v13 h) (K x0 h)
noncomputable def s259 (call : CallFn) (n : Nat) (x0 x1 : AV) (h : AHeap) (K : Kont) : Bool :=
  lssK x1 (.int .i64 0) fun v1 => condK v1 (optK (mkifA 9 (.str [99, 97, 110, 110, 111, 116, 32, 98, 101, 32, 110, 101, 103, 97, 116, 105, 118, 101])) fun v2 => pncK K v2 h) (p259_8 call n x0 x1 h K)

/-! ### 260 internal/stringslite.HasPrefix -/
noncomputable def s260 (call : CallFn) (n : Nat) (x0 x1 : AV) (h : AHeap) (K : Kont) : Bool :=
  lenSK x0 fun v1 => lenSK x1 fun v2 => geqK v1 v2 fun v3 => gK v3 true (optK (some x0)) fun v4 => gK v3 true (optK (some x1)) fun v5 => gK v3 true (lenSK v5) fun v6 => gK v3 true (slsK v4 none (some v6)) fun v7 => gK v3 true (optK (some x1)) fun v8 => gK v3 true (eqlK v7 v8) fun v9 => pickK v3 v9 (.bool false) fun v10 => K v10 h

/-! ### 262 (*proctor/parse.parser).atom -/
noncomputable def p262_17001 (call : CallFn) (n : Nat) (x2 x39 : AV) (h : AHeap) (K : Kont) : Bool :=
  storeNK h 9 x2 x39 fun h => optR (resV h [(x2, some (true, 9))]) h K
noncomputable def p262_11001 (call : CallFn) (n : Nat) (x1 x2 x23 : AV) (h : AHeap) (K : Kont) : Bool :=
  extK 0 x23 fun v15 => extK 1 x23 fun v16 => loadK h x1 fun v17 => optK (eqV h false .ifn v16 .nilIf) fun v18 => call (.func 74) [v17, v18] h <| pz K fun v19 h => loadK h x1 fun v20 => nilckK v20 fun v21 => fadrK 1 v21 fun v22 => loadK h v22 fun v23 => addK v23 (.int .i64 1) fun v24 => nilckK v20 fun v25 => fadrK 1 v25 fun v26 => storeK h v26 v24 fun h => buildK [.int .i64 0, .bool false, .int .i64 0, .str [], .nilSlc] [(0, 1, (.int .i64 2)), (2, 1, v15)] fun v28 => call (.func 268) [v28] h <| pz K fun v29 h => p262_17001 call n x2 v29 h K
noncomputable def p262_23002 (call : CallFn) (n : Nat) (x2 x47 : AV) (h : AHeap) (K : Kont) : Bool :=
  storeNK h 9 x2 x47 fun h => optR (resV h [(x2, some (true, 9))]) h K
noncomputable def p262_23001 (call : CallFn) (n : Nat) (x2 x45 : AV) (h : AHeap) (K : Kont) : Bool :=
  buildK [.int .i64 0, .bool false, .int .i64 0, .str [], .nilSlc] [(0, 1, (.int .i64 3)), (3, 1, x45)] fun v36 => call (.func 268) [v36] h <| pz K fun v37 h => p262_23002 call n x2 v37 h K
noncomputable def p262_33001 (call : CallFn) (n : Nat) (x2 x57 : AV) (h : AHeap) (K : Kont) : Bool :=
  storeNK h 9 x2 x57 fun h => optR (resV h [(x2, some (true, 9))]) h K
noncomputable def p262_39001 (call : CallFn) (n : Nat) (x2 x62 : AV) (h : AHeap) (K : Kont) : Bool :=
  storeNK h 9 x2 x62 fun h => optR (resV h [(x2, some (true, 9))]) h K
noncomputable def p262_45001 (call : CallFn) (n : Nat) (x2 x68 : AV) (h : AHeap) (K : Kont) : Bool :=
  buildK [.int .i64 0, .str [], .int .i64 0, .bool false, .int .i64 0, .str [], .nilSlc, .nilSlc] [(0, 1, (.int .i64 2)), (1, 1, x68)] fun v57 => buildK [.int .i64 0, .str [], .int .i64 0, .bool false, .int .i64 0, .str [], .nilSlc, .nilSlc, .int .i64 0] [(0, 8, v57), (8, 1, (.int .i64 1))] fun v58 => storeNK h 9 x2 v58 fun h => optR (resV h [(x2, some (true, 9))]) h K
noncomputable def p262_53001 (call : CallFn) (n : Nat) (x1 x2 x77 : AV) (h : AHeap) (K : Kont) : Bool :=
  allocK h [.int .i64 0, .str [], .int .i64 0, .bool false, .int .i64 0, .str [], .nilSlc, .nilSlc, .int .i64 0] 9 fun v66 h => storeNK h 9 v66 x77 fun h => loadK h x1 fun v68 => call (.func 80) [v68, (.str [41])] h <| pz K fun v69 h => loadGK h 9 v66 fun v70 => storeNK h 9 x2 v70 fun h => optR (resV h [(x2, some (true, 9))]) h K
noncomputable def p262_69001 (call : CallFn) (n : Nat) (x2 x92 : AV) (h : AHeap) (K : Kont) : Bool :=
  storeNK h 9 x2 x92 fun h => optR (resV h [(x2, some (true, 9))]) h K
noncomputable def p262_81001 (call : CallFn) (n : Nat) (x2 x106 : AV) (h : AHeap) (K : Kont) : Bool :=
  storeNK h 9 x2 x106 fun h => optR (resV h [(x2, some (true, 9))]) h K
noncomputable def p262_77001 (call : CallFn) (n : Nat) (x1 x2 x3 x99 : AV) (h : AHeap) (K : Kont) : Bool :=
  allocK h [.int .i64 0, .str [], .int .i64 0, .bool false, .int .i64 0, .str [], .nilSlc, .nilSlc, .int .i64 0] 9 fun v90 h => storeNK h 9 v90 x99 fun h => loadK h x1 fun v92 => call (.func 80) [v92, (.str [41])] h <| pz K fun v93 h => buildK [.int .i64 0, .str [], .int .i64 0, .bool false, .int .i64 0, .str [], .nilSlc, .nilSlc] [(0, 1, (.int .i64 21))] fun v94 => loadGK h 9 v90 fun v95 => optPK (bsliceV h 1 9 [.int .i64 0, .str [], .int .i64 0, .bool false, .int .i64 0, .str [], .nilSlc, .nilSlc, .int .i64 0] [(0, v95)]) fun v96 h => call (.func 217) [x3, v94, v96] h <| pz K fun v97 h => p262_81001 call n x2 v97 h K
noncomputable def p262_97001 (call : CallFn) (n : Nat) (x2 x126 : AV) (h : AHeap) (K : Kont) : Bool :=
  storeNK h 9 x2 x126 fun h => optR (resV h [(x2, some (true, 9))]) h K
noncomputable def p262_93001 (call : CallFn) (n : Nat) (x1 x2 x3 x10 x118 : AV) (h : AHeap) (K : Kont) : Bool :=
  allocK h [.int .i64 0, .str [], .int .i64 0, .bool false, .int .i64 0, .str [], .nilSlc, .nilSlc, .int .i64 0] 9 fun v112 h => storeNK h 9 v112 x118 fun h => loadK h x1 fun v114 => call (.func 80) [v114, (.str [41])] h <| pz K fun v115 h => buildK [.int .i64 0, .str [], .int .i64 0, .bool false, .int .i64 0, .str [], .nilSlc, .nilSlc] [(0, 1, (.int .i64 22))] fun v116 => loadGK h 9 x10 fun v117 => loadGK h 9 v112 fun v118 => optPK (bsliceV h 2 9 [.int .i64 0, .str [], .int .i64 0, .bool false, .int .i64 0, .str [], .nilSlc, .nilSlc, .int .i64 0] [(0, v117), (1, v118)]) fun v119 h => call (.func 217) [x3, v116, v119] h <| pz K fun v120 h => p262_97001 call n x2 v120 h K
noncomputable def p262_89001 (call : CallFn) (n : Nat) (x1 x2 x3 x113 : AV) (h : AHeap) (K : Kont) : Bool :=
  allocK h [.int .i64 0, .str [], .int .i64 0, .bool false, .int .i64 0, .str [], .nilSlc, .nilSlc, .int .i64 0] 9 fun v105 h => storeNK h 9 v105 x113 fun h => loadK h x1 fun v107 => optPK (bsliceV h 1 1 [.str []] [(0, (.str [44]))]) fun v108 h => call (.func 26) [v107, v108] h <| pz K fun v109 h => loadK h x1 fun v110 => call (.func 179) [v110, (.int .i64 0)] h <| pz K fun v111 h => p262_93001 call n x1 x2 x3 v105 v111 h K
noncomputable def p262_101001 (call : CallFn) (n : Nat) (x2 x128 : AV) (h : AHeap) (K : Kont) : Bool :=
  buildK [.int .i64 0, .str [], .int .i64 0, .bool false, .int .i64 0, .str [], .nilSlc, .nilSlc] [(0, 1, (.int .i64 3)), (1, 1, x128)] fun v124 => buildK [.int .i64 0, .str [], .int .i64 0, .bool false, .int .i64 0, .str [], .nilSlc, .nilSlc, .int .i64 0] [(0, 8, v124), (8, 1, (.int .i64 1))] fun v125 => storeNK h 9 x2 v125 fun h => optR (resV h [(x2, some (true, 9))]) h K
set_option maxRecDepth 100000 in
noncomputable def p262_30 (call : CallFn) (n : Nat) (x1 x2 x3 x4 x48 : AV) (h : AHeap) (K : Kont) : Bool :=
  condK x48 (fadrK 1 x4 fun v41 => loadK h v41 fun v42 => eqlK v42 (.str [116, 114, 117, 101]) fun v43 => buildK [.int .i64 0, .bool false, .int .i64 0, .str [], .nilSlc] [(0, 1, (.int .i64 1)), (1, 1, v43)] fun v44 => call (.func 268) [v44] h <| pz K fun v45 h => p262_33001 call n x2 v45 h K) (loadK h x1 fun v47 => call (.func 23) [v47, (.str [110, 117, 108, 108])] h <| pz K fun v48 h => condK v48 (buildK [.int .i64 0, .bool false, .int .i64 0, .str [], .nilSlc] [] fun v49 => call (.func 268) [v49] h <| pz K fun v50 h => p262_39001 call n x2 v50 h K) (fadrK 0 x4 fun v52 => loadK h v52 fun v53 => eqlK v53 (.int .i64 1) fun v54 => condK v54 (loadK h x1 fun v55 => call (.func 87) [v55] h <| pz K fun v56 h => p262_45001 call n x2 v56 h K) (loadK h x1 fun v60 => call (.func 75) [v60, (.int .i64 0), (.str [40])] h <| pz K fun v61 h => condK v61 (loadK h x1 fun v62 => call (.func 77) [v62, (.str [40])] h <| pz K fun v63 h => loadK h x1 fun v64 => call (.func 179) [v64, (.int .i64 0)] h <| pz K fun v65 h => p262_53001 call n x1 x2 v65 h K) (loadK h x1 fun v72 => call (.func 75) [v72, (.int .i64 0), (.str [91])] h <| pz K fun v73 h => condK v73 (allocK h [.nilSlc] 1 fun v74 h => loadK h x1 fun v75 => call (.func 77) [v75, (.str [91])] h <| pz K fun v76 h => loadK h x1 fun v77 => optK (some (.fn (.func 269) [] [v74, x1])) fun v78 => call (.func 85) [v77, (.str [93]), v78] h <| pz K fun v79 h => buildK [.int .i64 0, .str [], .int .i64 0, .bool false, .int .i64 0, .str [], .nilSlc, .nilSlc] [(0, 1, (.int .i64 5))] fun v80 => loadK h v74 fun v81 => call (.func 217) [x3, v80, v81] h <| pz K fun v82 h => p262_69001 call n x2 v82 h K) (loadK h x1 fun v84 => call (.func 23) [v84, (.str [115, 105, 122, 101])] h <| pz K fun v85 h => condK v85 (loadK h x1 fun v86 => call (.func 77) [v86, (.str [40])] h <| pz K fun v87 h => loadK h x1 fun v88 => call (.func 179) [v88, (.int .i64 0)] h <| pz K fun v89 h => p262_77001 call n x1 x2 x3 v89 h K) (loadK h x1 fun v99 => call (.func 23) [v99, (.str [104, 97, 115])] h <| pz K fun v100 h => condK v100 (loadK h x1 fun v101 => call (.func 77) [v101, (.str [40])] h <| pz K fun v102 h => loadK h x1 fun v103 => call (.func 179) [v103, (.int .i64 0)] h <| pz K fun v104 h => p262_89001 call n x1 x2 x3 v104 h K) (loadK h x1 fun v122 => call (.func 76) [v122] h <| pz K fun v123 h => p262_101001 call n x2 v123 h K)))))))
noncomputable def s262 (call : CallFn) (n : Nat) (x0 : AV) (h : AHeap) (K : Kont) : Bool :=
  boxK h x0 fun v1 h => allocK h [.int .i64 0, .str [], .int .i64 0, .bool false, .int .i64 0, .str [], .nilSlc, .nilSlc, .int .i64 0] 9 fun v2 h => loadK h v1 fun v3 => loadK h v1 fun v4 => allocK h [.int .i64 0, .str [], .int .i64 0, .int .i64 0] 4 fun v5 h => loadK h v1 <| sameK v3 <| loadK h v1 <| sameK v4 <| call (.func 120) [v3] h <| pz (goneQ [v5] K) fun v6 h => loadK h v1 <| sameK v4 <| call (.func 121) [v4, (.int .i64 0)] h <| pz (goneQ [v5] K) fun v7 h => storeNK h 4 v5 v7 fun h => fadrK 0 v5 fun v9 => loadK h v9 fun v10 => eqlK v10 (.int .i64 2) fun v11 => condK v11 (fadrK 1 v5 fun v12 => loadK h v12 fun v13 => call (.func 126) [v13, (.int .i64 10), (.int .i64 64)] h <| pz K fun v14 h => p262_11001 call n v1 v2 v14 h K) (fadrK 0 v5 fun v31 => loadK h v31 fun v32 => eqlK v32 (.int .i64 3) fun v33 => condK v33 (loadK h v1 fun v34 => call (.func 123) [v34] h <| pz K fun v35 h => p262_23001 call n v2 v35 h K) (loadK h v1 fun v39 => call (.func 23) [v39, (.str [116, 114, 117, 101])] h <| pz K fun v40 h => condK v40 (p262_30 call n v1 v2 v6 v5 v40 h K) (loadK h v1 fun v127 => call (.func 23) [v127, (.str [102, 97, 108, 115, 101])] h <| pz K fun v128 h => p262_30 call n v1 v2 v6 v5 v128 h K)))

/-! ### 265 proctor/print.commas[proctor/api.Expr] -/
noncomputable def p265_20 (call : CallFn) (n : Nat) (B3 : F5) (x0 x2 x7 x8 x9 x10 : AV) (h : AHeap) (K : Kont) : Bool :=
  loadGK h 8 x7 fun v10 => callV call x2 [v10] h <| pz K fun v11 h => addK x10 (.int .i64 1) fun v12 => B3 x0 x2 x8 x9 v12 h
noncomputable def b265_3 (call : CallFn) (n : Nat) (B3 : F5) (x0 x2 x8 x9 x10 : AV) (h : AHeap) (K : Kont) : Bool :=
  lssK x10 x9 fun v2 => condK v2 (iadrK h 8 x8 x10 fun v3 => loadGK h 8 v3 fun v4 => allocK h [.int .i64 0, .str [], .int .i64 0, .bool false, .int .i64 0, .str [], .nilSlc, .nilSlc] 8 fun v5 h => storeNK h 8 v5 v4 fun h => gtrK x10 (.int .i64 0) fun v7 => condK v7 (optPK (bsliceV h 1 1 [.str []] [(0, (.str [44]))]) fun v8 h => call (.func 130) [x0, v8] h <| pz K fun v9 h => p265_20 call n B3 x0 x2 v5 x8 x9 x10 h K) (p265_20 call n B3 x0 x2 v5 x8 x9 x10 h K)) (K (.tup []) h)
noncomputable def l265_3 (call : CallFn) (n : Nat) : Nat → AV → AV → AV → AV → AV → AHeap → Kont → Bool :=
  @Nat.rec (fun _ => AV → AV → AV → AV → AV → AHeap → Kont → Bool) (fun _ _ _ _ _ _ _ => false) (fun _ ih x0 x2 x8 x9 x10 h K => b265_3 call n (fun x0 x2 x8 x9 x10 h => ih x0 x2 x8 x9 x10 h K) x0 x2 x8 x9 x10 h K)
noncomputable def s265 (call : CallFn) (n : Nat) (x0 x1 x2 : AV) (h : AHeap) (K : Kont) : Bool :=
  lenK x1 fun v1 => l265_3 call n n x0 x2 x1 v1 (.int .i64 0) h K

/-! ### 266 (*proctor/print.writer).exprs$1 -/
noncomputable def s266 (call : CallFn) (n : Nat) (x0 x1 : AV) (h : AHeap) (K : Kont) : Bool :=
  optPK (boxA h (none) 8 x0) fun v1 h => loadK h x1 fun v2 => loadGK h 8 v1 fun v3 => call (.func 186) [v2, v3, (.int .i64 0)] h <| pz K fun v4 h => K (.tup []) h

/-! ### 267 strconv.FormatBool -/
noncomputable def s267 (call : CallFn) (n : Nat) (x0 : AV) (h : AHeap) (K : Kont) : Bool :=
  call (.func 270) [x0] h <| pz K fun v1 h => K v1 h

/-! ### 268 proctor/parse.literal -/
noncomputable def s268 (call : CallFn) (n : Nat) (x0 : AV) (h : AHeap) (K : Kont) : Bool :=
  optPK (boxA h (none) 5 x0) fun v1 h => allocK h [.int .i64 0, .str [], .int .i64 0, .bool false, .int .i64 0, .str [], .nilSlc, .nilSlc, .int .i64 0] 9 fun v2 h => loadGK h 5 v1 fun v3 => buildK [.int .i64 0, .str [], .int .i64 0, .bool false, .int .i64 0, .str [], .nilSlc, .nilSlc] [(0, 1, (.int .i64 1)), (2, 5, v3)] fun v4 => buildK [.int .i64 0, .str [], .int .i64 0, .bool false, .int .i64 0, .str [], .nilSlc, .nilSlc, .int .i64 0] [(0, 8, v4), (8, 1, (.int .i64 1))] fun v5 => storeNK h 9 v2 v5 fun h => optR (resV h [(v2, some (true, 9))]) h K

/-! ### 269 (*proctor/parse.parser).atom$1 -/
noncomputable def s269 (call : CallFn) (n : Nat) (x0 x1 : AV) (h : AHeap) (K : Kont) : Bool :=
  loadK h x0 fun v1 => loadK h x1 fun v2 => call (.func 179) [v2, (.int .i64 0)] h <| pz K fun v3 h => loadK h x0 <| sameK v1 <| optPK (bsliceV h 1 9 [.int .i64 0, .str [], .int .i64 0, .bool false, .int .i64 0, .str [], .nilSlc, .nilSlc, .int .i64 0] [(0, v3)]) fun v4 h => loadK h x0 <| sameK v1 <| loadK h x1 <| sameK v2 <| appK h 9 120 v1 v4 fun v5 h => storeK h x0 v5 fun h => K (.tup []) h

/-! ### 270 internal/strconv.FormatBool -/
noncomputable def s270 (call : CallFn) (n : Nat) (x0 : AV) (h : AHeap) (K : Kont) : Bool :=
  condK x0 (K (.str [116, 114, 117, 101]) h) (K (.str [102, 97, 108, 115, 101]) h)

end Go.Proofs.YtnapiobolehfhaaGreatDoor
