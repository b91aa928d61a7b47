/-
  The functions as functions of Lean (printed by wip/tools/gen2.py).
-/
import Derived.Test.YtnddpaeagljnbaaGreatDoorXS0
namespace Go.Proofs.YtnddpaeagljnbaaGreatDoor
open Go.Ab
set_option linter.unusedVariables false

/-! ### 181 proctor/print.sameRule -/
noncomputable def p181_4002 (call : CallFn) (n : Nat) (x52 x57 : AV) (h : AHeap) (K : Kont) : Bool :=
  pickK x52 x57 (.bool false) fun v49 => K v49 h
noncomputable def p181_4001 (call : CallFn) (n : Nat) (x2 x3 x45 x50 : AV) (h : AHeap) (K : Kont) : Bool :=
  pickK x45 x50 (.bool false) fun v43 => gK v43 true (fadrK 7 x2) fun v44 => gK v43 true (loadK h v44) fun v45 => gK v43 true (fadrK 7 x3) fun v46 => gK v43 true (loadK h v46) fun v47 => gP v43 true (fun k => call (.func 238) [v45, v47, (.fn (.func 239) [] [])] h (pz K k)) h fun v48 h => p181_4002 call n v43 v48 h K
set_option maxRecDepth 100000 in
noncomputable def s181 (call : CallFn) (n : Nat) (x0 x1 : AV) (h : AHeap) (K : Kont) : Bool :=
  optPK (boxA h (none) 8 x0) fun v1 h => optPK (boxA h (none) 8 x1) fun v2 h => fadrK 0 v1 fun v3 => loadK h v3 fun v4 => fadrK 0 v2 fun v5 => loadK h v5 fun v6 => eqlK v4 v6 fun v7 => gK v7 true (fadrK 1 v1) fun v8 => gK v7 true (loadK h v8) fun v9 => gK v7 true (fadrK 1 v2) fun v10 => gK v7 true (loadK h v10) fun v11 => gK v7 true (eqlK v9 v11) fun v12 => pickK v7 v12 (.bool false) fun v13 => gK v13 true (fadrK 2 v1) fun v14 => gK v13 true (loadK h v14) fun v15 => gK v13 true (fadrK 2 v2) fun v16 => gK v13 true (loadK h v16) fun v17 => gK v13 true (eqlK v15 v17) fun v18 => pickK v13 v18 (.bool false) fun v19 => gK v19 true (fadrK 3 v1) fun v20 => gK v19 true (loadK h v20) fun v21 => gK v19 true (fadrK 3 v2) fun v22 => gK v19 true (loadK h v22) fun v23 => gK v19 true (eqlK v21 v23) fun v24 => pickK v19 v24 (.bool false) fun v25 => gK v25 true (fadrK 4 v1) fun v26 => gK v25 true (loadK h v26) fun v27 => gK v25 true (fadrK 4 v2) fun v28 => gK v25 true (loadK h v28) fun v29 => gK v25 true (optK (eqV h false .bool v27 v29)) fun v30 => pickK v25 v30 (.bool false) fun v31 => gK v31 true (fadrK 5 v1) fun v32 => gK v31 true (loadK h v32) fun v33 => gK v31 true (fadrK 5 v2) fun v34 => gK v31 true (loadK h v34) fun v35 => gK v31 true (optK (eqV h false .bool v33 v35)) fun v36 => pickK v31 v36 (.bool false) fun v37 => gK v37 true (fadrK 6 v1) fun v38 => gK v37 true (loadK h v38) fun v39 => gK v37 true (fadrK 6 v2) fun v40 => gK v37 true (loadK h v40) fun v41 => gP v37 true (fun k => call (.func 237) [v39, v41] h (pz K k)) h fun v42 h => p181_4001 call n v1 v2 v37 v42 h K

/-! ### 182 slices.EqualFunc[[]proctor/api.Query,[]proctor/api.Query,proctor/api.Query,proctor/api.Query] -/
noncomputable def p182_29001 (call : CallFn) (n : Nat) (B14 : F5) (x1 x2 x15 x16 x17 x29 : AV) (h : AHeap) (K : Kont) : Bool :=
  notK x29 fun v17 => condK v17 (K (.bool false) h) (addK x17 (.int .i64 1) fun v18 => B14 x1 x2 x15 x16 v18 h)
noncomputable def b182_14 (call : CallFn) (n : Nat) (B14 : F5) (x1 x2 x15 x16 x17 : AV) (h : AHeap) (K : Kont) : Bool :=
  lssK x17 x16 fun v5 => condK v5 (iadrK h 3 x15 x17 fun v6 => loadGK h 3 v6 fun v7 => allocK h [.str [], .nilSlc, .nilSlc] 3 fun v8 h => storeNK h 3 v8 v7 fun h => iadrK h 3 x1 x17 fun v10 => loadGK h 3 v10 fun v11 => allocK h [.str [], .nilSlc, .nilSlc] 3 fun v12 h => storeNK h 3 v12 v11 fun h => loadGK h 3 v8 fun v14 => loadGK h 3 v12 fun v15 => callV call x2 [v14, v15] h <| pz K fun v16 h => p182_29001 call n B14 x1 x2 x15 x16 x17 v16 h K) (K (.bool true) h)
noncomputable def l182_14 (call : CallFn) (n : Nat) : Nat → AV → AV → AV → AV → AV → AHeap → Kont → Bool :=
  @Nat.rec (fun _ => AV → AV → AV → AV → AV → AHeap → Kont → Bool) (fun _ _ _ _ _ _ _ => false) (fun _ ih x1 x2 x15 x16 x17 h K => b182_14 call n (fun x1 x2 x15 x16 x17 h => ih x1 x2 x15 x16 x17 h K) x1 x2 x15 x16 x17 h K)
noncomputable def p182_10 (call : CallFn) (n : Nat) (x0 x1 x2 : AV) (h : AHeap) (K : Kont) : Bool :=
  lenK x0 fun v4 => l182_14 call n n x1 x2 x0 v4 (.int .i64 0) h K
noncomputable def s182 (call : CallFn) (n : Nat) (x0 x1 x2 : AV) (h : AHeap) (K : Kont) : Bool :=
  lenK x0 fun v1 => lenK x1 fun v2 => neqK v1 v2 fun v3 => condK v3 (K (.bool false) h) (p182_10 call n x0 x1 x2 h K)

/-! ### 184 proctor/check.need -/
noncomputable def s184 (call : CallFn) (n : Nat) (x0 : AV) (h : AHeap) (K : Kont) : Bool :=
  notK x0 fun v1 => condK v1 (buildK [] [] fun v2 => optK (mkifA 291 v2) fun v3 => pncK K v3 h) (K (.tup []) h)

/-! ### 186 maps.Clone[proctor/check.scope,string,proctor/check.state] -/
noncomputable def p186_12001 (call : CallFn) (n : Nat) (x7 : AV) (h : AHeap) (K : Kont) : Bool :=
  optK (tasA 218 false .nilMap x7) fun v4 => K v4 h
noncomputable def s186 (call : CallFn) (n : Nat) (x0 : AV) (h : AHeap) (K : Kont) : Bool :=
  optK (eqV h false .map x0 .nilMap) fun v1 => condK v1 (K .nilMap h) (optK (mkifA 218 x0) fun v2 => call (.func 241) [v2] h <| pz K fun v3 h => p186_12001 call n v3 h K)

/-! ### 187 (*proctor/check.checker).cond -/
noncomputable def p187_34002 (call : CallFn) (n : Nat) (x2 x4 x71 x75 : AV) (h : AHeap) (K : Kont) : Bool :=
  gK x71 true (notK x75) fun v52 => pickK x71 v52 (.bool false) fun v53 => call (.func 184) [v53] h <| pz K fun v54 h => fadrK 1 x4 fun v55 => loadK h v55 fun v56 => call (.func 107) [x2, v56] h <| pz K fun v57 h => K (.tup []) h
noncomputable def p187_34001 (call : CallFn) (n : Nat) (x2 x4 x6 x70 : AV) (h : AHeap) (K : Kont) : Bool :=
  gK x70 true (optK (some x6)) fun v48 => gK x70 true (fadrK 1 x4) fun v49 => gK x70 true (loadK h v49) fun v50 => gP x70 true (fun k => call (.func 106) [v48, v50] h (pz K k)) h fun v51 h => p187_34002 call n x2 x4 x70 v51 h K
noncomputable def p187_78 (call : CallFn) (n : Nat) (B62 : F4) (x2 x124 x125 x126 : AV) (h : AHeap) (K : Kont) : Bool :=
  addK x126 (.int .i64 1) fun v109 => B62 x2 x124 x125 v109 h
noncomputable def b187_62 (call : CallFn) (n : Nat) (B62 : F4) (x2 x124 x125 x126 : AV) (h : AHeap) (K : Kont) : Bool :=
  lssK x126 x125 fun v97 => condK v97 (iadrK h 9 x124 x126 fun v98 => loadGK h 9 v98 fun v99 => allocK h [.str [], .int .i64 0, .str [], .int .i64 0, .bool false, .int .i64 0, .str [], .nilSlc, .nilSlc] 9 fun v100 h => storeNK h 9 v100 v99 fun h => fadrK 1 v100 fun v102 => fadrK 0 v102 fun v103 => loadK h v103 fun v104 => eqlK v104 (.int .i64 0) fun v105 => condK v105 (fadrK 0 v100 fun v106 => loadK h v106 fun v107 => call (.func 107) [x2, v107] h <| pz K fun v108 h => p187_78 call n B62 x2 x124 x125 x126 h K) (p187_78 call n B62 x2 x124 x125 x126 h K)) (K (.tup []) h)
noncomputable def l187_62 (call : CallFn) (n : Nat) : Nat → AV → AV → AV → AV → AHeap → Kont → Bool :=
  @Nat.rec (fun _ => AV → AV → AV → AV → AHeap → Kont → Bool) (fun _ _ _ _ _ _ => false) (fun _ ih x2 x124 x125 x126 h K => b187_62 call n (fun x2 x124 x125 x126 h => ih x2 x124 x125 x126 h K) x2 x124 x125 x126 h K)
noncomputable def p187_59 (call : CallFn) (n : Nat) (x2 x4 : AV) (h : AHeap) (K : Kont) : Bool :=
  fadrK 18 x4 fun v94 => loadK h v94 fun v95 => lenK v95 fun v96 => l187_62 call n n x2 v95 v96 (.int .i64 0) h K
noncomputable def b187_46 (call : CallFn) (n : Nat) (B46 : F5) (x2 x4 x112 x113 x114 : AV) (h : AHeap) (K : Kont) : Bool :=
  lssK x114 x113 fun v85 => condK v85 (iadrK h 9 x112 x114 fun v86 => loadGK h 9 v86 fun v87 => allocK h [.str [], .int .i64 0, .str [], .int .i64 0, .bool false, .int .i64 0, .str [], .nilSlc, .nilSlc] 9 fun v88 h => storeNK h 9 v88 v87 fun h => fadrK 1 v88 fun v90 => loadGK h 8 v90 fun v91 => call (.func 189) [x2, v91] h <| pz K fun v92 h => addK x114 (.int .i64 1) fun v93 => B46 x2 x4 x112 x113 v93 h) (p187_59 call n x2 x4 h K)
noncomputable def l187_46 (call : CallFn) (n : Nat) : Nat → AV → AV → AV → AV → AV → AHeap → Kont → Bool :=
  @Nat.rec (fun _ => AV → AV → AV → AV → AV → AHeap → Kont → Bool) (fun _ _ _ _ _ _ _ => false) (fun _ ih x2 x4 x112 x113 x114 h K => b187_46 call n (fun x2 x4 x112 x113 x114 h => ih x2 x4 x112 x113 x114 h K) x2 x4 x112 x113 x114 h K)
noncomputable def p187_85 (call : CallFn) (n : Nat) (x0 x2 x4 x13 x139 : AV) (h : AHeap) (K : Kont) : Bool :=
  condK x139 (fadrK 5 x4 fun v111 => loadK h v111 fun v112 => call (.func 117) [x0, v112, x2] h <| pz K fun v113 h => K (.tup []) h) (eqlK x13 (.int .i64 4) fun v114 => condK v114 (nilckK x0 fun v115 => fadrK 4 v115 fun v116 => loadK h v116 fun v117 => notK v117 fun v118 => call (.func 184) [v118] h <| pz K fun v119 h => fadrK 6 x4 fun v120 => loadK h v120 fun v121 => fadrK 5 x4 fun v122 => loadK h v122 fun v123 => call (.func 117) [x0, v123, x2] h <| pz K fun v124 h => loadK h v120 <| sameK v121 <| call (.func 117) [x0, v121, v124] h <| pz K fun v125 h => K (.tup []) h) (eqlK x13 (.int .i64 5) fun v126 => condK v126 (nilckK x0 fun v127 => fadrK 5 v127 fun v128 => loadK h v128 fun v129 => eqlK v129 (.int .i64 0) fun v130 => call (.func 184) [v130] h <| pz K fun v131 h => loadGK h 19 x4 fun v132 => call (.func 244) [x0, v132, x2] h <| pz K fun v133 h => K (.tup []) h) (K (.tup []) h)))
set_option maxRecDepth 100000 in
noncomputable def s187 (call : CallFn) (n : Nat) (x0 x1 x2 : AV) (h : AHeap) (K : Kont) : Bool :=
  optPK (boxA h (none) 19 x1) fun v1 h => fadrK 0 v1 fun v2 => loadK h v2 fun v3 => eqlK v3 (.int .i64 1) fun v4 => condK v4 (loadGK h 19 v1 fun v5 => call (.func 242) [x0, v5, x2] h <| pz K fun v6 h => K (.tup []) h) (eqlK v3 (.int .i64 6) fun v7 => condK v7 (fadrK 8 v1 fun v8 => loadGK h 8 v8 fun v9 => call (.func 189) [x2, v9] h <| pz K fun v10 h => fadrK 1 v1 fun v11 => loadK h v11 fun v12 => call (.func 107) [x2, v12] h <| pz K fun v13 h => K (.tup []) h) (eqlK v3 (.int .i64 8) fun v14 => condK v14 (fadrK 8 v1 fun v15 => loadGK h 8 v15 fun v16 => call (.func 189) [x2, v16] h <| pz K fun v17 h => K (.tup []) h) (eqlK v3 (.int .i64 7) fun v18 => condK v18 (nilckK x0 fun v19 => fadrK 4 v19 fun v20 => loadK h v20 fun v21 => notK v21 fun v22 => call (.func 184) [v22] h <| pz K fun v23 h => nilckK x0 fun v24 => fadrK 5 v24 fun v25 => loadK h v25 fun v26 => addK v26 (.int .i64 1) fun v27 => nilckK x0 fun v28 => fadrK 5 v28 fun v29 => storeK h v29 v27 fun h => fadrK 5 v1 fun v31 => loadK h v31 fun v32 => call (.func 117) [x0, v32, x2] h <| pz K fun v33 h => nilckK x0 fun v34 => fadrK 5 v34 fun v35 => loadK h v35 fun v36 => subK v36 (.int .i64 1) fun v37 => nilckK x0 fun v38 => fadrK 5 v38 fun v39 => storeK h v39 v37 fun h => fadrK 8 v1 fun v41 => loadGK h 8 v41 fun v42 => call (.func 189) [v33, v42] h <| pz K fun v43 h => optPK (bsliceV h 5 1 [.str []] [(0, (.str [99, 111, 117, 110, 116])), (1, (.str [115, 117, 109])), (2, (.str [109, 105, 110])), (3, (.str [109, 97, 120])), (4, (.str [108, 105, 115, 116]))]) fun v44 h => fadrK 16 v1 fun v45 => loadK h v45 fun v46 => call (.func 190) [v44, v46] h <| pz K fun v47 h => p187_34001 call n x2 v1 v33 v47 h K) (eqlK v3 (.int .i64 9) fun v58 => condK v58 (nilckK x0 fun v59 => fadrK 0 v59 fun v60 => fadrK 2 v60 fun v61 => loadK h v61 fun v62 => optK (some (.fn (.func 243) [] [v1])) fun v63 => call (.func 127) [v62, v63] h <| pz K fun v64 h => geqK v64 (.int .i64 0) fun v65 => gK v65 true (optK (some x0)) fun v66 => gK v65 true (nilckK v66) fun v67 => gK v65 true (fadrK 0 v67) fun v68 => gK v65 true (fadrK 2 v68) fun v69 => gK v65 true (loadK h v69) fun v70 => gK v65 true (optK (some v64)) fun v71 => gK v65 true (iadrK h 3 v70 v71) fun v72 => gK v65 true (fadrK 1 v72) fun v73 => gK v65 true (loadK h v73) fun v74 => gK v65 true (lenK v74) fun v75 => gK v65 true (fadrK 18 v1) fun v76 => gK v65 true (loadK h v76) fun v77 => gK v65 true (lenK v77) fun v78 => gK v65 true (eqlK v75 v78) fun v79 => pickK v65 v79 (.bool false) fun v80 => call (.func 184) [v80] h <| pz K fun v81 h => fadrK 18 v1 fun v82 => loadK h v82 fun v83 => lenK v83 fun v84 => l187_46 call n n x2 v1 v83 v84 (.int .i64 0) h K) (eqlK v3 (.int .i64 2) fun v110 => condK v110 (p187_85 call n x0 x2 v1 v3 v110 h K) (eqlK v3 (.int .i64 3) fun v134 => p187_85 call n x0 x2 v1 v3 v134 h K))))))

/-! ### 195 proctor/check.choices -/
noncomputable def p195_11002 (call : CallFn) (n : Nat) (x18 : AV) (h : AHeap) (K : Kont) : Bool :=
  optPK (bsliceV h 1 1 [.int .i64 0] [(0, x18)]) fun v9 h => K v9 h
noncomputable def p195_11001 (call : CallFn) (n : Nat) (x17 : AV) (h : AHeap) (K : Kont) : Bool :=
  call (.func 259) [x17] h <| pz K fun v8 h => p195_11002 call n v8 h K
noncomputable def p195_23001 (call : CallFn) (n : Nat) (x29 : AV) (h : AHeap) (K : Kont) : Bool :=
  addK (.int .i64 1) x29 fun v17 => optPK (bsliceV h 1 1 [.int .i64 0] [(0, v17)]) fun v18 h => K v18 h
noncomputable def p195_27001 (call : CallFn) (n : Nat) (x33 : AV) (h : AHeap) (K : Kont) : Bool :=
  optPK (bsliceV h 1 1 [.int .i64 0] [(0, x33)]) fun v20 h => K v20 h
noncomputable def p195_50 (call : CallFn) (n : Nat) (x4 : AV) (h : AHeap) (K : Kont) : Bool :=
  optPK (bsliceV h 1 1 [.int .i64 0] [(0, x4)]) fun v37 h => K v37 h
noncomputable def b195_37 (call : CallFn) (n : Nat) (B37 : F5) (x4 x5 x43 x44 x45 : AV) (h : AHeap) (K : Kont) : Bool :=
  lssK x45 x44 fun v30 => condK v30 (iadrK h 1 x43 x45 fun v31 => loadK h v31 fun v32 => addK (.int .i64 1) v32 fun v33 => addK v33 x5 fun v34 => addK x4 v34 fun v35 => addK x45 (.int .i64 1) fun v36 => B37 v35 x5 x43 x44 v36 h) (p195_50 call n x4 h K)
noncomputable def l195_37 (call : CallFn) (n : Nat) : Nat → AV → AV → AV → AV → AV → AHeap → Kont → Bool :=
  @Nat.rec (fun _ => AV → AV → AV → AV → AV → AHeap → Kont → Bool) (fun _ _ _ _ _ _ _ => false) (fun _ ih x4 x5 x43 x44 x45 h K => b195_37 call n (fun x4 x5 x43 x44 x45 h => ih x4 x5 x43 x44 x45 h K) x4 x5 x43 x44 x45 h K)
noncomputable def p195_36001 (call : CallFn) (n : Nat) (x4 x5 x43 : AV) (h : AHeap) (K : Kont) : Bool :=
  lenK x43 fun v29 => l195_37 call n n x4 x5 x43 v29 (.int .i64 0) h K
noncomputable def p195_33001 (call : CallFn) (n : Nat) (x1 x39 : AV) (h : AHeap) (K : Kont) : Bool :=
  call (.func 259) [x39] h <| pz K fun v25 h => fadrK 5 x1 fun v26 => loadK h v26 fun v27 => call (.func 137) [v27] h <| pz K fun v28 h => p195_36001 call n (.int .i64 0) v25 v28 h K
noncomputable def p195_58002 (call : CallFn) (n : Nat) (x63 : AV) (h : AHeap) (K : Kont) : Bool :=
  optPK (bsliceV h 1 1 [.int .i64 0] [(0, x63)]) fun v43 h => K v43 h
noncomputable def p195_58001 (call : CallFn) (n : Nat) (x62 : AV) (h : AHeap) (K : Kont) : Bool :=
  call (.func 259) [x62] h <| pz K fun v42 h => p195_58002 call n v42 h K
noncomputable def p195_80001 (call : CallFn) (n : Nat) (B68 : F4) (x68 x69 x70 x74 x76 : AV) (h : AHeap) (K : Kont) : Bool :=
  appK h 1 8 x74 x76 fun v52 h => addK x70 (.int .i64 1) fun v53 => B68 v52 x68 x69 v53 h
noncomputable def p195_81 (call : CallFn) (n : Nat) (x8 : AV) (h : AHeap) (K : Kont) : Bool :=
  lenK x8 fun v54 => leqK v54 (.int .i64 512) fun v55 => call (.func 184) [v55] h <| pz K fun v56 h => K x8 h
noncomputable def b195_68 (call : CallFn) (n : Nat) (B68 : F4) (x8 x68 x69 x70 : AV) (h : AHeap) (K : Kont) : Bool :=
  lssK x70 x69 fun v48 => condK v48 (iadrK h 1 x68 x70 fun v49 => loadK h v49 fun v50 => call (.func 137) [v50] h <| pz K fun v51 h => p195_80001 call n B68 x68 x69 x70 x8 v51 h K) (p195_81 call n x8 h K)
noncomputable def l195_68 (call : CallFn) (n : Nat) : Nat → AV → AV → AV → AV → AHeap → Kont → Bool :=
  @Nat.rec (fun _ => AV → AV → AV → AV → AHeap → Kont → Bool) (fun _ _ _ _ _ _ => false) (fun _ ih x8 x68 x69 x70 h K => b195_68 call n (fun x8 x68 x69 x70 h => ih x8 x68 x69 x70 h K) x8 x68 x69 x70 h K)
noncomputable def p195_87 (call : CallFn) (n : Nat) (h : AHeap) (K : Kont) : Bool :=
  optPK (bsliceV h 1 1 [.int .i64 0] [(0, (.int .i64 1))]) fun v57 h => K v57 h
noncomputable def s195 (call : CallFn) (n : Nat) (x0 : AV) (h : AHeap) (K : Kont) : Bool :=
  optPK (boxA h (none) 19 x0) fun v1 h => fadrK 0 v1 fun v2 => loadK h v2 fun v3 => eqlK v3 (.int .i64 2) fun v4 => condK v4 (fadrK 5 v1 fun v5 => loadK h v5 fun v6 => call (.func 137) [v6] h <| pz K fun v7 h => p195_11001 call n v7 h K) (eqlK v3 (.int .i64 3) fun v10 => condK v10 (fadrK 5 v1 fun v11 => loadK h v11 fun v12 => call (.func 137) [v12] h <| pz K fun v13 h => lenK v13 fun v14 => gtrK v14 (.int .i64 1) fun v15 => condK v15 (call (.func 259) [v13] h <| pz K fun v16 h => p195_23001 call n v16 h K) (call (.func 259) [v13] h <| pz K fun v19 h => p195_27001 call n v19 h K)) (eqlK v3 (.int .i64 4) fun v21 => condK v21 (fadrK 6 v1 fun v22 => loadK h v22 fun v23 => call (.func 137) [v23] h <| pz K fun v24 h => p195_33001 call n v1 v24 h K) (eqlK v3 (.int .i64 7) fun v38 => condK v38 (fadrK 5 v1 fun v39 => loadK h v39 fun v40 => call (.func 137) [v40] h <| pz K fun v41 h => p195_58001 call n v41 h K) (eqlK v3 (.int .i64 5) fun v44 => condK v44 (fadrK 7 v1 fun v45 => loadK h v45 fun v46 => lenK v46 fun v47 => l195_68 call n n .nilSlc v46 v47 (.int .i64 0) h K) (p195_87 call n  h K)))))

/-! ### 196 slices.IndexFunc[[]proctor/api.Cond,proctor/api.Cond] -/
noncomputable def b196_6 (call : CallFn) (n : Nat) (B6 : F4) (x0 x1 x7 x8 : AV) (h : AHeap) (K : Kont) : Bool :=
  lssK x8 x7 fun v2 => condK v2 (iadrK h 19 x0 x8 fun v3 => loadGK h 19 v3 fun v4 => callV call x1 [v4] h <| pz K fun v5 h => condK v5 (K x8 h) (addK x8 (.int .i64 1) fun v6 => B6 x0 x1 x7 v6 h)) (K (.int .i64 (-1)) h)
noncomputable def l196_6 (call : CallFn) (n : Nat) : Nat → AV → AV → AV → AV → AHeap → Kont → Bool :=
  @Nat.rec (fun _ => AV → AV → AV → AV → AHeap → Kont → Bool) (fun _ _ _ _ _ _ => false) (fun _ ih x0 x1 x7 x8 h K => b196_6 call n (fun x0 x1 x7 x8 h => ih x0 x1 x7 x8 h K) x0 x1 x7 x8 h K)
noncomputable def s196 (call : CallFn) (n : Nat) (x0 x1 : AV) (h : AHeap) (K : Kont) : Bool :=
  lenK x0 fun v1 => l196_6 call n n x0 x1 v1 (.int .i64 0) h K

/-! ### 197 slices.IndexFunc[[][]proctor/api.Cond,[]proctor/api.Cond] -/
noncomputable def b197_6 (call : CallFn) (n : Nat) (B6 : F4) (x0 x1 x7 x8 : AV) (h : AHeap) (K : Kont) : Bool :=
  lssK x8 x7 fun v2 => condK v2 (iadrK h 1 x0 x8 fun v3 => loadK h v3 fun v4 => callV call x1 [v4] h <| pz K fun v5 h => condK v5 (K x8 h) (addK x8 (.int .i64 1) fun v6 => B6 x0 x1 x7 v6 h)) (K (.int .i64 (-1)) h)
noncomputable def l197_6 (call : CallFn) (n : Nat) : Nat → AV → AV → AV → AV → AHeap → Kont → Bool :=
  @Nat.rec (fun _ => AV → AV → AV → AV → AHeap → Kont → Bool) (fun _ _ _ _ _ _ => false) (fun _ ih x0 x1 x7 x8 h K => b197_6 call n (fun x0 x1 x7 x8 h => ih x0 x1 x7 x8 h K) x0 x1 x7 x8 h K)
noncomputable def s197 (call : CallFn) (n : Nat) (x0 x1 : AV) (h : AHeap) (K : Kont) : Bool :=
  lenK x0 fun v1 => l197_6 call n n x0 x1 v1 (.int .i64 0) h K

/-! ### 198 proctor/desugar.nots -/
noncomputable def p198_20001 (call : CallFn) (n : Nat) (B8 : F4) (x6 x7 x8 x12 x14 : AV) (h : AHeap) (K : Kont) : Bool :=
  optPK (bsliceV h 1 19 [.int .i64 0, .str [], .str [], .nilSlc, .nilSlc, .nilSlc, .nilSlc, .nilSlc, .int .i64 0, .str [], .int .i64 0, .bool false, .int .i64 0, .str [], .nilSlc, .nilSlc, .str [], .str [], .nilSlc] [(0, x14)]) fun v6 h => appK h 19 328 x12 v6 fun v7 h => addK x8 (.int .i64 1) fun v8 => B8 v7 x6 x7 v8 h
noncomputable def b198_8 (call : CallFn) (n : Nat) (B8 : F4) (x3 x6 x7 x8 : AV) (h : AHeap) (K : Kont) : Bool :=
  lssK x8 x7 fun v2 => condK v2 (iadrK h 1 x6 x8 fun v3 => loadK h v3 fun v4 => call (.func 199) [v4] h <| pz K fun v5 h => p198_20001 call n B8 x6 x7 x8 x3 v5 h K) (K x3 h)
noncomputable def l198_8 (call : CallFn) (n : Nat) : Nat → AV → AV → AV → AV → AHeap → Kont → Bool :=
  @Nat.rec (fun _ => AV → AV → AV → AV → AHeap → Kont → Bool) (fun _ _ _ _ _ _ => false) (fun _ ih x3 x6 x7 x8 h K => b198_8 call n (fun x3 x6 x7 x8 h => ih x3 x6 x7 x8 h K) x3 x6 x7 x8 h K)
noncomputable def s198 (call : CallFn) (n : Nat) (x0 : AV) (h : AHeap) (K : Kont) : Bool :=
  lenK x0 fun v1 => l198_8 call n n .nilSlc x0 v1 (.int .i64 0) h K

/-! ### 199 proctor/desugar.not -/
noncomputable def s199 (call : CallFn) (n : Nat) (x0 : AV) (h : AHeap) (K : Kont) : Bool :=
  allocK h [.int .i64 0, .str [], .str [], .nilSlc, .nilSlc, .nilSlc, .nilSlc, .nilSlc, .int .i64 0, .str [], .int .i64 0, .bool false, .int .i64 0, .str [], .nilSlc, .nilSlc, .str [], .str [], .nilSlc] 19 fun v1 h => buildK [.int .i64 0, .str [], .str [], .nilSlc, .nilSlc, .nilSlc, .nilSlc, .nilSlc, .int .i64 0, .str [], .int .i64 0, .bool false, .int .i64 0, .str [], .nilSlc, .nilSlc, .str [], .str [], .nilSlc] [(0, 1, (.int .i64 2)), (5, 1, x0)] fun v2 => storeNK h 19 v1 v2 fun h => optR (resV h [(v1, some (true, 19))]) h K

/-! ### 200 slices.Clone[[]proctor/api.Bind,proctor/api.Bind] -/
noncomputable def s200 (call : CallFn) (n : Nat) (x0 : AV) (h : AHeap) (K : Kont) : Bool :=
  optK (eqV h false .slc x0 .nilSlc) fun v1 => condK v1 (K .nilSlc h) (optPK (bsliceV h 0 2 [.str [], .str []] []) fun v2 h => appK h 2 32 v2 x0 fun v3 h => K v3 h)

/-! ### 201 proctor/desugar.expr -/
noncomputable def p201_23 (call : CallFn) (n : Nat) (x1 x2 : AV) (h : AHeap) (K : Kont) : Bool :=
  loadGK h 8 x1 fun v27 => storeNK h 8 x2 v27 fun h => optR (resV h [(x2, some (true, 8))]) h K
noncomputable def b201_10 (call : CallFn) (n : Nat) (B10 : F5) (x1 x2 x13 x14 x15 : AV) (h : AHeap) (K : Kont) : Bool :=
  lssK x15 x14 fun v13 => condK v13 (iadrK h 8 x13 x15 fun v14 => loadGK h 8 v14 fun v15 => allocK h [.int .i64 0, .str [], .int .i64 0, .bool false, .int .i64 0, .str [], .nilSlc, .nilSlc] 8 fun v16 h => storeNK h 8 v16 v15 fun h => fadrK 7 x1 fun v18 => loadK h v18 fun v19 => loadGK h 8 v16 fun v20 => call (.func 201) [v20] h <| pz K fun v21 h => loadK h v18 <| sameK v19 <| optPK (bsliceV h 1 8 [.int .i64 0, .str [], .int .i64 0, .bool false, .int .i64 0, .str [], .nilSlc, .nilSlc] [(0, v21)]) fun v22 h => loadK h v18 <| sameK v19 <| loadGK h 8 v16 <| sameK v20 <| appK h 8 112 v19 v22 fun v23 h => fadrK 7 x1 fun v24 => storeK h v24 v23 fun h => addK x15 (.int .i64 1) fun v26 => B10 x1 x2 x13 x14 v26 h) (p201_23 call n x1 x2 h K)
noncomputable def l201_10 (call : CallFn) (n : Nat) : Nat → AV → AV → AV → AV → AV → AHeap → Kont → Bool :=
  @Nat.rec (fun _ => AV → AV → AV → AV → AV → AHeap → Kont → Bool) (fun _ _ _ _ _ _ _ => false) (fun _ ih x1 x2 x13 x14 x15 h K => b201_10 call n (fun x1 x2 x13 x14 x15 h => ih x1 x2 x13 x14 x15 h K) x1 x2 x13 x14 x15 h K)
noncomputable def p201_6001 (call : CallFn) (n : Nat) (x1 x2 x3 x10 : AV) (h : AHeap) (K : Kont) : Bool :=
  fadrK 2 x1 fun v8 => storeNK h 5 v8 x10 fun h => fadrK 7 x1 fun v10 => storeK h v10 .nilSlc fun h => lenK x3 fun v12 => l201_10 call n n x1 x2 x3 v12 (.int .i64 0) h K
noncomputable def s201 (call : CallFn) (n : Nat) (x0 : AV) (h : AHeap) (K : Kont) : Bool :=
  optPK (boxA h (none) 8 x0) fun v1 h => allocK h [.int .i64 0, .str [], .int .i64 0, .bool false, .int .i64 0, .str [], .nilSlc, .nilSlc] 8 fun v2 h => fadrK 7 v1 fun v3 => loadK h v3 fun v4 => fadrK 2 v1 fun v5 => loadGK h 5 v5 fun v6 => call (.func 260) [v6] h <| pz K fun v7 h => p201_6001 call n v1 v2 v4 v7 h K

/-! ### 202 proctor/class.key -/
noncomputable def p202_156 (call : CallFn) (n : Nat) (x4 : AV) (h : AHeap) (K : Kont) : Bool :=
  condK x4 (K (.bool true) h) (K (.bool false) h)
set_option maxRecDepth 100000 in
noncomputable def s202 (call : CallFn) (n : Nat) (x0 : AV) (h : AHeap) (K : Kont) : Bool :=
  eqlK x0 (.str [99, 108, 97, 115, 115]) fun v1 => condK v1 (p202_156 call n v1 h K) (eqlK x0 (.str [101, 120, 116, 101, 110, 100, 115]) fun v2 => condK v2 (p202_156 call n v2 h K) (eqlK x0 (.str [114, 117, 108, 101]) fun v3 => condK v3 (p202_156 call n v3 h K) (eqlK x0 (.str [113, 117, 101, 114, 121]) fun v4 => condK v4 (p202_156 call n v4 h K) (eqlK x0 (.str [119, 104, 101, 110]) fun v5 => condK v5 (p202_156 call n v5 h K) (eqlK x0 (.str [116, 104, 101, 110]) fun v6 => condK v6 (p202_156 call n v6 h K) (eqlK x0 (.str [101, 110, 100]) fun v7 => condK v7 (p202_156 call n v7 h K) (eqlK x0 (.str [115, 97, 108, 105, 101, 110, 99, 101]) fun v8 => condK v8 (p202_156 call n v8 h K) (eqlK x0 (.str [103, 114, 111, 117, 112]) fun v9 => condK v9 (p202_156 call n v9 h K) (eqlK x0 (.str [102, 108, 111, 119]) fun v10 => condK v10 (p202_156 call n v10 h K) (eqlK x0 (.str [110, 111, 108, 111, 111, 112]) fun v11 => condK v11 (p202_156 call n v11 h K) (eqlK x0 (.str [108, 111, 99, 107]) fun v12 => condK v12 (p202_156 call n v12 h K) (eqlK x0 (.str [110, 111, 116]) fun v13 => condK v13 (p202_156 call n v13 h K) (eqlK x0 (.str [101, 120, 105, 115, 116, 115]) fun v14 => condK v14 (p202_156 call n v14 h K) (eqlK x0 (.str [102, 111, 114, 97, 108, 108]) fun v15 => condK v15 (p202_156 call n v15 h K) (eqlK x0 (.str [111, 114]) fun v16 => condK v16 (p202_156 call n v16 h K) (eqlK x0 (.str [102, 114, 111, 109]) fun v17 => condK v17 (p202_156 call n v17 h K) (eqlK x0 (.str [101, 118, 97, 108]) fun v18 => condK v18 (p202_156 call n v18 h K) (eqlK x0 (.str [97, 99, 99]) fun v19 => condK v19 (p202_156 call n v19 h K) (eqlK x0 (.str [111, 118, 101, 114]) fun v20 => condK v20 (p202_156 call n v20 h K) (eqlK x0 (.str [105, 110, 115, 101, 114, 116]) fun v21 => condK v21 (p202_156 call n v21 h K) (eqlK x0 (.str [108, 111, 103, 105, 99, 97, 108]) fun v22 => condK v22 (p202_156 call n v22 h K) (eqlK x0 (.str [117, 112, 100, 97, 116, 101]) fun v23 => condK v23 (p202_156 call n v23 h K) (eqlK x0 (.str [100, 101, 108, 101, 116, 101]) fun v24 => condK v24 (p202_156 call n v24 h K) (eqlK x0 (.str [102, 111, 99, 117, 115]) fun v25 => condK v25 (p202_156 call n v25 h K) (eqlK x0 (.str [112, 114, 105, 110, 116]) fun v26 => condK v26 (p202_156 call n v26 h K) (eqlK x0 (.str [104, 97, 108, 116]) fun v27 => condK v27 (p202_156 call n v27 h K) (eqlK x0 (.str [116, 114, 117, 101]) fun v28 => condK v28 (p202_156 call n v28 h K) (eqlK x0 (.str [102, 97, 108, 115, 101]) fun v29 => condK v29 (p202_156 call n v29 h K) (eqlK x0 (.str [110, 117, 108, 108]) fun v30 => condK v30 (p202_156 call n v30 h K) (eqlK x0 (.str [115, 105, 122, 101]) fun v31 => condK v31 (p202_156 call n v31 h K) (eqlK x0 (.str [104, 97, 115]) fun v32 => condK v32 (p202_156 call n v32 h K) (eqlK x0 (.str [105, 110, 116]) fun v33 => condK v33 (p202_156 call n v33 h K) (eqlK x0 (.str [98, 111, 111, 108]) fun v34 => condK v34 (p202_156 call n v34 h K) (eqlK x0 (.str [116, 101, 120, 116]) fun v35 => condK v35 (p202_156 call n v35 h K) (eqlK x0 (.str [108, 105, 115, 116]) fun v36 => condK v36 (p202_156 call n v36 h K) (eqlK x0 (.str [97, 110, 121]) fun v37 => condK v37 (p202_156 call n v37 h K) (eqlK x0 (.str [114, 101, 102]) fun v38 => p202_156 call n v38 h K)))))))))))))))))))))))))))))))))))))

/-! ### 203 (*proctor/class.Table).up$1 -/
noncomputable def p203_14001 (call : CallFn) (n : Nat) (B3 : F4) (x0 x1 x4 x40 : AV) (h : AHeap) (K : Kont) : Bool :=
  notK x40 fun v16 => condK v16 (K (.tup []) h) (loadK h x1 fun v17 => nilckK v17 fun v18 => fadrK 1 v18 fun v19 => loadK h v19 fun v20 => loadK h x1 fun v21 => nilckK v21 fun v22 => fadrK 0 v22 fun v23 => loadK h v23 fun v24 => iadrK h 3 v24 x4 fun v25 => fadrK 1 v25 fun v26 => loadK h v26 fun v27 => optK (lookA h (.leaf .str) true (.int .i64 0) v20 v27) fun v28 => extK 0 v28 fun v29 => extK 1 v28 fun v30 => B3 x0 x1 v29 v30 h)
noncomputable def b203_3 (call : CallFn) (n : Nat) (B3 : F4) (x0 x1 x4 x5 : AV) (h : AHeap) (K : Kont) : Bool :=
  condK x5 (loadK h x1 fun v9 => nilckK v9 fun v10 => fadrK 0 v10 fun v11 => loadK h v11 fun v12 => iadrK h 3 v12 x4 fun v13 => loadGK h 3 v13 fun v14 => callV call x0 [v14] h <| pz K fun v15 h => p203_14001 call n B3 x0 x1 x4 v15 h K) (K (.tup []) h)
noncomputable def l203_3 (call : CallFn) (n : Nat) : Nat → AV → AV → AV → AV → AHeap → Kont → Bool :=
  @Nat.rec (fun _ => AV → AV → AV → AV → AHeap → Kont → Bool) (fun _ _ _ _ _ _ => false) (fun _ ih x0 x1 x4 x5 h K => b203_3 call n (fun x0 x1 x4 x5 h => ih x0 x1 x4 x5 h K) x0 x1 x4 x5 h K)
noncomputable def s203 (call : CallFn) (n : Nat) (x0 x1 x2 : AV) (h : AHeap) (K : Kont) : Bool :=
  loadK h x1 fun v1 => nilckK v1 fun v2 => fadrK 1 v2 fun v3 => loadK h v3 fun v4 => loadK h x2 fun v5 => optK (lookA h (.leaf .str) true (.int .i64 0) v4 v5) fun v6 => extK 0 v6 fun v7 => extK 1 v6 fun v8 => l203_3 call n n x0 x1 v7 v8 h K

/-! ### 207 strconv.Itoa -/
noncomputable def s207 (call : CallFn) (n : Nat) (x0 : AV) (h : AHeap) (K : Kont) : Bool :=
  call (.func 261) [x0] h <| pz K fun v1 h => K v1 h

/-! ### 208 (*strings.Builder).WriteString -/
noncomputable def s208 (call : CallFn) (n : Nat) (x0 x1 : AV) (h : AHeap) (K : Kont) : Bool :=
  call (.func 262) [x0] h <| pz K fun v1 h => nilckK x0 fun v2 => fadrK 1 v2 fun v3 => loadK h v3 fun v4 => optPK (appbA h 5 v4 x1) fun v5 h => nilckK x0 fun v6 => fadrK 1 v6 fun v7 => storeK h v7 v5 fun h => lenSK x1 fun v9 => K (.tup [v9, .nilIf]) h

/-! ### 209 proctor/value.Encode -/
noncomputable def p209_5001 (call : CallFn) (n : Nat) (x1 x5 : AV) (h : AHeap) (K : Kont) : Bool :=
  notK x5 fun v4 => condK v4 (K (.tup [.nilSlc, (.int .i64 1)]) h) (loadGK h 5 x1 fun v5 => call (.func 264) [.nilSlc, v5] h <| pz K fun v6 h => K (.tup [v6, (.int .i64 0)]) h)
noncomputable def s209 (call : CallFn) (n : Nat) (x0 : AV) (h : AHeap) (K : Kont) : Bool :=
  optPK (boxA h (none) 5 x0) fun v1 h => loadGK h 5 v1 fun v2 => call (.func 263) [v2] h <| pz K fun v3 h => p209_5001 call n v1 v3 h K

/-! ### 210 (*proctor/lex.lexer).peek -/
noncomputable def s210 (call : CallFn) (n : Nat) (x0 x1 : AV) (h : AHeap) (K : Kont) : Bool :=
  nilckK x0 fun v1 => fadrK 1 v1 fun v2 => loadK h v2 fun v3 => addK v3 x1 fun v4 => nilckK x0 fun v5 => fadrK 0 v5 fun v6 => loadK h v6 fun v7 => lenSK v7 fun v8 => geqK v4 v8 fun v9 => condK v9 (K (.int .u8 0) h) (nilckK x0 fun v10 => fadrK 0 v10 fun v11 => loadK h v11 fun v12 => nilckK x0 fun v13 => fadrK 1 v13 fun v14 => loadK h v14 fun v15 => addK v15 x1 fun v16 => idxsK v12 v16 fun v17 => K v17 h)

/-! ### 211 strings.IndexByte -/
noncomputable def s211 (call : CallFn) (n : Nat) (x0 x1 : AV) (h : AHeap) (K : Kont) : Bool :=
  call (.func 265) [x0, x1] h <| pz K fun v1 h => K v1 h

/-! ### 212 (*proctor/lex.lexer).next$1 -/
noncomputable def s212 (call : CallFn) (n : Nat) (x0 x1 x2 : AV) (h : AHeap) (K : Kont) : Bool :=
  loadK h x2 fun v1 => nilckK v1 fun v2 => fadrK 0 v2 fun v3 => loadK h v3 fun v4 => loadK h x2 fun v5 => nilckK v5 fun v6 => fadrK 1 v6 fun v7 => loadK h v7 fun v8 => addK v8 x0 fun v9 => loadK h x2 fun v10 => nilckK v10 fun v11 => fadrK 1 v11 fun v12 => loadK h v12 fun v13 => addK v13 x0 fun v14 => addK v14 x1 fun v15 => slsK v4 (some v9) (some v15) fun v16 => K v16 h

/-! ### 213 proctor/lex.letter -/
noncomputable def s213 (call : CallFn) (n : Nat) (x0 : AV) (h : AHeap) (K : Kont) : Bool :=
  geqK x0 (.int .u8 97) fun v1 => gK v1 true (optK (some x0)) fun v2 => gK v1 true (leqK v2 (.int .u8 122)) fun v3 => pickK v1 v3 (.bool false) fun v4 => gK v4 false (optK (some x0)) fun v5 => gK v4 false (geqK v5 (.int .u8 65)) fun v6 => gK v4 false (optK (some v6)) fun v7 => gK v7 true (optK (some x0)) fun v8 => gK v7 true (leqK v8 (.int .u8 90)) fun v9 => gK v4 false (pickK v7 v9 (.bool false)) fun v10 => pickK v4 (.bool true) v10 fun v11 => K v11 h

/-! ### 214 (*proctor/lex.lexer).word -/
noncomputable def p214_5002 (call : CallFn) (n : Nat) (x0 x1 x8 : AV) (h : AHeap) (K : Kont) : Bool :=
  notK x8 fun v3 => condK v3 (K (.int .i64 0) h) (call (.func 216) [x0, x1, (.fn (.func 266) [] [])] h <| pz K fun v4 h => K v4 h)
noncomputable def p214_5001 (call : CallFn) (n : Nat) (x0 x1 x7 : AV) (h : AHeap) (K : Kont) : Bool :=
  call (.func 213) [x7] h <| pz K fun v2 h => p214_5002 call n x0 x1 v2 h K
noncomputable def s214 (call : CallFn) (n : Nat) (x0 x1 : AV) (h : AHeap) (K : Kont) : Bool :=
  call (.func 210) [x0, x1] h <| pz K fun v1 h => p214_5001 call n x0 x1 v1 h K

/-! ### 215 proctor/lex.digit -/
noncomputable def s215 (call : CallFn) (n : Nat) (x0 : AV) (h : AHeap) (K : Kont) : Bool :=
  geqK x0 (.int .u8 48) fun v1 => gK v1 true (optK (some x0)) fun v2 => gK v1 true (leqK v2 (.int .u8 57)) fun v3 => pickK v1 v3 (.bool false) fun v4 => K v4 h

/-! ### 216 (*proctor/lex.lexer).run -/
noncomputable def b216_6 (call : CallFn) (n : Nat) (B6 : F4) (x0 x1 x2 x7 : AV) (h : AHeap) (K : Kont) : Bool :=
  nilckK x0 fun v1 => fadrK 1 v1 fun v2 => loadK h v2 fun v3 => addK v3 x1 fun v4 => addK v4 x7 fun v5 => nilckK x0 fun v6 => fadrK 0 v6 fun v7 => loadK h v7 fun v8 => lenSK v8 fun v9 => lssK v5 v9 fun v10 => gK v10 true (optK (some x2)) fun v11 => gK v10 true (optK (some x0)) fun v12 => gK v10 true (nilckK v12) fun v13 => gK v10 true (fadrK 0 v13) fun v14 => gK v10 true (loadK h v14) fun v15 => gK v10 true (optK (some x0)) fun v16 => gK v10 true (nilckK v16) fun v17 => gK v10 true (fadrK 1 v17) fun v18 => gK v10 true (loadK h v18) fun v19 => gK v10 true (optK (some x1)) fun v20 => gK v10 true (addK v19 v20) fun v21 => gK v10 true (optK (some x7)) fun v22 => gK v10 true (addK v21 v22) fun v23 => gK v10 true (idxsK v15 v23) fun v24 => gP v10 true (fun k => callV call v11 [v24] h (pz K k)) h fun v25 h => pickK v10 v25 (.bool false) fun v26 => condK v26 (addK x7 (.int .i64 1) fun v27 => B6 x0 x1 x2 v27 h) (K x7 h)
noncomputable def l216_6 (call : CallFn) (n : Nat) : Nat → AV → AV → AV → AV → AHeap → Kont → Bool :=
  @Nat.rec (fun _ => AV → AV → AV → AV → AHeap → Kont → Bool) (fun _ _ _ _ _ _ => false) (fun _ ih x0 x1 x2 x7 h K => b216_6 call n (fun x0 x1 x2 x7 h => ih x0 x1 x2 x7 h K) x0 x1 x2 x7 h K)
noncomputable def s216 (call : CallFn) (n : Nat) (x0 x1 x2 : AV) (h : AHeap) (K : Kont) : Bool :=
  l216_6 call n n x0 x1 x2 (.int .i64 0) h K

/-! ### 217 (*proctor/lex.lexer).quoted -/
noncomputable def p217_25001 (call : CallFn) (n : Nat) (B8 : F3) (x5 x30 : AV) (h : AHeap) (K : Kont) : Bool :=
  addK x5 (.int .i64 1) fun v14 => K (.tup [x30, v14]) h
noncomputable def p217_49 (call : CallFn) (n : Nat) (B8 : F3) (x0 x4 x5 : AV) (h : AHeap) (K : Kont) : Bool :=
  addK x5 (.int .i64 1) fun v22 => B8 x0 x4 v22 h
noncomputable def p217_33001 (call : CallFn) (n : Nat) (B8 : F3) (x0 x4 x5 x40 : AV) (h : AHeap) (K : Kont) : Bool :=
  call (.func 211) [(.str [34, 92, 110, 116]), x40] h <| pz K fun v18 h => lssK v18 (.int .i64 0) fun v19 => condK v19 (K (.tup [(.str []), (.int .i64 0)]) h) (idxsK (.str [34, 92, 10, 9]) v18 fun v20 => call (.func 267) [x4, v20] h <| pz K fun v21 h => p217_49 call n B8 x0 x4 x5 h K)
noncomputable def b217_8 (call : CallFn) (n : Nat) (B8 : F3) (x0 x4 x5 : AV) (h : AHeap) (K : Kont) : Bool :=
  nilckK x0 fun v2 => fadrK 1 v2 fun v3 => loadK h v3 fun v4 => addK v4 x5 fun v5 => nilckK x0 fun v6 => fadrK 0 v6 fun v7 => loadK h v7 fun v8 => lenSK v8 fun v9 => lssK v5 v9 fun v10 => condK v10 (call (.func 210) [x0, x5] h <| pz K fun v11 h => eqlK v11 (.int .u8 34) fun v12 => condK v12 (call (.func 79) [x4] h <| pz K fun v13 h => p217_25001 call n B8 x5 v13 h K) (eqlK v11 (.int .u8 92) fun v15 => condK v15 (addK x5 (.int .i64 1) fun v16 => call (.func 210) [x0, v16] h <| pz K fun v17 h => p217_33001 call n B8 x0 x4 v16 v17 h K) (lssK v11 (.int .u8 32) fun v23 => condK v23 (K (.tup [(.str []), (.int .i64 0)]) h) (call (.func 267) [x4, v11] h <| pz K fun v24 h => p217_49 call n B8 x0 x4 x5 h K)))) (K (.tup [(.str []), (.int .i64 0)]) h)
noncomputable def l217_8 (call : CallFn) (n : Nat) : Nat → AV → AV → AV → AHeap → Kont → Bool :=
  @Nat.rec (fun _ => AV → AV → AV → AHeap → Kont → Bool) (fun _ _ _ _ _ => false) (fun _ ih x0 x4 x5 h K => b217_8 call n (fun x0 x4 x5 h => ih x0 x4 x5 h K) x0 x4 x5 h K)
noncomputable def s217 (call : CallFn) (n : Nat) (x0 : AV) (h : AHeap) (K : Kont) : Bool :=
  optPK (allotV h 183 [.nilPtr, .nilSlc]) fun v1 h => l217_8 call n n x0 v1 (.int .i64 1) h K

/-! ### 218 (*proctor/lex.lexer).mark -/
noncomputable def p218_25 (call : CallFn) (n : Nat) (x0 : AV) (h : AHeap) (K : Kont) : Bool :=
  nilckK x0 fun v15 => fadrK 0 v15 fun v16 => loadK h v16 fun v17 => nilckK x0 fun v18 => fadrK 1 v18 fun v19 => loadK h v19 fun v20 => idxsK v17 v20 fun v21 => call (.func 211) [(.str [40, 41, 91, 93, 123, 125, 44, 46, 58, 59, 63, 60, 62, 61, 43, 45, 42, 47, 37, 33]), v21] h <| pz K fun v22 h => geqK v22 (.int .i64 0) fun v23 => condK v23 (K (.int .i64 1) h) (K (.int .i64 0) h)
noncomputable def b218_6 (call : CallFn) (n : Nat) (B6 : F4) (x0 x5 x6 x7 : AV) (h : AHeap) (K : Kont) : Bool :=
  lssK x7 x6 fun v3 => condK v3 (iadrK h 1 x5 x7 fun v4 => loadK h v4 fun v5 => nilckK x0 fun v6 => fadrK 0 v6 fun v7 => loadK h v7 fun v8 => nilckK x0 fun v9 => fadrK 1 v9 fun v10 => loadK h v10 fun v11 => slsK v8 (some v11) none fun v12 => call (.func 268) [v12, v5] h <| pz K fun v13 h => condK v13 (K (.int .i64 2) h) (addK x7 (.int .i64 1) fun v14 => B6 x0 x5 x6 v14 h)) (p218_25 call n x0 h K)
noncomputable def l218_6 (call : CallFn) (n : Nat) : Nat → AV → AV → AV → AV → AHeap → Kont → Bool :=
  @Nat.rec (fun _ => AV → AV → AV → AV → AHeap → Kont → Bool) (fun _ _ _ _ _ _ => false) (fun _ ih x0 x5 x6 x7 h K => b218_6 call n (fun x0 x5 x6 x7 h => ih x0 x5 x6 x7 h K) x0 x5 x6 x7 h K)
noncomputable def s218 (call : CallFn) (n : Nat) (x0 : AV) (h : AHeap) (K : Kont) : Bool :=
  optPK (bsliceV h 6 1 [.str []] [(0, (.str [61, 61])), (1, (.str [33, 61])), (2, (.str [60, 61])), (3, (.str [62, 61])), (4, (.str [38, 38])), (5, (.str [124, 124]))]) fun v1 h => lenK v1 fun v2 => l218_6 call n n x0 v1 v2 (.int .i64 0) h K

/-! ### 228 (*proctor/print.writer).put -/
noncomputable def p228_28 (call : CallFn) (n : Nat) (B3 : F4) (x0 x5 x6 x7 x8 : AV) (h : AHeap) (K : Kont) : Bool :=
  nilckK x0 fun v35 => fadrK 0 v35 fun v36 => fadrK 0 v36 fun v37 => loadK h v37 fun v38 => optPK (appbA h 5 v38 x5) fun v39 h => nilckK x0 fun v40 => fadrK 0 v40 fun v41 => fadrK 0 v41 fun v42 => storeK h v42 v39 fun h => addK x8 (.int .i64 1) fun v44 => B3 x0 x6 x7 v44 h
noncomputable def p228_22 (call : CallFn) (n : Nat) (B3 : F4) (x0 x5 x6 x7 x8 : AV) (h : AHeap) (K : Kont) : Bool :=
  nilckK x0 fun v19 => fadrK 0 v19 fun v20 => fadrK 0 v20 fun v21 => loadK h v21 fun v22 => lenK v22 fun v23 => gtrK v23 (.int .i64 0) fun v24 => condK v24 (nilckK x0 fun v25 => fadrK 0 v25 fun v26 => fadrK 0 v26 fun v27 => loadK h v27 fun v28 => optPK (bsliceV h 1 1 [.int .u8 0] [(0, (.int .u8 32))]) fun v29 h => optPK (appbA h 5 v28 v29) fun v30 h => nilckK x0 fun v31 => fadrK 0 v31 fun v32 => fadrK 0 v32 fun v33 => storeK h v33 v30 fun h => p228_28 call n B3 x0 x5 x6 x7 x8 h K) (p228_28 call n B3 x0 x5 x6 x7 x8 h K)
noncomputable def b228_3 (call : CallFn) (n : Nat) (B3 : F4) (x0 x6 x7 x8 : AV) (h : AHeap) (K : Kont) : Bool :=
  lssK x8 x7 fun v2 => condK v2 (iadrK h 1 x6 x8 fun v3 => loadK h v3 fun v4 => nilckK x0 fun v5 => fadrK 1 v5 fun v6 => loadK h v6 fun v7 => addK v7 (.int .i64 1) fun v8 => nilckK x0 fun v9 => fadrK 1 v9 fun v10 => storeK h v10 v8 fun h => nilckK x0 fun v12 => fadrK 1 v12 fun v13 => loadK h v13 fun v14 => gtrK v14 (.int .i64 4096) fun v15 => condK v15 (buildK [] [] fun v16 => optK (mkifA 275 v16) fun v17 => pncK K v17 h) (p228_22 call n B3 x0 v4 x6 x7 x8 h K)) (K (.tup []) h)
noncomputable def l228_3 (call : CallFn) (n : Nat) : Nat → AV → AV → AV → AV → AHeap → Kont → Bool :=
  @Nat.rec (fun _ => AV → AV → AV → AV → AHeap → Kont → Bool) (fun _ _ _ _ _ _ => false) (fun _ ih x0 x6 x7 x8 h K => b228_3 call n (fun x0 x6 x7 x8 h => ih x0 x6 x7 x8 h K) x0 x6 x7 x8 h K)
noncomputable def s228 (call : CallFn) (n : Nat) (x0 x1 : AV) (h : AHeap) (K : Kont) : Bool :=
  lenK x1 fun v1 => l228_3 call n n x0 x1 v1 (.int .i64 0) h K

/-! ### 229 proctor/lex.Quote -/
noncomputable def p229_30 (call : CallFn) (n : Nat) (B10 : F4) (x0 x3 x8 x9 : AV) (h : AHeap) (K : Kont) : Bool :=
  addK x9 (.int .i64 1) fun v11 => B10 x0 x3 x8 v11 h
noncomputable def p229_31 (call : CallFn) (n : Nat) (x3 : AV) (h : AHeap) (K : Kont) : Bool :=
  call (.func 267) [x3, (.int .u8 34)] h <| pz K fun v14 h => call (.func 79) [x3] h <| pz K fun v15 h => K v15 h
noncomputable def b229_10 (call : CallFn) (n : Nat) (B10 : F4) (x0 x3 x8 x9 : AV) (h : AHeap) (K : Kont) : Bool :=
  lssK x9 x8 fun v4 => condK v4 (idxsK x0 x9 fun v5 => call (.func 211) [(.str [34, 92, 10, 9]), v5] h <| pz K fun v6 h => geqK v6 (.int .i64 0) fun v7 => condK v7 (call (.func 267) [x3, (.int .u8 92)] h <| pz K fun v8 h => idxsK (.str [34, 92, 110, 116]) v6 fun v9 => call (.func 267) [x3, v9] h <| pz K fun v10 h => p229_30 call n B10 x0 x3 x8 x9 h K) (idxsK x0 x9 fun v12 => call (.func 267) [x3, v12] h <| pz K fun v13 h => p229_30 call n B10 x0 x3 x8 x9 h K)) (p229_31 call n x3 h K)
noncomputable def l229_10 (call : CallFn) (n : Nat) : Nat → AV → AV → AV → AV → AHeap → Kont → Bool :=
  @Nat.rec (fun _ => AV → AV → AV → AV → AHeap → Kont → Bool) (fun _ _ _ _ _ _ => false) (fun _ ih x0 x3 x8 x9 h K => b229_10 call n (fun x0 x3 x8 x9 h => ih x0 x3 x8 x9 h K) x0 x3 x8 x9 h K)
noncomputable def s229 (call : CallFn) (n : Nat) (x0 : AV) (h : AHeap) (K : Kont) : Bool :=
  optPK (allotV h 183 [.nilPtr, .nilSlc]) fun v1 h => call (.func 267) [v1, (.int .u8 34)] h <| pz K fun v2 h => lenSK x0 fun v3 => l229_10 call n n x0 v1 v3 (.int .i64 0) h K

/-! ### 230 proctor/print.need -/
noncomputable def s230 (call : CallFn) (n : Nat) (x0 : AV) (h : AHeap) (K : Kont) : Bool :=
  notK x0 fun v1 => condK v1 (buildK [] [] fun v2 => optK (mkifA 275 v2) fun v3 => pncK K v3 h) (K (.tup []) h)

/-! ### 232 (*proctor/print.writer).conds -/
noncomputable def b232_3 (call : CallFn) (n : Nat) (B3 : F4) (x0 x6 x7 x8 : AV) (h : AHeap) (K : Kont) : Bool :=
  lssK x8 x7 fun v2 => condK v2 (iadrK h 19 x6 x8 fun v3 => loadGK h 19 v3 fun v4 => allocK h [.int .i64 0, .str [], .str [], .nilSlc, .nilSlc, .nilSlc, .nilSlc, .nilSlc, .int .i64 0, .str [], .int .i64 0, .bool false, .int .i64 0, .str [], .nilSlc, .nilSlc, .str [], .str [], .nilSlc] 19 fun v5 h => storeNK h 19 v5 v4 fun h => loadGK h 19 v5 fun v7 => call (.func 275) [x0, v7] h <| pz K fun v8 h => addK x8 (.int .i64 1) fun v9 => B3 x0 x6 x7 v9 h) (K (.tup []) h)
noncomputable def l232_3 (call : CallFn) (n : Nat) : Nat → AV → AV → AV → AV → AHeap → Kont → Bool :=
  @Nat.rec (fun _ => AV → AV → AV → AV → AHeap → Kont → Bool) (fun _ _ _ _ _ _ => false) (fun _ ih x0 x6 x7 x8 h K => b232_3 call n (fun x0 x6 x7 x8 h => ih x0 x6 x7 x8 h K) x0 x6 x7 x8 h K)
noncomputable def s232 (call : CallFn) (n : Nat) (x0 x1 : AV) (h : AHeap) (K : Kont) : Bool :=
  lenK x1 fun v1 => l232_3 call n n x0 x1 v1 (.int .i64 0) h K

/-! ### 236 slices.Equal[[]proctor/api.Field,proctor/api.Field] -/
noncomputable def b236_14 (call : CallFn) (n : Nat) (B14 : F4) (x0 x1 x12 x13 : AV) (h : AHeap) (K : Kont) : Bool :=
  lssK x13 x12 fun v5 => condK v5 (iadrK h 3 x0 x13 fun v6 => loadGK h 3 v6 fun v7 => iadrK h 3 x1 x13 fun v8 => loadGK h 3 v8 fun v9 => optK (eqV h true (.agg [.str, .int, .str]) v7 v9) fun v10 => condK v10 (K (.bool false) h) (addK x13 (.int .i64 1) fun v11 => B14 x0 x1 x12 v11 h)) (K (.bool true) h)
noncomputable def l236_14 (call : CallFn) (n : Nat) : Nat → AV → AV → AV → AV → AHeap → Kont → Bool :=
  @Nat.rec (fun _ => AV → AV → AV → AV → AHeap → Kont → Bool) (fun _ _ _ _ _ _ => false) (fun _ ih x0 x1 x12 x13 h K => b236_14 call n (fun x0 x1 x12 x13 h => ih x0 x1 x12 x13 h K) x0 x1 x12 x13 h K)
noncomputable def p236_10 (call : CallFn) (n : Nat) (x0 x1 : AV) (h : AHeap) (K : Kont) : Bool :=
  lenK x0 fun v4 => l236_14 call n n x0 x1 v4 (.int .i64 0) h K
noncomputable def s236 (call : CallFn) (n : Nat) (x0 x1 : AV) (h : AHeap) (K : Kont) : Bool :=
  lenK x0 fun v1 => lenK x1 fun v2 => neqK v1 v2 fun v3 => condK v3 (K (.bool false) h) (p236_10 call n x0 x1 h K)

/-! ### 237 proctor/print.sameConds -/
noncomputable def s237 (call : CallFn) (n : Nat) (x0 x1 : AV) (h : AHeap) (K : Kont) : Bool :=
  call (.func 278) [x0, x1, (.fn (.func 279) [] [])] h <| pz K fun v1 h => K v1 h

/-! ### 238 slices.EqualFunc[[]proctor/api.Action,[]proctor/api.Action,proctor/api.Action,proctor/api.Action] -/
noncomputable def p238_29001 (call : CallFn) (n : Nat) (B14 : F5) (x1 x2 x15 x16 x17 x29 : AV) (h : AHeap) (K : Kont) : Bool :=
  notK x29 fun v17 => condK v17 (K (.bool false) h) (addK x17 (.int .i64 1) fun v18 => B14 x1 x2 x15 x16 v18 h)
noncomputable def b238_14 (call : CallFn) (n : Nat) (B14 : F5) (x1 x2 x15 x16 x17 : AV) (h : AHeap) (K : Kont) : Bool :=
  lssK x17 x16 fun v5 => condK v5 (iadrK h 12 x15 x17 fun v6 => loadGK h 12 v6 fun v7 => allocK h [.int .i64 0, .str [], .nilSlc, .int .i64 0, .str [], .int .i64 0, .bool false, .int .i64 0, .str [], .nilSlc, .nilSlc, .str []] 12 fun v8 h => storeNK h 12 v8 v7 fun h => iadrK h 12 x1 x17 fun v10 => loadGK h 12 v10 fun v11 => allocK h [.int .i64 0, .str [], .nilSlc, .int .i64 0, .str [], .int .i64 0, .bool false, .int .i64 0, .str [], .nilSlc, .nilSlc, .str []] 12 fun v12 h => storeNK h 12 v12 v11 fun h => loadGK h 12 v8 fun v14 => loadGK h 12 v12 fun v15 => callV call x2 [v14, v15] h <| pz K fun v16 h => p238_29001 call n B14 x1 x2 x15 x16 x17 v16 h K) (K (.bool true) h)
noncomputable def l238_14 (call : CallFn) (n : Nat) : Nat → AV → AV → AV → AV → AV → AHeap → Kont → Bool :=
  @Nat.rec (fun _ => AV → AV → AV → AV → AV → AHeap → Kont → Bool) (fun _ _ _ _ _ _ _ => false) (fun _ ih x1 x2 x15 x16 x17 h K => b238_14 call n (fun x1 x2 x15 x16 x17 h => ih x1 x2 x15 x16 x17 h K) x1 x2 x15 x16 x17 h K)
noncomputable def p238_10 (call : CallFn) (n : Nat) (x0 x1 x2 : AV) (h : AHeap) (K : Kont) : Bool :=
  lenK x0 fun v4 => l238_14 call n n x1 x2 x0 v4 (.int .i64 0) h K
noncomputable def s238 (call : CallFn) (n : Nat) (x0 x1 x2 : AV) (h : AHeap) (K : Kont) : Bool :=
  lenK x0 fun v1 => lenK x1 fun v2 => neqK v1 v2 fun v3 => condK v3 (K (.bool false) h) (p238_10 call n x0 x1 x2 h K)

/-! ### 242 (*proctor/check.checker).pattern -/
noncomputable def p242_50 (call : CallFn) (n : Nat) (x2 x6 : AV) (h : AHeap) (K : Kont) : Bool :=
  loadK h x6 fun v81 => call (.func 284) [x2, v81] h <| pz K fun v82 h => K (.tup []) h
noncomputable def b242_37 (call : CallFn) (n : Nat) (B37 : F7) (x2 x3 x4 x6 x82 x83 x84 : AV) (h : AHeap) (K : Kont) : Bool :=
  lssK x84 x83 fun v72 => condK v72 (iadrK h 8 x82 x84 fun v73 => loadGK h 8 v73 fun v74 => allocK h [.int .i64 0, .str [], .int .i64 0, .bool false, .int .i64 0, .str [], .nilSlc, .nilSlc] 8 fun v75 h => storeNK h 8 v75 v74 fun h => loadGK h 8 v75 fun v77 => optK (some (.fn (.func 283) [] [x6, x3, x4])) fun v78 => call (.func 246) [v77, v78] h <| pz K fun v79 h => addK x84 (.int .i64 1) fun v80 => B37 x2 x3 x4 x6 x82 x83 v80 h) (p242_50 call n x2 x6 h K)
noncomputable def l242_37 (call : CallFn) (n : Nat) : Nat → AV → AV → AV → AV → AV → AV → AV → AHeap → Kont → Bool :=
  @Nat.rec (fun _ => AV → AV → AV → AV → AV → AV → AV → AHeap → Kont → Bool) (fun _ _ _ _ _ _ _ _ _ => false) (fun _ ih x2 x3 x4 x6 x82 x83 x84 h K => b242_37 call n (fun x2 x3 x4 x6 x82 x83 x84 h => ih x2 x3 x4 x6 x82 x83 x84 h K) x2 x3 x4 x6 x82 x83 x84 h K)
noncomputable def p242_33 (call : CallFn) (n : Nat) (x2 x3 x4 x6 : AV) (h : AHeap) (K : Kont) : Bool :=
  fadrK 4 x4 fun v69 => loadK h v69 fun v70 => lenK v70 fun v71 => l242_37 call n n x2 x3 x4 x6 v70 v71 (.int .i64 0) h K
noncomputable def p242_27 (call : CallFn) (n : Nat) (x2 x3 x4 x6 : AV) (h : AHeap) (K : Kont) : Bool :=
  fadrK 1 x4 fun v62 => loadK h v62 fun v63 => neqK v63 (.str []) fun v64 => condK v64 (loadK h x6 fun v65 => fadrK 1 x4 fun v66 => loadK h v66 fun v67 => call (.func 107) [v65, v67] h <| pz K fun v68 h => p242_33 call n x2 x3 x4 x6 h K) (p242_33 call n x2 x3 x4 x6 h K)
noncomputable def b242_10 (call : CallFn) (n : Nat) (B10 : F7) (x2 x3 x4 x6 x36 x37 x38 : AV) (h : AHeap) (K : Kont) : Bool :=
  lssK x38 x37 fun v28 => condK v28 (iadrK h 2 x36 x38 fun v29 => loadGK h 2 v29 fun v30 => allocK h [.str [], .str []] 2 fun v31 h => storeNK h 2 v31 v30 fun h => loadK h x3 fun v33 => nilckK v33 fun v34 => fadrK 3 v34 fun v35 => loadK h v35 fun v36 => fadrK 2 x4 fun v37 => loadK h v37 fun v38 => fadrK 1 v31 fun v39 => loadK h v39 fun v40 => call (.func 245) [v36, v38, v40] h <| pz K fun v41 h => extK 0 v41 fun v42 => extK 1 v41 fun v43 => eqlK v43 (.int .i64 0) fun v44 => gK v44 true (fadrK 1 x4) fun v45 => gK v44 true (loadK h v45) fun v46 => gK v44 true (eqlK v46 (.str [])) fun v47 => gK v44 true (optK (some v47)) fun v48 => gK v48 false (fadrK 0 v31) fun v49 => gK v48 false (loadK h v49) fun v50 => gK v48 false (fadrK 1 x4) fun v51 => gK v48 false (loadK h v51) fun v52 => gK v48 false (neqK v50 v52) fun v53 => gK v44 true (pickK v48 (.bool true) v53) fun v54 => pickK v44 v54 (.bool false) fun v55 => call (.func 184) [v55] h <| pz K fun v56 h => loadK h x6 fun v57 => fadrK 0 v31 fun v58 => loadK h v58 fun v59 => call (.func 107) [v57, v59] h <| pz K fun v60 h => addK x38 (.int .i64 1) fun v61 => B10 x2 x3 x4 x6 x36 x37 v61 h) (p242_27 call n x2 x3 x4 x6 h K)
noncomputable def l242_10 (call : CallFn) (n : Nat) : Nat → AV → AV → AV → AV → AV → AV → AV → AHeap → Kont → Bool :=
  @Nat.rec (fun _ => AV → AV → AV → AV → AV → AV → AV → AHeap → Kont → Bool) (fun _ _ _ _ _ _ _ _ _ => false) (fun _ ih x2 x3 x4 x6 x36 x37 x38 h K => b242_10 call n (fun x2 x3 x4 x6 x36 x37 x38 h => ih x2 x3 x4 x6 x36 x37 x38 h K) x2 x3 x4 x6 x36 x37 x38 h K)
noncomputable def p242_6001 (call : CallFn) (n : Nat) (x2 x3 x4 x34 : AV) (h : AHeap) (K : Kont) : Bool :=
  allocK h [.nilMap] 1 fun v23 h => storeK h v23 x34 fun h => fadrK 3 x4 fun v25 => loadK h v25 fun v26 => lenK v26 fun v27 => l242_10 call n n x2 x3 x4 v23 v26 v27 (.int .i64 0) h K
noncomputable def s242 (call : CallFn) (n : Nat) (x0 x1 x2 : AV) (h : AHeap) (K : Kont) : Bool :=
  boxK h x0 fun v1 h => optPK (boxA h (none) 19 x1) fun v2 h => loadK h v1 fun v3 => nilckK v3 fun v4 => fadrK 3 v4 fun v5 => loadK h v5 fun v6 => fadrK 2 v2 fun v7 => loadK h v7 fun v8 => call (.func 150) [v6, v8] h <| pz K fun v9 h => gK v9 true (fadrK 1 v2) fun v10 => gK v9 true (loadK h v10) fun v11 => gK v9 true (eqlK v11 (.str [])) fun v12 => gK v9 true (optK (some v12)) fun v13 => gK v13 false (optK (some x2)) fun v14 => gK v13 false (fadrK 1 v2) fun v15 => gK v13 false (loadK h v15) fun v16 => gP v13 false (fun k => call (.func 106) [v14, v16] h (pz K k)) h fun v17 h => gK v13 false (notK v17) fun v18 => gK v9 true (pickK v13 (.bool true) v18) fun v19 => pickK v9 v19 (.bool false) fun v20 => call (.func 184) [v20] h <| pz K fun v21 h => call (.func 186) [x2] h <| pz K fun v22 h => p242_6001 call n x2 v1 v2 v22 h K

/-! ### 259 proctor/check.sum -/
noncomputable def b259_8 (call : CallFn) (n : Nat) (B8 : F4) (x3 x6 x7 x8 : AV) (h : AHeap) (K : Kont) : Bool :=
  lssK x8 x7 fun v2 => condK v2 (iadrK h 1 x6 x8 fun v3 => loadK h v3 fun v4 => addK (.int .i64 1) v4 fun v5 => addK x3 v5 fun v6 => addK x8 (.int .i64 1) fun v7 => B8 v6 x6 x7 v7 h) (K x3 h)
noncomputable def l259_8 (call : CallFn) (n : Nat) : Nat → AV → AV → AV → AV → AHeap → Kont → Bool :=
  @Nat.rec (fun _ => AV → AV → AV → AV → AHeap → Kont → Bool) (fun _ _ _ _ _ _ => false) (fun _ ih x3 x6 x7 x8 h K => b259_8 call n (fun x3 x6 x7 x8 h => ih x3 x6 x7 x8 h K) x3 x6 x7 x8 h K)
noncomputable def s259 (call : CallFn) (n : Nat) (x0 : AV) (h : AHeap) (K : Kont) : Bool :=
  lenK x0 fun v1 => l259_8 call n n (.int .i64 0) x0 v1 (.int .i64 0) h K

/-! ### 260 proctor/desugar.cell -/
noncomputable def p260_23 (call : CallFn) (n : Nat) (x1 x2 : AV) (h : AHeap) (K : Kont) : Bool :=
  loadGK h 5 x1 fun v22 => storeNK h 5 x2 v22 fun h => optR (resV h [(x2, some (true, 5))]) h K
noncomputable def b260_10 (call : CallFn) (n : Nat) (B10 : F5) (x1 x2 x9 x10 x11 : AV) (h : AHeap) (K : Kont) : Bool :=
  lssK x11 x10 fun v8 => condK v8 (iadrK h 5 x9 x11 fun v9 => loadGK h 5 v9 fun v10 => allocK h [.int .i64 0, .bool false, .int .i64 0, .str [], .nilSlc] 5 fun v11 h => storeNK h 5 v11 v10 fun h => fadrK 4 x1 fun v13 => loadK h v13 fun v14 => loadGK h 5 v11 fun v15 => call (.func 260) [v15] h <| pz K fun v16 h => loadK h v13 <| sameK v14 <| optPK (bsliceV h 1 5 [.int .i64 0, .bool false, .int .i64 0, .str [], .nilSlc] [(0, v16)]) fun v17 h => loadK h v13 <| sameK v14 <| loadGK h 5 v11 <| sameK v15 <| appK h 5 64 v14 v17 fun v18 h => fadrK 4 x1 fun v19 => storeK h v19 v18 fun h => addK x11 (.int .i64 1) fun v21 => B10 x1 x2 x9 x10 v21 h) (p260_23 call n x1 x2 h K)
noncomputable def l260_10 (call : CallFn) (n : Nat) : Nat → AV → AV → AV → AV → AV → AHeap → Kont → Bool :=
  @Nat.rec (fun _ => AV → AV → AV → AV → AV → AHeap → Kont → Bool) (fun _ _ _ _ _ _ _ => false) (fun _ ih x1 x2 x9 x10 x11 h K => b260_10 call n (fun x1 x2 x9 x10 x11 h => ih x1 x2 x9 x10 x11 h K) x1 x2 x9 x10 x11 h K)
noncomputable def s260 (call : CallFn) (n : Nat) (x0 : AV) (h : AHeap) (K : Kont) : Bool :=
  optPK (boxA h (none) 5 x0) fun v1 h => allocK h [.int .i64 0, .bool false, .int .i64 0, .str [], .nilSlc] 5 fun v2 h => fadrK 4 v1 fun v3 => loadK h v3 fun v4 => fadrK 4 v1 fun v5 => storeK h v5 .nilSlc fun h => lenK v4 fun v7 => l260_10 call n n v1 v2 v4 v7 (.int .i64 0) h K

/-! ### 261 internal/strconv.Itoa -/
noncomputable def s261 (call : CallFn) (n : Nat) (x0 : AV) (h : AHeap) (K : Kont) : Bool :=
  call (.func 274) [x0, (.int .i64 10)] h <| pz K fun v1 h => K v1 h

/-! ### 262 (*strings.Builder).copyCheck -/
noncomputable def p262_4001 (call : CallFn) (n : Nat) (x7 x10 : AV) (h : AHeap) (K : Kont) : Bool :=
  optK (ufrA h 183 2 [(184, (3, 0)), (185, (3, 0))] x10) fun v7 => nilckK x7 fun v8 => fadrK 0 v8 fun v9 => storeK h v9 v7 fun h => K (.tup []) h
noncomputable def s262 (call : CallFn) (n : Nat) (x0 : AV) (h : AHeap) (K : Kont) : Bool :=
  nilckK x0 fun v1 => fadrK 0 v1 fun v2 => loadK h v2 fun v3 => optK (eqV h false .ptr v3 .nilPtr) fun v4 => condK v4 (optK (utoA h x0) fun v5 => call (.func 292) [v5] h <| pz K fun v6 h => p262_4001 call n x0 v6 h K) (nilckK x0 fun v11 => fadrK 0 v11 fun v12 => loadK h v12 fun v13 => optK (eqV h true .ptr v13 x0) fun v14 => condK v14 (false) (K (.tup []) h))

/-! ### 263 proctor/value.Check -/
noncomputable def s263 (call : CallFn) (n : Nat) (x0 : AV) (h : AHeap) (K : Kont) : Bool :=
  optPK (boxA h (none) 5 x0) fun v1 h => loadGK h 5 v1 fun v2 => call (.func 293) [v2, (.int .i64 0)] h <| pz K fun v3 h => K v3 h

/-! ### 264 proctor/value.lay -/
noncomputable def p264_12001 (call : CallFn) (n : Nat) (x17 x20 : AV) (h : AHeap) (K : Kont) : Bool :=
  optK (convA .u8 x20) fun v13 => optPK (bsliceV h 1 1 [.int .u8 0] [(0, v13)]) fun v14 h => optPK (appbA h 5 x17 v14) fun v15 h => K v15 h
noncomputable def b264_32 (call : CallFn) (n : Nat) (B32 : F4) (x0 x52 x53 x54 : AV) (h : AHeap) (K : Kont) : Bool :=
  lssK x54 x53 fun v39 => condK v39 (iadrK h 5 x52 x54 fun v40 => loadGK h 5 v40 fun v41 => allocK h [.int .i64 0, .bool false, .int .i64 0, .str [], .nilSlc] 5 fun v42 h => storeNK h 5 v42 v41 fun h => loadGK h 5 v42 fun v44 => call (.func 264) [x0, v44] h <| pz K fun v45 h => addK x54 (.int .i64 1) fun v46 => B32 v45 x52 x53 v46 h) (K x0 h)
noncomputable def l264_32 (call : CallFn) (n : Nat) : Nat → AV → AV → AV → AV → AHeap → Kont → Bool :=
  @Nat.rec (fun _ => AV → AV → AV → AV → AHeap → Kont → Bool) (fun _ _ _ _ _ _ => false) (fun _ ih x0 x52 x53 x54 h K => b264_32 call n (fun x0 x52 x53 x54 h => ih x0 x52 x53 x54 h K) x0 x52 x53 x54 h K)
noncomputable def p264_18 (call : CallFn) (n : Nat) (x0 x3 x14 x24 : AV) (h : AHeap) (K : Kont) : Bool :=
  condK x24 (fadrK 2 x3 fun v17 => loadK h v17 fun v18 => optK (convA .u64 v18) fun v19 => call (.func 295) [x0, v19, (.int .i64 8)] h <| pz K fun v20 h => K v20 h) (eqlK x14 (.int .i64 3) fun v21 => condK v21 (fadrK 3 x3 fun v22 => loadK h v22 fun v23 => lenSK v23 fun v24 => optK (convA .u64 v24) fun v25 => fadrK 3 x3 fun v26 => loadK h v26 fun v27 => call (.func 295) [x0, v25, (.int .i64 4)] h <| pz K fun v28 h => loadK h v26 <| sameK v27 <| optPK (appbA h 5 v28 v27) fun v29 h => K v29 h) (eqlK x14 (.int .i64 4) fun v30 => condK v30 (fadrK 4 x3 fun v31 => loadK h v31 fun v32 => lenK v32 fun v33 => optK (convA .u64 v33) fun v34 => call (.func 295) [x0, v34, (.int .i64 4)] h <| pz K fun v35 h => fadrK 4 x3 fun v36 => loadK h v36 fun v37 => lenK v37 fun v38 => l264_32 call n n v35 v37 v38 (.int .i64 0) h K) (K x0 h)))
noncomputable def s264 (call : CallFn) (n : Nat) (x0 x1 : AV) (h : AHeap) (K : Kont) : Bool :=
  optPK (boxA h (none) 5 x1) fun v1 h => fadrK 0 v1 fun v2 => loadK h v2 fun v3 => optK (convA .u8 v3) fun v4 => optPK (bsliceV h 1 1 [.int .u8 0] [(0, v4)]) fun v5 h => optPK (appbA h 5 x0 v5) fun v6 h => fadrK 0 v1 fun v7 => loadK h v7 fun v8 => eqlK v8 (.int .i64 1) fun v9 => condK v9 (fadrK 1 v1 fun v10 => loadK h v10 fun v11 => call (.func 294) [v11] h <| pz K fun v12 h => p264_12001 call n v6 v12 h K) (eqlK v8 (.int .i64 2) fun v16 => condK v16 (p264_18 call n v6 v1 v8 v16 h K) (eqlK v8 (.int .i64 5) fun v47 => p264_18 call n v6 v1 v8 v47 h K))

/-! ### 265 internal/stringslite.IndexByte -/
noncomputable def s265 (call : CallFn) (n : Nat) (x0 x1 : AV) (h : AHeap) (K : Kont) : Bool :=
  call (.func 296) [x0, x1] h <| pz K fun v1 h => K v1 h

/-! ### 266 (*proctor/lex.lexer).word$1 -/
noncomputable def p266_4002 (call : CallFn) (n : Nat) (x0 x5 x7 : AV) (h : AHeap) (K : Kont) : Bool :=
  pickK x5 (.bool true) x7 fun v4 => gK v4 false (optK (some x0)) fun v5 => gK v4 false (eqlK v5 (.int .u8 95)) fun v6 => pickK v4 (.bool true) v6 fun v7 => K v7 h
noncomputable def p266_4001 (call : CallFn) (n : Nat) (x0 x4 : AV) (h : AHeap) (K : Kont) : Bool :=
  gK x4 false (optK (some x0)) fun v2 => gP x4 false (fun k => call (.func 215) [v2] h (pz K k)) h fun v3 h => p266_4002 call n x0 x4 v3 h K
noncomputable def s266 (call : CallFn) (n : Nat) (x0 : AV) (h : AHeap) (K : Kont) : Bool :=
  call (.func 213) [x0] h <| pz K fun v1 h => p266_4001 call n x0 v1 h K

/-! ### 267 (*strings.Builder).WriteByte -/
noncomputable def s267 (call : CallFn) (n : Nat) (x0 x1 : AV) (h : AHeap) (K : Kont) : Bool :=
  call (.func 262) [x0] h <| pz K fun v1 h => nilckK x0 fun v2 => fadrK 1 v2 fun v3 => loadK h v3 fun v4 => optPK (bsliceV h 1 1 [.int .u8 0] [(0, x1)]) fun v5 h => optPK (appbA h 5 v4 v5) fun v6 h => nilckK x0 fun v7 => fadrK 1 v7 fun v8 => storeK h v8 v6 fun h => K .nilIf h

/-! ### 268 strings.HasPrefix -/
noncomputable def s268 (call : CallFn) (n : Nat) (x0 x1 : AV) (h : AHeap) (K : Kont) : Bool :=
  call (.func 297) [x0, x1] h <| pz K fun v1 h => K v1 h

/-! ### 274 internal/strconv.FormatInt -/
noncomputable def p274_24 (call : CallFn) (n : Nat) (x6 : AV) (h : AHeap) (K : Kont) : Bool :=
  call (.func 300) [x6] h <| pz K fun v11 h => addK (.int .i64 1) v11 fun v12 => false
noncomputable def p274_44001 (call : CallFn) (n : Nat) (x50 : AV) (h : AHeap) (K : Kont) : Bool :=
  extK 0 x50 fun v16 => extK 1 x50 fun v17 => K v17 h
noncomputable def s274 (call : CallFn) (n : Nat) (x0 x1 : AV) (h : AHeap) (K : Kont) : Bool :=
  eqlK x1 (.int .i64 10) fun v1 => condK v1 (leqK (.int .i64 0) x0 fun v2 => gK v2 true (optK (some x0)) fun v3 => gK v2 true (lssK v3 (.int .i64 100)) fun v4 => pickK v2 v4 (.bool false) fun v5 => condK v5 (call (.func 299) [x0] h <| pz K fun v6 h => K v6 h) (allocK h [.int .u8 0, .int .u8 0, .int .u8 0, .int .u8 0, .int .u8 0, .int .u8 0, .int .u8 0, .int .u8 0, .int .u8 0, .int .u8 0, .int .u8 0, .int .u8 0, .int .u8 0, .int .u8 0, .int .u8 0, .int .u8 0, .int .u8 0, .int .u8 0, .int .u8 0, .int .u8 0, .int .u8 0, .int .u8 0, .int .u8 0, .int .u8 0] 24 fun v7 h => optK (convA .u64 x0) fun v8 => lssK x0 (.int .i64 0) fun v9 => condK v9 (optK (negA v8) fun v10 => p274_24 call n v10 h K) (p274_24 call n v8 h K))) (optK (convA .u64 x0) fun v13 => lssK x0 (.int .i64 0) fun v14 => call (.func 302) [.nilSlc, v13, x1, v14, (.bool false)] h <| pz K fun v15 h => p274_44001 call n v15 h K)

/-! ### 275 (*proctor/print.writer).cond -/
noncomputable def p275_100 (call : CallFn) (n : Nat) (x2 : AV) (h : AHeap) (K : Kont) : Bool :=
  loadK h x2 fun v11 => nilckK v11 fun v12 => fadrK 2 v12 fun v13 => loadK h v13 fun v14 => subK v14 (.int .i64 1) fun v15 => nilckK v11 fun v16 => fadrK 2 v16 fun v17 => storeK h v17 v15 fun h => K (.tup []) h
noncomputable def p275_62 (call : CallFn) (n : Nat) (B45 : F4) (x2 x5 x60 x61 x62 : AV) (h : AHeap) (K : Kont) : Bool :=
  loadK h x2 fun v67 => call (.func 232) [v67, x5] h <| pz K fun v68 h => addK x62 (.int .i64 1) fun v69 => B45 x2 x60 x61 v69 h
noncomputable def p275_64 (call : CallFn) (n : Nat) (x2 : AV) (h : AHeap) (K : Kont) : Bool :=
  loadK h x2 fun v70 => optPK (bsliceV h 1 1 [.str []] [(0, (.str [41]))]) fun v71 h => call (.func 228) [v70, v71] h <| pz K fun v72 h => p275_100 call n x2 h K
noncomputable def b275_45 (call : CallFn) (n : Nat) (B45 : F4) (x2 x60 x61 x62 : AV) (h : AHeap) (K : Kont) : Bool :=
  lssK x62 x61 fun v60 => condK v60 (iadrK h 1 x60 x62 fun v61 => loadK h v61 fun v62 => gtrK x62 (.int .i64 0) fun v63 => condK v63 (loadK h x2 fun v64 => optPK (bsliceV h 1 1 [.str []] [(0, (.str [111, 114]))]) fun v65 h => call (.func 228) [v64, v65] h <| pz K fun v66 h => p275_62 call n B45 x2 v62 x60 x61 x62 h K) (p275_62 call n B45 x2 v62 x60 x61 x62 h K)) (p275_64 call n x2 h K)
noncomputable def l275_45 (call : CallFn) (n : Nat) : Nat → AV → AV → AV → AV → AHeap → Kont → Bool :=
  @Nat.rec (fun _ => AV → AV → AV → AV → AHeap → Kont → Bool) (fun _ _ _ _ _ _ => false) (fun _ ih x2 x60 x61 x62 h K => b275_45 call n (fun x2 x60 x61 x62 h => ih x2 x60 x61 x62 h K) x2 x60 x61 x62 h K)
set_option maxRecDepth 100000 in
noncomputable def p275_18 (call : CallFn) (n : Nat) (x2 x3 x9 x17 : AV) (h : AHeap) (K : Kont) : Bool :=
  condK x17 (loadK h x2 fun v20 => fadrK 0 x3 fun v21 => loadK h v21 fun v22 => optPK (bsliceV h 4 1 [.str []] [(2, (.str [110, 111, 116])), (3, (.str [101, 120, 105, 115, 116, 115]))]) fun v23 h => loadK h x2 <| sameK v20 <| loadK h v21 <| sameK v22 <| iadrK h 1 v23 v22 fun v24 => loadK h v24 fun v25 => optPK (bsliceV h 2 1 [.str []] [(0, v25), (1, (.str [40]))]) fun v26 h => loadK h x2 <| sameK v20 <| loadK h v21 <| sameK v22 <| iadrK h 1 v23 v22 <| sameK v24 <| loadK h v24 <| sameK v25 <| call (.func 228) [v20, v26] h <| pz (goneQ [v26, v23] K) fun v27 h => loadK h x2 fun v28 => fadrK 5 x3 fun v29 => loadK h v29 fun v30 => call (.func 232) [v28, v30] h <| pz K fun v31 h => loadK h x2 fun v32 => optPK (bsliceV h 1 1 [.str []] [(0, (.str [41]))]) fun v33 h => call (.func 228) [v32, v33] h <| pz K fun v34 h => p275_100 call n x2 h K) (eqlK x9 (.int .i64 4) fun v35 => condK v35 (loadK h x2 fun v36 => optPK (bsliceV h 2 1 [.str []] [(0, (.str [102, 111, 114, 97, 108, 108])), (1, (.str [40]))]) fun v37 h => call (.func 228) [v36, v37] h <| pz K fun v38 h => loadK h x2 fun v39 => fadrK 5 x3 fun v40 => loadK h v40 fun v41 => call (.func 232) [v39, v41] h <| pz K fun v42 h => loadK h x2 fun v43 => optPK (bsliceV h 1 1 [.str []] [(0, (.str [59]))]) fun v44 h => call (.func 228) [v43, v44] h <| pz K fun v45 h => loadK h x2 fun v46 => fadrK 6 x3 fun v47 => loadK h v47 fun v48 => call (.func 232) [v46, v48] h <| pz K fun v49 h => loadK h x2 fun v50 => optPK (bsliceV h 1 1 [.str []] [(0, (.str [41]))]) fun v51 h => call (.func 228) [v50, v51] h <| pz K fun v52 h => p275_100 call n x2 h K) (eqlK x9 (.int .i64 5) fun v53 => condK v53 (loadK h x2 fun v54 => optPK (bsliceV h 1 1 [.str []] [(0, (.str [40]))]) fun v55 h => call (.func 228) [v54, v55] h <| pz K fun v56 h => fadrK 7 x3 fun v57 => loadK h v57 fun v58 => lenK v58 fun v59 => l275_45 call n n x2 v58 v59 (.int .i64 0) h K) (eqlK x9 (.int .i64 6) fun v73 => condK v73 (loadK h x2 fun v74 => fadrK 1 x3 fun v75 => loadK h v75 fun v76 => addK (.str [36]) v76 fun v77 => optPK (bsliceV h 2 1 [.str []] [(0, v77), (1, (.str [102, 114, 111, 109]))]) fun v78 h => call (.func 228) [v74, v78] h <| pz K fun v79 h => loadK h x2 fun v80 => fadrK 8 x3 fun v81 => loadGK h 8 v81 fun v82 => call (.func 277) [v80, v82, (.int .i64 0)] h <| pz K fun v83 h => p275_100 call n x2 h K) (eqlK x9 (.int .i64 7) fun v84 => condK v84 (loadK h x2 fun v85 => fadrK 1 x3 fun v86 => loadK h v86 fun v87 => addK (.str [36]) v87 fun v88 => fadrK 16 x3 fun v89 => loadK h v89 fun v90 => optPK (bsliceV h 6 1 [.str []] [(0, (.str [97, 99, 99])), (1, (.str [40])), (2, v88), (3, (.str [58])), (4, v90), (5, (.str [40]))]) fun v91 h => call (.func 228) [v85, v91] h <| pz K fun v92 h => loadK h x2 fun v93 => fadrK 8 x3 fun v94 => loadGK h 8 v94 fun v95 => call (.func 277) [v93, v95, (.int .i64 0)] h <| pz K fun v96 h => loadK h x2 fun v97 => optPK (bsliceV h 2 1 [.str []] [(0, (.str [41])), (1, (.str [111, 118, 101, 114]))]) fun v98 h => call (.func 228) [v97, v98] h <| pz K fun v99 h => loadK h x2 fun v100 => fadrK 5 x3 fun v101 => loadK h v101 fun v102 => call (.func 232) [v100, v102] h <| pz K fun v103 h => loadK h x2 fun v104 => optPK (bsliceV h 1 1 [.str []] [(0, (.str [41]))]) fun v105 h => call (.func 228) [v104, v105] h <| pz K fun v106 h => p275_100 call n x2 h K) (eqlK x9 (.int .i64 8) fun v107 => condK v107 (loadK h x2 fun v108 => optPK (bsliceV h 2 1 [.str []] [(0, (.str [101, 118, 97, 108])), (1, (.str [40]))]) fun v109 h => call (.func 228) [v108, v109] h <| pz K fun v110 h => loadK h x2 fun v111 => fadrK 8 x3 fun v112 => loadGK h 8 v112 fun v113 => call (.func 277) [v111, v113, (.int .i64 0)] h <| pz K fun v114 h => loadK h x2 fun v115 => optPK (bsliceV h 1 1 [.str []] [(0, (.str [41]))]) fun v116 h => call (.func 228) [v115, v116] h <| pz K fun v117 h => p275_100 call n x2 h K) (eqlK x9 (.int .i64 9) fun v118 => condK v118 (loadK h x2 fun v119 => fadrK 17 x3 fun v120 => loadK h v120 fun v121 => optPK (bsliceV h 3 1 [.str []] [(0, (.str [63])), (1, v121), (2, (.str [40]))]) fun v122 h => call (.func 228) [v119, v122] h <| pz K fun v123 h => loadK h x2 fun v124 => fadrK 18 x3 fun v125 => loadK h v125 fun v126 => optK (some (.fn (.func 306) [] [x2])) fun v127 => call (.func 305) [v124, v126, v127] h <| pz K fun v128 h => loadK h x2 fun v129 => optPK (bsliceV h 1 1 [.str []] [(0, (.str [41]))]) fun v130 h => call (.func 228) [v129, v130] h <| pz K fun v131 h => p275_100 call n x2 h K) (buildK [] [] fun v132 => optK (mkifA 275 v132) fun v133 => pncK K v133 h)))))))
noncomputable def s275 (call : CallFn) (n : Nat) (x0 x1 : AV) (h : AHeap) (K : Kont) : Bool :=
  boxK h x0 fun v1 h => optPK (boxA h (none) 19 x1) fun v2 h => loadK h v1 fun v3 => call (.func 303) [v3] h <| pz K fun v4 h => fadrK 0 v2 fun v5 => loadK h v5 fun v6 => eqlK v6 (.int .i64 1) fun v7 => condK v7 (loadK h v1 fun v8 => loadGK h 19 v2 fun v9 => call (.func 304) [v8, v9] h <| pz K fun v10 h => p275_100 call n v1 h K) (eqlK v6 (.int .i64 2) fun v19 => condK v19 (p275_18 call n v1 v2 v6 v19 h K) (eqlK v6 (.int .i64 3) fun v135 => p275_18 call n v1 v2 v6 v135 h K))

/-! ### 278 slices.EqualFunc[[]proctor/api.Cond,[]proctor/api.Cond,proctor/api.Cond,proctor/api.Cond] -/
noncomputable def p278_29001 (call : CallFn) (n : Nat) (B14 : F5) (x1 x2 x15 x16 x17 x29 : AV) (h : AHeap) (K : Kont) : Bool :=
  notK x29 fun v17 => condK v17 (K (.bool false) h) (addK x17 (.int .i64 1) fun v18 => B14 x1 x2 x15 x16 v18 h)
noncomputable def b278_14 (call : CallFn) (n : Nat) (B14 : F5) (x1 x2 x15 x16 x17 : AV) (h : AHeap) (K : Kont) : Bool :=
  lssK x17 x16 fun v5 => condK v5 (iadrK h 19 x15 x17 fun v6 => loadGK h 19 v6 fun v7 => allocK h [.int .i64 0, .str [], .str [], .nilSlc, .nilSlc, .nilSlc, .nilSlc, .nilSlc, .int .i64 0, .str [], .int .i64 0, .bool false, .int .i64 0, .str [], .nilSlc, .nilSlc, .str [], .str [], .nilSlc] 19 fun v8 h => storeNK h 19 v8 v7 fun h => iadrK h 19 x1 x17 fun v10 => loadGK h 19 v10 fun v11 => allocK h [.int .i64 0, .str [], .str [], .nilSlc, .nilSlc, .nilSlc, .nilSlc, .nilSlc, .int .i64 0, .str [], .int .i64 0, .bool false, .int .i64 0, .str [], .nilSlc, .nilSlc, .str [], .str [], .nilSlc] 19 fun v12 h => storeNK h 19 v12 v11 fun h => loadGK h 19 v8 fun v14 => loadGK h 19 v12 fun v15 => callV call x2 [v14, v15] h <| pz K fun v16 h => p278_29001 call n B14 x1 x2 x15 x16 x17 v16 h K) (K (.bool true) h)
noncomputable def l278_14 (call : CallFn) (n : Nat) : Nat → AV → AV → AV → AV → AV → AHeap → Kont → Bool :=
  @Nat.rec (fun _ => AV → AV → AV → AV → AV → AHeap → Kont → Bool) (fun _ _ _ _ _ _ _ => false) (fun _ ih x1 x2 x15 x16 x17 h K => b278_14 call n (fun x1 x2 x15 x16 x17 h => ih x1 x2 x15 x16 x17 h K) x1 x2 x15 x16 x17 h K)
noncomputable def p278_10 (call : CallFn) (n : Nat) (x0 x1 x2 : AV) (h : AHeap) (K : Kont) : Bool :=
  lenK x0 fun v4 => l278_14 call n n x1 x2 x0 v4 (.int .i64 0) h K
noncomputable def s278 (call : CallFn) (n : Nat) (x0 x1 x2 : AV) (h : AHeap) (K : Kont) : Bool :=
  lenK x0 fun v1 => lenK x1 fun v2 => neqK v1 v2 fun v3 => condK v3 (K (.bool false) h) (p278_10 call n x0 x1 x2 h K)

/-! ### 279 proctor/print.sameCond -/
noncomputable def p279_4007 (call : CallFn) (n : Nat) (x80 x85 : AV) (h : AHeap) (K : Kont) : Bool :=
  pickK x80 x85 (.bool false) fun v73 => K v73 h
noncomputable def p279_4006 (call : CallFn) (n : Nat) (x2 x3 x73 x78 : AV) (h : AHeap) (K : Kont) : Bool :=
  pickK x73 x78 (.bool false) fun v67 => gK v67 true (fadrK 18 x2) fun v68 => gK v67 true (loadK h v68) fun v69 => gK v67 true (fadrK 18 x3) fun v70 => gK v67 true (loadK h v70) fun v71 => gP v67 true (fun k => call (.func 314) [v69, v71, (.fn (.func 315) [] [])] h (pz K k)) h fun v72 h => p279_4007 call n v67 v72 h K
noncomputable def p279_4005 (call : CallFn) (n : Nat) (x2 x3 x66 x71 : AV) (h : AHeap) (K : Kont) : Bool :=
  pickK x66 x71 (.bool false) fun v61 => gK v61 true (fadrK 8 x2) fun v62 => gK v61 true (loadGK h 8 v62) fun v63 => gK v61 true (fadrK 8 x3) fun v64 => gK v61 true (loadGK h 8 v64) fun v65 => gP v61 true (fun k => call (.func 282) [v63, v65] h (pz K k)) h fun v66 h => p279_4006 call n x2 x3 v61 v66 h K
noncomputable def p279_4004 (call : CallFn) (n : Nat) (x2 x3 x59 x64 : AV) (h : AHeap) (K : Kont) : Bool :=
  pickK x59 x64 (.bool false) fun v55 => gK v55 true (fadrK 7 x2) fun v56 => gK v55 true (loadK h v56) fun v57 => gK v55 true (fadrK 7 x3) fun v58 => gK v55 true (loadK h v58) fun v59 => gP v55 true (fun k => call (.func 313) [v57, v59, (.fn (.func 237) [] [])] h (pz K k)) h fun v60 h => p279_4005 call n x2 x3 v55 v60 h K
noncomputable def p279_4003 (call : CallFn) (n : Nat) (x2 x3 x52 x57 : AV) (h : AHeap) (K : Kont) : Bool :=
  pickK x52 x57 (.bool false) fun v49 => gK v49 true (fadrK 6 x2) fun v50 => gK v49 true (loadK h v50) fun v51 => gK v49 true (fadrK 6 x3) fun v52 => gK v49 true (loadK h v52) fun v53 => gP v49 true (fun k => call (.func 237) [v51, v53] h (pz K k)) h fun v54 h => p279_4004 call n x2 x3 v49 v54 h K
noncomputable def p279_4002 (call : CallFn) (n : Nat) (x2 x3 x45 x50 : AV) (h : AHeap) (K : Kont) : Bool :=
  pickK x45 x50 (.bool false) fun v43 => gK v43 true (fadrK 5 x2) fun v44 => gK v43 true (loadK h v44) fun v45 => gK v43 true (fadrK 5 x3) fun v46 => gK v43 true (loadK h v46) fun v47 => gP v43 true (fun k => call (.func 237) [v45, v47] h (pz K k)) h fun v48 h => p279_4003 call n x2 x3 v43 v48 h K
noncomputable def p279_4001 (call : CallFn) (n : Nat) (x2 x3 x38 x43 : AV) (h : AHeap) (K : Kont) : Bool :=
  pickK x38 x43 (.bool false) fun v37 => gK v37 true (fadrK 4 x2) fun v38 => gK v37 true (loadK h v38) fun v39 => gK v37 true (fadrK 4 x3) fun v40 => gK v37 true (loadK h v40) fun v41 => gP v37 true (fun k => call (.func 312) [v39, v41, (.fn (.func 282) [] [])] h (pz K k)) h fun v42 h => p279_4002 call n x2 x3 v37 v42 h K
noncomputable def s279 (call : CallFn) (n : Nat) (x0 x1 : AV) (h : AHeap) (K : Kont) : Bool :=
  optPK (boxA h (none) 19 x0) fun v1 h => optPK (boxA h (none) 19 x1) fun v2 h => fadrK 0 v1 fun v3 => loadK h v3 fun v4 => fadrK 0 v2 fun v5 => loadK h v5 fun v6 => eqlK v4 v6 fun v7 => gK v7 true (fadrK 1 v1) fun v8 => gK v7 true (loadK h v8) fun v9 => gK v7 true (fadrK 1 v2) fun v10 => gK v7 true (loadK h v10) fun v11 => gK v7 true (eqlK v9 v11) fun v12 => pickK v7 v12 (.bool false) fun v13 => gK v13 true (fadrK 2 v1) fun v14 => gK v13 true (loadK h v14) fun v15 => gK v13 true (fadrK 2 v2) fun v16 => gK v13 true (loadK h v16) fun v17 => gK v13 true (eqlK v15 v17) fun v18 => pickK v13 v18 (.bool false) fun v19 => gK v19 true (fadrK 16 v1) fun v20 => gK v19 true (loadK h v20) fun v21 => gK v19 true (fadrK 16 v2) fun v22 => gK v19 true (loadK h v22) fun v23 => gK v19 true (eqlK v21 v23) fun v24 => pickK v19 v24 (.bool false) fun v25 => gK v25 true (fadrK 17 v1) fun v26 => gK v25 true (loadK h v26) fun v27 => gK v25 true (fadrK 17 v2) fun v28 => gK v25 true (loadK h v28) fun v29 => gK v25 true (eqlK v27 v29) fun v30 => pickK v25 v30 (.bool false) fun v31 => gK v31 true (fadrK 3 v1) fun v32 => gK v31 true (loadK h v32) fun v33 => gK v31 true (fadrK 3 v2) fun v34 => gK v31 true (loadK h v34) fun v35 => gP v31 true (fun k => call (.func 311) [v33, v35] h (pz K k)) h fun v36 h => p279_4001 call n v1 v2 v31 v36 h K

/-! ### 282 proctor/print.sameExpr -/
noncomputable def p282_4002 (call : CallFn) (n : Nat) (x24 x29 : AV) (h : AHeap) (K : Kont) : Bool :=
  pickK x24 x29 (.bool false) fun v25 => K v25 h
noncomputable def p282_4001 (call : CallFn) (n : Nat) (x2 x3 x17 x22 : AV) (h : AHeap) (K : Kont) : Bool :=
  pickK x17 x22 (.bool false) fun v19 => gK v19 true (fadrK 7 x2) fun v20 => gK v19 true (loadK h v20) fun v21 => gK v19 true (fadrK 7 x3) fun v22 => gK v19 true (loadK h v22) fun v23 => gP v19 true (fun k => call (.func 312) [v21, v23, (.fn (.func 282) [] [])] h (pz K k)) h fun v24 h => p282_4002 call n v19 v24 h K
noncomputable def s282 (call : CallFn) (n : Nat) (x0 x1 : AV) (h : AHeap) (K : Kont) : Bool :=
  optPK (boxA h (none) 8 x0) fun v1 h => optPK (boxA h (none) 8 x1) fun v2 h => fadrK 0 v1 fun v3 => loadK h v3 fun v4 => fadrK 0 v2 fun v5 => loadK h v5 fun v6 => eqlK v4 v6 fun v7 => gK v7 true (fadrK 1 v1) fun v8 => gK v7 true (loadK h v8) fun v9 => gK v7 true (fadrK 1 v2) fun v10 => gK v7 true (loadK h v10) fun v11 => gK v7 true (eqlK v9 v11) fun v12 => pickK v7 v12 (.bool false) fun v13 => gK v13 true (fadrK 2 v1) fun v14 => gK v13 true (loadGK h 5 v14) fun v15 => gK v13 true (fadrK 2 v2) fun v16 => gK v13 true (loadGK h 5 v16) fun v17 => gP v13 true (fun k => call (.func 316) [v15, v17] h (pz K k)) h fun v18 h => p282_4001 call n v1 v2 v13 v18 h K

/-! ### 284 maps.Copy[proctor/check.scope,proctor/check.scope,string,proctor/check.state] -/
noncomputable def b284_3 (call : CallFn) (n : Nat) (B3 : F2) (x0 x7 : AV) (h : AHeap) (K : Kont) : Bool :=
  nextA h x7 fun v2 h => extK 0 v2 fun v3 => condK v3 (optK (entA h x7) fun v4 => extK 0 v4 fun v5 => extK 1 v4 fun v6 => optPK (unit (mupdA h (.leaf .str) x0 v5 v6)) fun _ h => B3 x0 x7 h) (K (.tup []) h)
noncomputable def l284_3 (call : CallFn) (n : Nat) : Nat → AV → AV → AHeap → Kont → Bool :=
  @Nat.rec (fun _ => AV → AV → AHeap → Kont → Bool) (fun _ _ _ _ => false) (fun _ ih x0 x7 h K => b284_3 call n (fun x0 x7 h => ih x0 x7 h K) x0 x7 h K)
noncomputable def s284 (call : CallFn) (n : Nat) (x0 x1 : AV) (h : AHeap) (K : Kont) : Bool :=
  optPK (rngA h x1) fun v1 h => l284_3 call n n x0 v1 h K

/-! ### 293 proctor/value.checked -/
noncomputable def p293_64 (call : CallFn) (n : Nat) (x2 x5 : AV) (h : AHeap) (K : Kont) : Bool :=
  fadrK 1 x2 fun v10 => loadK h v10 fun v11 => fadrK 1 x5 fun v12 => loadK h v12 fun v13 => optK (eqV h false .bool v11 v13) fun v14 => gK v14 true (fadrK 2 x2) fun v15 => gK v14 true (loadK h v15) fun v16 => gK v14 true (fadrK 2 x5) fun v17 => gK v14 true (loadK h v17) fun v18 => gK v14 true (eqlK v16 v18) fun v19 => pickK v14 v19 (.bool false) fun v20 => gK v20 true (fadrK 3 x2) fun v21 => gK v20 true (loadK h v21) fun v22 => gK v20 true (fadrK 3 x5) fun v23 => gK v20 true (loadK h v23) fun v24 => gK v20 true (eqlK v22 v24) fun v25 => pickK v20 v25 (.bool false) fun v26 => gK v26 true (fadrK 3 x2) fun v27 => gK v26 true (loadK h v27) fun v28 => gK v26 true (lenSK v28) fun v29 => gK v26 true (leqK v29 (.int .i64 65536)) fun v30 => pickK v26 v30 (.bool false) fun v31 => gK v31 true (fadrK 4 x2) fun v32 => gK v31 true (loadK h v32) fun v33 => gK v31 true (lenK v33) fun v34 => gK v31 true (eqlK v34 (.int .i64 0)) fun v35 => gK v31 true (optK (some v35)) fun v36 => gK v36 false (fadrK 0 x2) fun v37 => gK v36 false (loadK h v37) fun v38 => gK v36 false (eqlK v38 (.int .i64 4)) fun v39 => gK v31 true (pickK v36 (.bool true) v39) fun v40 => pickK v31 v40 (.bool false) fun v41 => K v41 h
noncomputable def p293_55001 (call : CallFn) (n : Nat) (B42 : F6) (x1 x2 x5 x47 x48 x49 x56 : AV) (h : AHeap) (K : Kont) : Bool :=
  notK x56 fun v81 => condK v81 (K (.bool false) h) (addK x49 (.int .i64 1) fun v82 => B42 x1 x2 x5 x47 x48 v82 h)
noncomputable def b293_42 (call : CallFn) (n : Nat) (B42 : F6) (x1 x2 x5 x47 x48 x49 : AV) (h : AHeap) (K : Kont) : Bool :=
  lssK x49 x48 fun v73 => condK v73 (iadrK h 5 x47 x49 fun v74 => loadGK h 5 v74 fun v75 => allocK h [.int .i64 0, .bool false, .int .i64 0, .str [], .nilSlc] 5 fun v76 h => storeNK h 5 v76 v75 fun h => loadGK h 5 v76 fun v78 => addK x1 (.int .i64 1) fun v79 => call (.func 293) [v78, v79] h <| pz K fun v80 h => p293_55001 call n B42 x1 x2 x5 x47 x48 x49 v80 h K) (p293_64 call n x2 x5 h K)
noncomputable def l293_42 (call : CallFn) (n : Nat) : Nat → AV → AV → AV → AV → AV → AV → AHeap → Kont → Bool :=
  @Nat.rec (fun _ => AV → AV → AV → AV → AV → AV → AHeap → Kont → Bool) (fun _ _ _ _ _ _ _ _ => false) (fun _ ih x1 x2 x5 x47 x48 x49 h K => b293_42 call n (fun x1 x2 x5 x47 x48 x49 h => ih x1 x2 x5 x47 x48 x49 h K) x1 x2 x5 x47 x48 x49 h K)
noncomputable def p293_39 (call : CallFn) (n : Nat) (x1 x2 x5 : AV) (h : AHeap) (K : Kont) : Bool :=
  fadrK 4 x2 fun v70 => loadK h v70 fun v71 => lenK v71 fun v72 => l293_42 call n n x1 x2 x5 v71 v72 (.int .i64 0) h K
set_option maxRecDepth 100000 in
noncomputable def s293 (call : CallFn) (n : Nat) (x0 x1 : AV) (h : AHeap) (K : Kont) : Bool :=
  optPK (boxA h (none) 5 x0) fun v1 h => fadrK 0 v1 fun v2 => loadK h v2 fun v3 => buildK [.int .i64 0, .bool false, .int .i64 0, .str [], .nilSlc] [(0, 1, v3)] fun v4 => allocK h [.int .i64 0, .bool false, .int .i64 0, .str [], .nilSlc] 5 fun v5 h => storeNK h 5 v5 v4 fun h => fadrK 0 v1 fun v7 => loadK h v7 fun v8 => eqlK v8 (.int .i64 0) fun v9 => condK v9 (p293_64 call n v1 v5 h K) (eqlK v8 (.int .i64 1) fun v42 => condK v42 (fadrK 1 v1 fun v43 => loadK h v43 fun v44 => fadrK 1 v5 fun v45 => storeK h v45 v44 fun h => p293_64 call n v1 v5 h K) (eqlK v8 (.int .i64 2) fun v47 => condK v47 (fadrK 2 v1 fun v48 => loadK h v48 fun v49 => fadrK 2 v5 fun v50 => storeK h v50 v49 fun h => p293_64 call n v1 v5 h K) (eqlK v8 (.int .i64 5) fun v52 => condK v52 (fadrK 2 v1 fun v53 => loadK h v53 fun v54 => optK (mmV true [v54, (.int .i64 1)]) fun v55 => fadrK 2 v5 fun v56 => storeK h v56 v55 fun h => p293_64 call n v1 v5 h K) (eqlK v8 (.int .i64 3) fun v58 => condK v58 (fadrK 3 v1 fun v59 => loadK h v59 fun v60 => fadrK 3 v5 fun v61 => storeK h v61 v60 fun h => p293_64 call n v1 v5 h K) (eqlK v8 (.int .i64 4) fun v63 => condK v63 (geqK x1 (.int .i64 30) fun v64 => gK v64 false (fadrK 4 v1) fun v65 => gK v64 false (loadK h v65) fun v66 => gK v64 false (lenK v66) fun v67 => gK v64 false (gtrK v67 (.int .i64 4096)) fun v68 => pickK v64 (.bool true) v68 fun v69 => condK v69 (K (.bool false) h) (p293_39 call n x1 v1 v5 h K)) (K (.bool false) h))))))

/-! ### 297 internal/stringslite.HasPrefix -/
noncomputable def s297 (call : CallFn) (n : Nat) (x0 x1 : AV) (h : AHeap) (K : Kont) : Bool :=
  lenSK x0 fun v1 => lenSK x1 fun v2 => geqK v1 v2 fun v3 => gK v3 true (optK (some x0)) fun v4 => gK v3 true (optK (some x1)) fun v5 => gK v3 true (lenSK v5) fun v6 => gK v3 true (slsK v4 none (some v6)) fun v7 => gK v3 true (optK (some x1)) fun v8 => gK v3 true (eqlK v7 v8) fun v9 => pickK v3 v9 (.bool false) fun v10 => K v10 h

/-! ### 299 internal/strconv.small -/
noncomputable def s299 (call : CallFn) (n : Nat) (x0 : AV) (h : AHeap) (K : Kont) : Bool :=
  lssK x0 (.int .i64 10) fun v1 => condK v1 (addK x0 (.int .i64 1) fun v2 => slsK (.str [48, 49, 50, 51, 52, 53, 54, 55, 56, 57, 97, 98, 99, 100, 101, 102, 103, 104, 105, 106, 107, 108, 109, 110, 111, 112, 113, 114, 115, 116, 117, 118, 119, 120, 121, 122]) (some x0) (some v2) fun v3 => K v3 h) (optK (binA .mul x0 (.int .i64 2)) fun v4 => optK (binA .mul x0 (.int .i64 2)) fun v5 => addK v5 (.int .i64 2) fun v6 => slsK (.str [48, 48, 48, 49, 48, 50, 48, 51, 48, 52, 48, 53, 48, 54, 48, 55, 48, 56, 48, 57, 49, 48, 49, 49, 49, 50, 49, 51, 49, 52, 49, 53, 49, 54, 49, 55, 49, 56, 49, 57, 50, 48, 50, 49, 50, 50, 50, 51, 50, 52, 50, 53, 50, 54, 50, 55, 50, 56, 50, 57, 51, 48, 51, 49, 51, 50, 51, 51, 51, 52, 51, 53, 51, 54, 51, 55, 51, 56, 51, 57, 52, 48, 52, 49, 52, 50, 52, 51, 52, 52, 52, 53, 52, 54, 52, 55, 52, 56, 52, 57, 53, 48, 53, 49, 53, 50, 53, 51, 53, 52, 53, 53, 53, 54, 53, 55, 53, 56, 53, 57, 54, 48, 54, 49, 54, 50, 54, 51, 54, 52, 54, 53, 54, 54, 54, 55, 54, 56, 54, 57, 55, 48, 55, 49, 55, 50, 55, 51, 55, 52, 55, 53, 55, 54, 55, 55, 55, 56, 55, 57, 56, 48, 56, 49, 56, 50, 56, 51, 56, 52, 56, 53, 56, 54, 56, 55, 56, 56, 56, 57, 57, 48, 57, 49, 57, 50, 57, 51, 57, 52, 57, 53, 57, 54, 57, 55, 57, 56, 57, 57]) (some v4) (some v6) fun v7 => K v7 h)

/-! ### 303 (*proctor/print.writer).in -/
noncomputable def s303 (call : CallFn) (n : Nat) (x0 : AV) (h : AHeap) (K : Kont) : Bool :=
  nilckK x0 fun v1 => fadrK 2 v1 fun v2 => loadK h v2 fun v3 => addK v3 (.int .i64 1) fun v4 => nilckK x0 fun v5 => fadrK 2 v5 fun v6 => storeK h v6 v4 fun h => nilckK x0 fun v8 => fadrK 2 v8 fun v9 => loadK h v9 fun v10 => leqK v10 (.int .i64 8192) fun v11 => call (.func 230) [v11] h <| pz K fun v12 h => K (.tup []) h

/-! ### 304 (*proctor/print.writer).pattern -/
noncomputable def p304_18 (call : CallFn) (n : Nat) (x2 x3 : AV) (h : AHeap) (K : Kont) : Bool :=
  loadK h x2 fun v34 => fadrK 4 x3 fun v35 => loadK h v35 fun v36 => call (.func 328) [v34, v36] h <| pz K fun v37 h => loadK h x2 fun v38 => optPK (bsliceV h 1 1 [.str []] [(0, (.str [41]))]) fun v39 h => call (.func 228) [v38, v39] h <| pz K fun v40 h => K (.tup []) h
noncomputable def p304_8 (call : CallFn) (n : Nat) (x2 x3 : AV) (h : AHeap) (K : Kont) : Bool :=
  loadK h x2 fun v12 => fadrK 2 x3 fun v13 => loadK h v13 fun v14 => optPK (bsliceV h 2 1 [.str []] [(0, v14), (1, (.str [40]))]) fun v15 h => call (.func 228) [v12, v15] h <| pz K fun v16 h => loadK h x2 fun v17 => fadrK 3 x3 fun v18 => loadK h v18 fun v19 => optK (some (.fn (.func 327) [] [x2])) fun v20 => call (.func 326) [v17, v19, v20] h <| pz K fun v21 h => fadrK 3 x3 fun v22 => loadK h v22 fun v23 => lenK v23 fun v24 => gtrK v24 (.int .i64 0) fun v25 => gK v25 true (fadrK 4 x3) fun v26 => gK v25 true (loadK h v26) fun v27 => gK v25 true (lenK v27) fun v28 => gK v25 true (gtrK v28 (.int .i64 0)) fun v29 => pickK v25 v29 (.bool false) fun v30 => condK v30 (loadK h x2 fun v31 => optPK (bsliceV h 1 1 [.str []] [(0, (.str [44]))]) fun v32 h => call (.func 228) [v31, v32] h <| pz K fun v33 h => p304_18 call n x2 x3 h K) (p304_18 call n x2 x3 h K)
noncomputable def s304 (call : CallFn) (n : Nat) (x0 x1 : AV) (h : AHeap) (K : Kont) : Bool :=
  boxK h x0 fun v1 h => optPK (boxA h (none) 19 x1) fun v2 h => fadrK 1 v2 fun v3 => loadK h v3 fun v4 => neqK v4 (.str []) fun v5 => condK v5 (loadK h v1 fun v6 => fadrK 1 v2 fun v7 => loadK h v7 fun v8 => addK (.str [36]) v8 fun v9 => optPK (bsliceV h 2 1 [.str []] [(0, v9), (1, (.str [58]))]) fun v10 h => call (.func 228) [v6, v10] h <| pz K fun v11 h => p304_8 call n v1 v2 h K) (p304_8 call n v1 v2 h K)

/-! ### 311 slices.Equal[[]proctor/api.Bind,proctor/api.Bind] -/
noncomputable def b311_14 (call : CallFn) (n : Nat) (B14 : F4) (x0 x1 x12 x13 : AV) (h : AHeap) (K : Kont) : Bool :=
  lssK x13 x12 fun v5 => condK v5 (iadrK h 2 x0 x13 fun v6 => loadGK h 2 v6 fun v7 => iadrK h 2 x1 x13 fun v8 => loadGK h 2 v8 fun v9 => optK (eqV h true (.agg [.str, .str]) v7 v9) fun v10 => condK v10 (K (.bool false) h) (addK x13 (.int .i64 1) fun v11 => B14 x0 x1 x12 v11 h)) (K (.bool true) h)
noncomputable def l311_14 (call : CallFn) (n : Nat) : Nat → AV → AV → AV → AV → AHeap → Kont → Bool :=
  @Nat.rec (fun _ => AV → AV → AV → AV → AHeap → Kont → Bool) (fun _ _ _ _ _ _ => false) (fun _ ih x0 x1 x12 x13 h K => b311_14 call n (fun x0 x1 x12 x13 h => ih x0 x1 x12 x13 h K) x0 x1 x12 x13 h K)
noncomputable def p311_10 (call : CallFn) (n : Nat) (x0 x1 : AV) (h : AHeap) (K : Kont) : Bool :=
  lenK x0 fun v4 => l311_14 call n n x0 x1 v4 (.int .i64 0) h K
noncomputable def s311 (call : CallFn) (n : Nat) (x0 x1 : AV) (h : AHeap) (K : Kont) : Bool :=
  lenK x0 fun v1 => lenK x1 fun v2 => neqK v1 v2 fun v3 => condK v3 (K (.bool false) h) (p311_10 call n x0 x1 h K)

/-! ### 312 slices.EqualFunc[[]proctor/api.Expr,[]proctor/api.Expr,proctor/api.Expr,proctor/api.Expr] -/
noncomputable def p312_29001 (call : CallFn) (n : Nat) (B14 : F5) (x1 x2 x15 x16 x17 x29 : AV) (h : AHeap) (K : Kont) : Bool :=
  notK x29 fun v17 => condK v17 (K (.bool false) h) (addK x17 (.int .i64 1) fun v18 => B14 x1 x2 x15 x16 v18 h)
noncomputable def b312_14 (call : CallFn) (n : Nat) (B14 : F5) (x1 x2 x15 x16 x17 : AV) (h : AHeap) (K : Kont) : Bool :=
  lssK x17 x16 fun v5 => condK v5 (iadrK h 8 x15 x17 fun v6 => loadGK h 8 v6 fun v7 => allocK h [.int .i64 0, .str [], .int .i64 0, .bool false, .int .i64 0, .str [], .nilSlc, .nilSlc] 8 fun v8 h => storeNK h 8 v8 v7 fun h => iadrK h 8 x1 x17 fun v10 => loadGK h 8 v10 fun v11 => allocK h [.int .i64 0, .str [], .int .i64 0, .bool false, .int .i64 0, .str [], .nilSlc, .nilSlc] 8 fun v12 h => storeNK h 8 v12 v11 fun h => loadGK h 8 v8 fun v14 => loadGK h 8 v12 fun v15 => callV call x2 [v14, v15] h <| pz K fun v16 h => p312_29001 call n B14 x1 x2 x15 x16 x17 v16 h K) (K (.bool true) h)
noncomputable def l312_14 (call : CallFn) (n : Nat) : Nat → AV → AV → AV → AV → AV → AHeap → Kont → Bool :=
  @Nat.rec (fun _ => AV → AV → AV → AV → AV → AHeap → Kont → Bool) (fun _ _ _ _ _ _ _ => false) (fun _ ih x1 x2 x15 x16 x17 h K => b312_14 call n (fun x1 x2 x15 x16 x17 h => ih x1 x2 x15 x16 x17 h K) x1 x2 x15 x16 x17 h K)
noncomputable def p312_10 (call : CallFn) (n : Nat) (x0 x1 x2 : AV) (h : AHeap) (K : Kont) : Bool :=
  lenK x0 fun v4 => l312_14 call n n x1 x2 x0 v4 (.int .i64 0) h K
noncomputable def s312 (call : CallFn) (n : Nat) (x0 x1 x2 : AV) (h : AHeap) (K : Kont) : Bool :=
  lenK x0 fun v1 => lenK x1 fun v2 => neqK v1 v2 fun v3 => condK v3 (K (.bool false) h) (p312_10 call n x0 x1 x2 h K)

/-! ### 313 slices.EqualFunc[[][]proctor/api.Cond,[][]proctor/api.Cond,[]proctor/api.Cond,[]proctor/api.Cond] -/
noncomputable def p313_29001 (call : CallFn) (n : Nat) (B14 : F5) (x1 x2 x15 x16 x17 x29 : AV) (h : AHeap) (K : Kont) : Bool :=
  notK x29 fun v11 => condK v11 (K (.bool false) h) (addK x17 (.int .i64 1) fun v12 => B14 x1 x2 x15 x16 v12 h)
noncomputable def b313_14 (call : CallFn) (n : Nat) (B14 : F5) (x1 x2 x15 x16 x17 : AV) (h : AHeap) (K : Kont) : Bool :=
  lssK x17 x16 fun v5 => condK v5 (iadrK h 1 x15 x17 fun v6 => loadK h v6 fun v7 => iadrK h 1 x1 x17 fun v8 => loadK h v8 fun v9 => callV call x2 [v7, v9] h <| pz K fun v10 h => p313_29001 call n B14 x1 x2 x15 x16 x17 v10 h K) (K (.bool true) h)
noncomputable def l313_14 (call : CallFn) (n : Nat) : Nat → AV → AV → AV → AV → AV → AHeap → Kont → Bool :=
  @Nat.rec (fun _ => AV → AV → AV → AV → AV → AHeap → Kont → Bool) (fun _ _ _ _ _ _ _ => false) (fun _ ih x1 x2 x15 x16 x17 h K => b313_14 call n (fun x1 x2 x15 x16 x17 h => ih x1 x2 x15 x16 x17 h K) x1 x2 x15 x16 x17 h K)
noncomputable def p313_10 (call : CallFn) (n : Nat) (x0 x1 x2 : AV) (h : AHeap) (K : Kont) : Bool :=
  lenK x0 fun v4 => l313_14 call n n x1 x2 x0 v4 (.int .i64 0) h K
noncomputable def s313 (call : CallFn) (n : Nat) (x0 x1 x2 : AV) (h : AHeap) (K : Kont) : Bool :=
  lenK x0 fun v1 => lenK x1 fun v2 => neqK v1 v2 fun v3 => condK v3 (K (.bool false) h) (p313_10 call n x0 x1 x2 h K)

/-! ### 314 slices.EqualFunc[[]proctor/api.Arg,[]proctor/api.Arg,proctor/api.Arg,proctor/api.Arg] -/
noncomputable def p314_29001 (call : CallFn) (n : Nat) (B14 : F5) (x1 x2 x15 x16 x17 x29 : AV) (h : AHeap) (K : Kont) : Bool :=
  notK x29 fun v17 => condK v17 (K (.bool false) h) (addK x17 (.int .i64 1) fun v18 => B14 x1 x2 x15 x16 v18 h)
noncomputable def b314_14 (call : CallFn) (n : Nat) (B14 : F5) (x1 x2 x15 x16 x17 : AV) (h : AHeap) (K : Kont) : Bool :=
  lssK x17 x16 fun v5 => condK v5 (iadrK h 9 x15 x17 fun v6 => loadGK h 9 v6 fun v7 => allocK h [.str [], .int .i64 0, .str [], .int .i64 0, .bool false, .int .i64 0, .str [], .nilSlc, .nilSlc] 9 fun v8 h => storeNK h 9 v8 v7 fun h => iadrK h 9 x1 x17 fun v10 => loadGK h 9 v10 fun v11 => allocK h [.str [], .int .i64 0, .str [], .int .i64 0, .bool false, .int .i64 0, .str [], .nilSlc, .nilSlc] 9 fun v12 h => storeNK h 9 v12 v11 fun h => loadGK h 9 v8 fun v14 => loadGK h 9 v12 fun v15 => callV call x2 [v14, v15] h <| pz K fun v16 h => p314_29001 call n B14 x1 x2 x15 x16 x17 v16 h K) (K (.bool true) h)
noncomputable def l314_14 (call : CallFn) (n : Nat) : Nat → AV → AV → AV → AV → AV → AHeap → Kont → Bool :=
  @Nat.rec (fun _ => AV → AV → AV → AV → AV → AHeap → Kont → Bool) (fun _ _ _ _ _ _ _ => false) (fun _ ih x1 x2 x15 x16 x17 h K => b314_14 call n (fun x1 x2 x15 x16 x17 h => ih x1 x2 x15 x16 x17 h K) x1 x2 x15 x16 x17 h K)
noncomputable def p314_10 (call : CallFn) (n : Nat) (x0 x1 x2 : AV) (h : AHeap) (K : Kont) : Bool :=
  lenK x0 fun v4 => l314_14 call n n x1 x2 x0 v4 (.int .i64 0) h K
noncomputable def s314 (call : CallFn) (n : Nat) (x0 x1 x2 : AV) (h : AHeap) (K : Kont) : Bool :=
  lenK x0 fun v1 => lenK x1 fun v2 => neqK v1 v2 fun v3 => condK v3 (K (.bool false) h) (p314_10 call n x0 x1 x2 h K)

/-! ### 316 proctor/value.Same -/
noncomputable def p316_4001 (call : CallFn) (n : Nat) (x31 x36 : AV) (h : AHeap) (K : Kont) : Bool :=
  pickK x31 x36 (.bool false) fun v31 => K v31 h
noncomputable def s316 (call : CallFn) (n : Nat) (x0 x1 : AV) (h : AHeap) (K : Kont) : Bool :=
  optPK (boxA h (none) 5 x0) fun v1 h => optPK (boxA h (none) 5 x1) fun v2 h => fadrK 0 v1 fun v3 => loadK h v3 fun v4 => fadrK 0 v2 fun v5 => loadK h v5 fun v6 => eqlK v4 v6 fun v7 => gK v7 true (fadrK 1 v1) fun v8 => gK v7 true (loadK h v8) fun v9 => gK v7 true (fadrK 1 v2) fun v10 => gK v7 true (loadK h v10) fun v11 => gK v7 true (optK (eqV h false .bool v9 v11)) fun v12 => pickK v7 v12 (.bool false) fun v13 => gK v13 true (fadrK 2 v1) fun v14 => gK v13 true (loadK h v14) fun v15 => gK v13 true (fadrK 2 v2) fun v16 => gK v13 true (loadK h v16) fun v17 => gK v13 true (eqlK v15 v17) fun v18 => pickK v13 v18 (.bool false) fun v19 => gK v19 true (fadrK 3 v1) fun v20 => gK v19 true (loadK h v20) fun v21 => gK v19 true (fadrK 3 v2) fun v22 => gK v19 true (loadK h v22) fun v23 => gK v19 true (eqlK v21 v23) fun v24 => pickK v19 v24 (.bool false) fun v25 => gK v25 true (fadrK 4 v1) fun v26 => gK v25 true (loadK h v26) fun v27 => gK v25 true (fadrK 4 v2) fun v28 => gK v25 true (loadK h v28) fun v29 => gP v25 true (fun k => call (.func 330) [v27, v29, (.fn (.func 316) [] [])] h (pz K k)) h fun v30 h => p316_4001 call n v25 v30 h K

/-! ### 326 proctor/print.commas[proctor/api.Bind] -/
noncomputable def p326_20 (call : CallFn) (n : Nat) (B3 : F5) (x0 x2 x7 x8 x9 x10 : AV) (h : AHeap) (K : Kont) : Bool :=
  loadGK h 2 x7 fun v10 => callV call x2 [v10] h <| pz K fun v11 h => addK x10 (.int .i64 1) fun v12 => B3 x0 x2 x8 x9 v12 h
noncomputable def b326_3 (call : CallFn) (n : Nat) (B3 : F5) (x0 x2 x8 x9 x10 : AV) (h : AHeap) (K : Kont) : Bool :=
  lssK x10 x9 fun v2 => condK v2 (iadrK h 2 x8 x10 fun v3 => loadGK h 2 v3 fun v4 => allocK h [.str [], .str []] 2 fun v5 h => storeNK h 2 v5 v4 fun h => gtrK x10 (.int .i64 0) fun v7 => condK v7 (optPK (bsliceV h 1 1 [.str []] [(0, (.str [44]))]) fun v8 h => call (.func 228) [x0, v8] h <| pz K fun v9 h => p326_20 call n B3 x0 x2 v5 x8 x9 x10 h K) (p326_20 call n B3 x0 x2 v5 x8 x9 x10 h K)) (K (.tup []) h)
noncomputable def l326_3 (call : CallFn) (n : Nat) : Nat → AV → AV → AV → AV → AV → AHeap → Kont → Bool :=
  @Nat.rec (fun _ => AV → AV → AV → AV → AV → AHeap → Kont → Bool) (fun _ _ _ _ _ _ _ => false) (fun _ ih x0 x2 x8 x9 x10 h K => b326_3 call n (fun x0 x2 x8 x9 x10 h => ih x0 x2 x8 x9 x10 h K) x0 x2 x8 x9 x10 h K)
noncomputable def s326 (call : CallFn) (n : Nat) (x0 x1 x2 : AV) (h : AHeap) (K : Kont) : Bool :=
  lenK x1 fun v1 => l326_3 call n n x0 x2 x1 v1 (.int .i64 0) h K

/-! ### 328 (*proctor/print.writer).exprs -/
noncomputable def s328 (call : CallFn) (n : Nat) (x0 x1 : AV) (h : AHeap) (K : Kont) : Bool :=
  boxK h x0 fun v1 h => loadK h v1 fun v2 => optK (some (.fn (.func 335) [] [v1])) fun v3 => call (.func 334) [v2, x1, v3] h <| pz K fun v4 h => K (.tup []) h

/-! ### 330 slices.EqualFunc[[]proctor/api.Value,[]proctor/api.Value,proctor/api.Value,proctor/api.Value] -/
noncomputable def p330_29001 (call : CallFn) (n : Nat) (B14 : F5) (x1 x2 x15 x16 x17 x29 : AV) (h : AHeap) (K : Kont) : Bool :=
  notK x29 fun v17 => condK v17 (K (.bool false) h) (addK x17 (.int .i64 1) fun v18 => B14 x1 x2 x15 x16 v18 h)
noncomputable def b330_14 (call : CallFn) (n : Nat) (B14 : F5) (x1 x2 x15 x16 x17 : AV) (h : AHeap) (K : Kont) : Bool :=
  lssK x17 x16 fun v5 => condK v5 (iadrK h 5 x15 x17 fun v6 => loadGK h 5 v6 fun v7 => allocK h [.int .i64 0, .bool false, .int .i64 0, .str [], .nilSlc] 5 fun v8 h => storeNK h 5 v8 v7 fun h => iadrK h 5 x1 x17 fun v10 => loadGK h 5 v10 fun v11 => allocK h [.int .i64 0, .bool false, .int .i64 0, .str [], .nilSlc] 5 fun v12 h => storeNK h 5 v12 v11 fun h => loadGK h 5 v8 fun v14 => loadGK h 5 v12 fun v15 => callV call x2 [v14, v15] h <| pz K fun v16 h => p330_29001 call n B14 x1 x2 x15 x16 x17 v16 h K) (K (.bool true) h)
noncomputable def l330_14 (call : CallFn) (n : Nat) : Nat → AV → AV → AV → AV → AV → AHeap → Kont → Bool :=
  @Nat.rec (fun _ => AV → AV → AV → AV → AV → AHeap → Kont → Bool) (fun _ _ _ _ _ _ _ => false) (fun _ ih x1 x2 x15 x16 x17 h K => b330_14 call n (fun x1 x2 x15 x16 x17 h => ih x1 x2 x15 x16 x17 h K) x1 x2 x15 x16 x17 h K)
noncomputable def p330_10 (call : CallFn) (n : Nat) (x0 x1 x2 : AV) (h : AHeap) (K : Kont) : Bool :=
  lenK x0 fun v4 => l330_14 call n n x1 x2 x0 v4 (.int .i64 0) h K
noncomputable def s330 (call : CallFn) (n : Nat) (x0 x1 x2 : AV) (h : AHeap) (K : Kont) : Bool :=
  lenK x0 fun v1 => lenK x1 fun v2 => neqK v1 v2 fun v3 => condK v3 (K (.bool false) h) (p330_10 call n x0 x1 x2 h K)

/-! ### 334 proctor/print.commas[proctor/api.Expr] -/
noncomputable def p334_20 (call : CallFn) (n : Nat) (B3 : F5) (x0 x2 x7 x8 x9 x10 : AV) (h : AHeap) (K : Kont) : Bool :=
  loadGK h 8 x7 fun v10 => callV call x2 [v10] h <| pz K fun v11 h => addK x10 (.int .i64 1) fun v12 => B3 x0 x2 x8 x9 v12 h
noncomputable def b334_3 (call : CallFn) (n : Nat) (B3 : F5) (x0 x2 x8 x9 x10 : AV) (h : AHeap) (K : Kont) : Bool :=
  lssK x10 x9 fun v2 => condK v2 (iadrK h 8 x8 x10 fun v3 => loadGK h 8 v3 fun v4 => allocK h [.int .i64 0, .str [], .int .i64 0, .bool false, .int .i64 0, .str [], .nilSlc, .nilSlc] 8 fun v5 h => storeNK h 8 v5 v4 fun h => gtrK x10 (.int .i64 0) fun v7 => condK v7 (optPK (bsliceV h 1 1 [.str []] [(0, (.str [44]))]) fun v8 h => call (.func 228) [x0, v8] h <| pz K fun v9 h => p334_20 call n B3 x0 x2 v5 x8 x9 x10 h K) (p334_20 call n B3 x0 x2 v5 x8 x9 x10 h K)) (K (.tup []) h)
noncomputable def l334_3 (call : CallFn) (n : Nat) : Nat → AV → AV → AV → AV → AV → AHeap → Kont → Bool :=
  @Nat.rec (fun _ => AV → AV → AV → AV → AV → AHeap → Kont → Bool) (fun _ _ _ _ _ _ _ => false) (fun _ ih x0 x2 x8 x9 x10 h K => b334_3 call n (fun x0 x2 x8 x9 x10 h => ih x0 x2 x8 x9 x10 h K) x0 x2 x8 x9 x10 h K)
noncomputable def s334 (call : CallFn) (n : Nat) (x0 x1 x2 : AV) (h : AHeap) (K : Kont) : Bool :=
  lenK x1 fun v1 => l334_3 call n n x0 x2 x1 v1 (.int .i64 0) h K

end Go.Proofs.YtnddpaeagljnbaaGreatDoor
