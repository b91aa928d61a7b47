/-
  The functions as functions of Lean (printed by wip/tools/gen2.py).
-/
import Derived.Test.YtnddpaeagljnbaaGreatDoorAbDn
namespace Go.Proofs.YtnddpaeagljnbaaGreatDoor
open Go.Ab
set_option linter.unusedVariables false

/-! ### 3 proctor/proctorlaw18.LinkRefuses -/
noncomputable def p3_40002 (call : CallFn) (n : Nat) (x119 x120 : AV) (h : AHeap) (K : Kont) : Bool :=
  pickK x119 x120 (.bool false) fun v68 => K v68 h
noncomputable def p3_40001 (call : CallFn) (n : Nat) (x113 x115 : AV) (h : AHeap) (K : Kont) : Bool :=
  gK x113 true (lenK x115) fun v64 => gK x113 true (eqlK v64 (.int .i64 0)) fun v65 => pickK x113 v65 (.bool false) fun v66 => gP v66 true (fun k => call (.func 11) [] h (pz K k)) h fun v67 h => p3_40002 call n v66 v67 h K
noncomputable def p3_38001 (call : CallFn) (n : Nat) (x6 x9 x10 x11 x12 x13 x14 x15 x17 x19 x74 : AV) (h : AHeap) (K : Kont) : Bool :=
  extK 0 x74 fun v34 => extK 1 x74 fun v35 => eqlK x9 (.int .i64 1) fun v36 => gK v36 true (optK (some x10)) fun v37 => gK v36 true (eqlK v37 (.int .i64 1)) fun v38 => pickK v36 v38 (.bool false) fun v39 => gK v39 true (optK (some x11)) fun v40 => gK v39 true (eqlK v40 (.int .i64 0)) fun v41 => pickK v39 v41 (.bool false) fun v42 => gK v42 true (optK (some x12)) fun v43 => gK v42 true (eqlK v43 (.int .i64 1)) fun v44 => pickK v42 v44 (.bool false) fun v45 => gK v45 true (optK (some x13)) fun v46 => gK v45 true (eqlK v46 (.int .i64 1)) fun v47 => pickK v45 v47 (.bool false) fun v48 => gK v48 true (optK (some x14)) fun v49 => gK v48 true (eqlK v49 (.int .i64 0)) fun v50 => pickK v48 v50 (.bool false) fun v51 => gK v51 true (optK (some x15)) fun v52 => gK v51 true (eqlK v52 (.int .i64 0)) fun v53 => pickK v51 v53 (.bool false) fun v54 => gK v54 true (optK (some x17)) fun v55 => gK v54 true (notK v55) fun v56 => pickK v54 v56 (.bool false) fun v57 => gK v57 true (optK (some x19)) fun v58 => pickK v57 v58 (.bool false) fun v59 => gK v59 true (optK (some v34)) fun v60 => pickK v59 v60 (.bool false) fun v61 => gK v61 true (optK (some x6)) fun v62 => gP v61 true (fun k => call (.func 10) [v62] h (pz K k)) h fun v63 h => p3_40001 call n v61 v63 h K
noncomputable def p3_36001 (call : CallFn) (n : Nat) (x6 x9 x10 x11 x12 x13 x14 x15 x17 x69 : AV) (h : AHeap) (K : Kont) : Bool :=
  extK 0 x69 fun v31 => extK 1 x69 fun v32 => call (.func 9) [x6, (.int .i64 2)] h <| pz K fun v33 h => p3_38001 call n x6 x9 x10 x11 x12 x13 x14 x15 x17 v31 v33 h K
noncomputable def p3_34001 (call : CallFn) (n : Nat) (x6 x9 x10 x11 x12 x13 x14 x15 x64 : AV) (h : AHeap) (K : Kont) : Bool :=
  extK 0 x64 fun v28 => extK 1 x64 fun v29 => call (.func 9) [x6, (.int .i64 1)] h <| pz K fun v30 h => p3_36001 call n x6 x9 x10 x11 x12 x13 x14 x15 v28 v30 h K
noncomputable def p3_32001 (call : CallFn) (n : Nat) (x6 x9 x10 x11 x12 x13 x14 x59 : AV) (h : AHeap) (K : Kont) : Bool :=
  extK 0 x59 fun v25 => extK 1 x59 fun v26 => call (.func 9) [x6, (.int .i64 0)] h <| pz K fun v27 h => p3_34001 call n x6 x9 x10 x11 x12 x13 x14 v25 v27 h K
noncomputable def p3_8001 (call : CallFn) (n : Nat) (x35 : AV) (h : AHeap) (K : Kont) : Bool :=
  extK 0 x35 fun v12 => extK 1 x35 fun v13 => neqK v13 (.int .i64 0) fun v14 => gK v14 false (optK (some v12)) fun v15 => gK v14 false (optK (eqV h false .ptr v15 .nilPtr)) fun v16 => pickK v14 (.bool true) v16 fun v17 => condK v17 (K (.bool false) h) (call (.func 7) [v12, (.int .i64 0), (.int .i64 (-1))] h <| pz K fun v18 h => call (.func 7) [v12, (.int .i64 0), (.int .i64 (-9223372036854775808))] h <| pz K fun v19 h => call (.func 7) [v12, (.int .i64 0), (.int .i64 65536)] h <| pz K fun v20 h => call (.func 7) [v12, (.int .i64 0), (.int .i64 9223372036854775807)] h <| pz K fun v21 h => call (.func 7) [v12, (.int .i64 0), (.int .i64 1)] h <| pz K fun v22 h => call (.func 7) [v12, (.int .i64 0), (.int .i64 (-65536))] h <| pz K fun v23 h => call (.func 8) [v12, (.int .i64 0)] h <| pz K fun v24 h => p3_32001 call n v12 v18 v19 v20 v21 v22 v23 v24 h K)
noncomputable def p3_6001 (call : CallFn) (n : Nat) (x30 : AV) (h : AHeap) (K : Kont) : Bool :=
  extK 0 x30 fun v9 => extK 1 x30 fun v10 => call (.func 6) [v9] h <| pz K fun v11 h => p3_8001 call n v11 h K
noncomputable def p3_4001 (call : CallFn) (n : Nat) (x24 : AV) (h : AHeap) (K : Kont) : Bool :=
  extK 0 x24 fun v2 => extK 1 x24 fun v3 => extK 2 x24 fun v4 => allocK h [.nilSlc, .nilSlc, .nilSlc] 3 fun v5 h => storeNK h 3 v5 v2 fun h => loadGK h 3 v5 fun v7 => call (.func 5) [v7] h <| pz K fun v8 h => p3_6001 call n v8 h K
noncomputable def s3 (call : CallFn) (n : Nat) (h : AHeap) (K : Kont) : Bool :=
  call (.func 4) [(.str [99, 108, 97, 115, 115, 32, 80, 32, 123, 32, 125, 32, 114, 117, 108, 101, 32, 34, 97, 34, 32, 119, 104, 101, 110, 32, 80, 40, 41, 32, 116, 104, 101, 110, 32, 101, 110, 100, 32, 114, 117, 108, 101, 32, 34, 98, 34, 32, 119, 104, 101, 110, 32, 110, 111, 116, 32, 40, 80, 40, 41, 41, 32, 116, 104, 101, 110, 32, 101, 110, 100, 32, 114, 117, 108, 101, 32, 34, 99, 34, 32, 119, 104, 101, 110, 32, 116, 104, 101, 110, 32, 101, 110, 100])] h <| pz K fun v1 h => p3_4001 call n v1 h K

/-! ### 4 proctor/parse.Parse -/
noncomputable def p4_6001 (call : CallFn) (n : Nat) (x2 x5 x11 : AV) (h : AHeap) (K : Kont) : Bool :=
  extK 0 x11 fun v5 => extK 1 x11 fun v6 => neqK v6 (.int .i64 0) fun v7 => condK v7 (buildK [.nilSlc, .nilSlc, .nilSlc] [] fun v8 => storeNK h 3 x2 v8 fun h => optR (resV h [(x2, some (true, 3)), (v5, none), (v6, none)]) h K) (loadGK h 3 x5 fun v10 => storeNK h 3 x2 v10 fun h => optR (resV h [(x2, some (true, 3)), ((.int .i64 0), none), ((.int .i64 0), none)]) h K)
noncomputable def s4 (call : CallFn) (n : Nat) (x0 : AV) (h : AHeap) (K : Kont) : Bool :=
  allocK h [.nilSlc, .nilSlc, .nilSlc] 3 fun v1 h => allocK h [.nilSlc, .nilSlc, .nilSlc] 3 fun v2 h => optK (some (.fn (.func 13) [] [v2])) fun v3 => call (.func 12) [x0, v3] h <| pz K fun v4 h => p4_6001 call n v1 v2 v4 h K

/-! ### 5 proctor/network.Build -/
noncomputable def p5_4001 (call : CallFn) (n : Nat) (x1 x8 : AV) (h : AHeap) (K : Kont) : Bool :=
  extK 0 x8 fun v4 => extK 1 x8 fun v5 => neqK v5 (.int .i64 0) fun v6 => condK v6 (K (.tup [.nilPtr, v5]) h) (loadGK h 3 x1 fun v7 => call (.func 16) [v7, v4] h <| pz K fun v8 h => K (.tup [v8, (.int .i64 0)]) h)
noncomputable def s5 (call : CallFn) (n : Nat) (x0 : AV) (h : AHeap) (K : Kont) : Bool :=
  optPK (boxA h (none) 3 x0) fun v1 h => loadGK h 3 v1 fun v2 => call (.func 15) [v2] h <| pz K fun v3 h => p5_4001 call n v1 v3 h K

/-! ### 6 proctor/link.New -/
noncomputable def p6_101 (call : CallFn) (n : Nat) (B39 : F6) (B60 : F11) (B75 : F15) (x0 x5 x6 x8 x9 x12 x14 x56 x57 x76 x77 x78 x86 x87 x88 : AV) (h : AHeap) (K : Kont) : Bool :=
  addK x88 (.int .i64 1) fun v59 => B75 x0 x5 x6 x8 x9 x12 x14 x56 x57 x76 x77 x78 x86 x87 v59 h
noncomputable def p6_98001 (call : CallFn) (n : Nat) (B39 : F6) (B60 : F11) (B75 : F15) (x0 x5 x6 x8 x9 x12 x14 x17 x19 x56 x57 x76 x77 x78 x86 x87 x88 x122 : AV) (h : AHeap) (K : Kont) : Bool :=
  optK (binA .shl (.int .u64 1) x122) fun v73 => nilckK x19 fun v74 => fadrK 1 v74 fun v75 => loadK h v75 fun v76 => optK (binA .or v76 v73) fun v77 => nilckK x19 fun v78 => fadrK 1 v78 fun v79 => storeK h v79 v77 fun h => nilckK x5 fun v81 => fadrK 1 v81 fun v82 => loadK h v82 fun v83 => nilckK x5 fun v84 => fadrK 1 v84 fun v85 => loadK h v85 fun v86 => iadrK h 1 v86 x17 fun v87 => loadK h v87 fun v88 => buildK [.nilPtr, .int .u64 0] [(0, 1, x19), (1, 1, v73)] fun v89 => optK (some (.fn (.func 23) [v89] [])) fun v90 => optPK (bsliceV h 1 1 [.nilFn] [(0, v90)]) fun v91 h => loadK h v82 <| sameK v83 <| loadK h v85 <| sameK v86 <| iadrK h 1 v86 x17 <| sameK v87 <| loadK h v87 <| sameK v88 <| appK h 1 8 v88 v91 fun v92 h => loadK h v82 <| sameK v83 <| iadrK h 1 v83 x17 fun v93 => storeK h v93 v92 fun h => p6_101 call n B39 B60 B75 x0 x5 x6 x8 x9 x12 x14 x56 x57 x76 x77 x78 x86 x87 x88 h K
noncomputable def p6_94001 (call : CallFn) (n : Nat) (B39 : F6) (B60 : F11) (B75 : F15) (x0 x5 x6 x8 x9 x12 x14 x56 x57 x76 x77 x78 x86 x87 x88 x108 : AV) (h : AHeap) (K : Kont) : Bool :=
  extK 0 x108 fun v62 => extK 1 x108 fun v63 => nilckK x5 fun v64 => fadrK 2 v64 fun v65 => loadK h v65 fun v66 => iadrK h 1 v66 x14 fun v67 => loadK h v67 fun v68 => nilckK v68 fun v69 => fadrK 1 v69 fun v70 => loadK h v70 fun v71 => call (.func 22) [v71] h <| pz K fun v72 h => p6_98001 call n B39 B60 B75 x0 x5 x6 x8 x9 x12 x14 v62 v68 x56 x57 x76 x77 x78 x86 x87 x88 v72 h K
noncomputable def p6_105 (call : CallFn) (n : Nat) (B39 : F6) (B60 : F11) (x0 x5 x6 x8 x9 x12 x56 x57 x76 x77 x78 : AV) (h : AHeap) (K : Kont) : Bool :=
  addK x78 (.int .i64 1) fun v102 => B60 x0 x5 x6 x8 x9 x12 x56 x57 x76 x77 v102 h
noncomputable def p6_102 (call : CallFn) (n : Nat) (B39 : F6) (B60 : F11) (x0 x5 x6 x8 x9 x12 x14 x56 x57 x76 x77 x78 : AV) (h : AHeap) (K : Kont) : Bool :=
  iadrK h 1 x8 x14 fun v95 => storeK h v95 (.bool true) fun h => iadrK h 5 x6 x14 fun v97 => fadrK 1 v97 fun v98 => loadK h v98 fun v99 => lenK v99 fun v100 => addK x12 v100 fun v101 => p6_105 call n B39 B60 x0 x5 x6 x8 x9 v101 x56 x57 x76 x77 x78 h K
noncomputable def b6_75 (call : CallFn) (n : Nat) (B39 : F6) (B60 : F11) (B75 : F15) (x0 x5 x6 x8 x9 x12 x14 x56 x57 x76 x77 x78 x86 x87 x88 : AV) (h : AHeap) (K : Kont) : Bool :=
  lssK x88 x87 fun v46 => condK v46 (iadrK h 19 x86 x88 fun v47 => loadGK h 19 v47 fun v48 => allocK h [.int .i64 0, .str [], .str [], .nilSlc, .nilSlc, .nilSlc, .nilSlc, .nilSlc, .int .i64 0, .str [], .int .i64 0, .bool false, .int .i64 0, .str [], .nilSlc, .nilSlc, .str [], .str [], .nilSlc] 19 fun v49 h => storeNK h 19 v49 v48 fun h => fadrK 0 v49 fun v51 => loadK h v51 fun v52 => neqK v52 (.int .i64 1) fun v53 => gK v53 false (optK (some x8)) fun v54 => gK v53 false (optK (some x14)) fun v55 => gK v53 false (iadrK h 1 v54 v55) fun v56 => gK v53 false (loadK h v56) fun v57 => pickK v53 (.bool true) v57 fun v58 => condK v58 (p6_101 call n B39 B60 B75 x0 x5 x6 x8 x9 x12 x14 x56 x57 x76 x77 x78 x86 x87 x88 h K) (addK x12 x88 fun v60 => call (.func 21) [x0, x9, v60] h <| pz K fun v61 h => p6_94001 call n B39 B60 B75 x0 x5 x6 x8 x9 x12 x14 x56 x57 x76 x77 x78 x86 x87 x88 v61 h K)) (p6_102 call n B39 B60 x0 x5 x6 x8 x9 x12 x14 x56 x57 x76 x77 x78 h K)
noncomputable def l6_75 (call : CallFn) (n : Nat) (B39 : F6) (B60 : F11) : Nat → AV → AV → AV → AV → AV → AV → AV → AV → AV → AV → AV → AV → AV → AV → AV → AHeap → Kont → Bool :=
  @Nat.rec (fun _ => AV → AV → AV → AV → AV → AV → AV → AV → AV → AV → AV → AV → AV → AV → AV → AHeap → Kont → Bool) (fun _ _ _ _ _ _ _ _ _ _ _ _ _ _ _ _ _ => false) (fun _ ih x0 x5 x6 x8 x9 x12 x14 x56 x57 x76 x77 x78 x86 x87 x88 h K => b6_75 call n B39 B60 (fun x0 x5 x6 x8 x9 x12 x14 x56 x57 x76 x77 x78 x86 x87 x88 h => ih x0 x5 x6 x8 x9 x12 x14 x56 x57 x76 x77 x78 x86 x87 x88 h K) x0 x5 x6 x8 x9 x12 x14 x56 x57 x76 x77 x78 x86 x87 x88 h K)
noncomputable def p6_67 (call : CallFn) (n : Nat) (B39 : F6) (B60 : F11) (x0 x5 x6 x8 x9 x12 x56 x57 x76 x77 x78 : AV) (h : AHeap) (K : Kont) : Bool :=
  iadrK h 1 x76 x78 fun v40 => loadK h v40 fun v41 => iadrK h 5 x6 v41 fun v42 => fadrK 1 v42 fun v43 => loadK h v43 fun v44 => lenK v44 fun v45 => l6_75 call n B39 B60 n x0 x5 x6 x8 x9 x12 v41 x56 x57 x76 x77 x78 v44 v45 (.int .i64 0) h K
noncomputable def p6_107 (call : CallFn) (n : Nat) (B39 : F6) (x0 x5 x6 x8 x56 x57 : AV) (h : AHeap) (K : Kont) : Bool :=
  addK x57 (.int .i64 1) fun v112 => B39 x0 x5 x6 x8 x56 v112 h
noncomputable def p6_106 (call : CallFn) (n : Nat) (B39 : F6) (x0 x5 x6 x8 x9 x56 x57 : AV) (h : AHeap) (K : Kont) : Bool :=
  nilckK x5 fun v103 => fadrK 4 v103 fun v104 => loadK h v104 fun v105 => call (.func 24) [x5, x9] h <| pz K fun v106 h => loadK h v104 <| sameK v105 <| optPK (bsliceV h 1 1 [.bool false] [(0, v106)]) fun v107 h => loadK h v104 <| sameK v105 <| appK h 1 1 v105 v107 fun v108 h => nilckK x5 fun v109 => fadrK 4 v109 fun v110 => storeK h v110 v108 fun h => p6_107 call n B39 x0 x5 x6 x8 x56 x57 h K
noncomputable def b6_60 (call : CallFn) (n : Nat) (B39 : F6) (B60 : F11) (x0 x5 x6 x8 x9 x12 x56 x57 x76 x77 x78 : AV) (h : AHeap) (K : Kont) : Bool :=
  lssK x78 x77 fun v39 => condK v39 (p6_67 call n B39 B60 x0 x5 x6 x8 x9 x12 x56 x57 x76 x77 x78 h K) (p6_106 call n B39 x0 x5 x6 x8 x9 x56 x57 h K)
noncomputable def l6_60 (call : CallFn) (n : Nat) (B39 : F6) : Nat → AV → AV → AV → AV → AV → AV → AV → AV → AV → AV → AV → AHeap → Kont → Bool :=
  @Nat.rec (fun _ => AV → AV → AV → AV → AV → AV → AV → AV → AV → AV → AV → AHeap → Kont → Bool) (fun _ _ _ _ _ _ _ _ _ _ _ _ _ => false) (fun _ ih x0 x5 x6 x8 x9 x12 x56 x57 x76 x77 x78 h K => b6_60 call n B39 (fun x0 x5 x6 x8 x9 x12 x56 x57 x76 x77 x78 h => ih x0 x5 x6 x8 x9 x12 x56 x57 x76 x77 x78 h K) x0 x5 x6 x8 x9 x12 x56 x57 x76 x77 x78 h K)
noncomputable def p6_52001 (call : CallFn) (n : Nat) (B39 : F6) (x0 x5 x6 x8 x9 x56 x57 x63 : AV) (h : AHeap) (K : Kont) : Bool :=
  extK 0 x63 fun v28 => extK 1 x63 fun v29 => nilckK x5 fun v30 => fadrK 3 v30 fun v31 => loadK h v31 fun v32 => optPK (bsliceV h 1 1 [.nilSlc] [(0, v28)]) fun v33 h => appK h 1 24 v32 v33 fun v34 h => nilckK x5 fun v35 => fadrK 3 v35 fun v36 => storeK h v36 v34 fun h => lenK v28 fun v38 => l6_60 call n B39 n x0 x5 x6 x8 x9 (.int .i64 0) x56 x57 v28 v38 (.int .i64 0) h K
noncomputable def p6_46 (call : CallFn) (n : Nat) (B39 : F6) (x0 x5 x6 x8 x56 x57 : AV) (h : AHeap) (K : Kont) : Bool :=
  call (.func 20) [x0, x57] h <| pz K fun v27 h => p6_52001 call n B39 x0 x5 x6 x8 x57 x56 x57 v27 h K
noncomputable def b6_39 (call : CallFn) (n : Nat) (B39 : F6) (x0 x5 x6 x8 x56 x57 : AV) (h : AHeap) (K : Kont) : Bool :=
  lssK x57 x56 fun v26 => condK v26 (p6_46 call n B39 x0 x5 x6 x8 x56 x57 h K) (K (.tup [x5, (.int .i64 0)]) h)
noncomputable def l6_39 (call : CallFn) (n : Nat) : Nat → AV → AV → AV → AV → AV → AV → AHeap → Kont → Bool :=
  @Nat.rec (fun _ => AV → AV → AV → AV → AV → AV → AHeap → Kont → Bool) (fun _ _ _ _ _ _ _ _ => false) (fun _ ih x0 x5 x6 x8 x56 x57 h K => b6_39 call n (fun x0 x5 x6 x8 x56 x57 h => ih x0 x5 x6 x8 x56 x57 h K) x0 x5 x6 x8 x56 x57 h K)
noncomputable def p6_31 (call : CallFn) (n : Nat) (x0 x5 x6 : AV) (h : AHeap) (K : Kont) : Bool :=
  call (.func 19) [x0] h <| pz K fun v22 h => lenK x6 fun v23 => optPK (mkslA h 1 1 [.bool false] v23 v23) fun v24 h => lenK v22 fun v25 => l6_39 call n n x0 x5 x6 v24 v25 (.int .i64 0) h K
noncomputable def b6_20 (call : CallFn) (n : Nat) (B20 : F5) (x0 x5 x6 x35 x36 : AV) (h : AHeap) (K : Kont) : Bool :=
  lssK x36 x35 fun v10 => condK v10 (nilckK x5 fun v11 => fadrK 2 v11 fun v12 => loadK h v12 fun v13 => buildK [.int .u64 0, .int .u64 0] [] fun v14 => optPK (boxA h (none) 2 v14) fun v15 h => optPK (bsliceV h 1 1 [.nilPtr] [(0, v15)]) fun v16 h => appK h 1 8 v13 v16 fun v17 h => nilckK x5 fun v18 => fadrK 2 v18 fun v19 => storeK h v19 v17 fun h => addK x36 (.int .i64 1) fun v21 => B20 x0 x5 x6 x35 v21 h) (p6_31 call n x0 x5 x6 h K)
noncomputable def l6_20 (call : CallFn) (n : Nat) : Nat → AV → AV → AV → AV → AV → AHeap → Kont → Bool :=
  @Nat.rec (fun _ => AV → AV → AV → AV → AV → AHeap → Kont → Bool) (fun _ _ _ _ _ _ _ => false) (fun _ ih x0 x5 x6 x35 x36 h K => b6_20 call n (fun x0 x5 x6 x35 x36 h => ih x0 x5 x6 x35 x36 h K) x0 x5 x6 x35 x36 h K)
noncomputable def p6_12001 (call : CallFn) (n : Nat) (x0 x24 : AV) (h : AHeap) (K : Kont) : Bool :=
  lenK x24 fun v3 => optPK (mkslA h 1 8 [.int .i64 0] v3 v3) fun v4 h => optPK (mkslA h 1 24 [.nilSlc] v3 v3) fun v5 h => buildK [.nilSlc, .nilSlc, .nilSlc, .nilSlc, .nilSlc] [(0, 1, v4), (1, 1, v5)] fun v6 => optPK (boxA h (none) 5 v6) fun v7 h => call (.func 18) [x0] h <| pz K fun v8 h => lenK v8 fun v9 => l6_20 call n n x0 v7 v8 v9 (.int .i64 0) h K
noncomputable def p6_10 (call : CallFn) (n : Nat) (x0 : AV) (h : AHeap) (K : Kont) : Bool :=
  call (.func 17) [x0] h <| pz K fun v2 h => p6_12001 call n x0 v2 h K
noncomputable def s6 (call : CallFn) (n : Nat) (x0 : AV) (h : AHeap) (K : Kont) : Bool :=
  optK (eqV h false .ptr x0 .nilPtr) fun v1 => condK v1 (K (.tup [.nilPtr, (.int .i64 1)]) h) (p6_10 call n x0 h K)

/-! ### 7 (*proctor/link.Links).Add -/
noncomputable def b7_21 (call : CallFn) (n : Nat) (B21 : F4) (x7 x79 x80 x81 : AV) (h : AHeap) (K : Kont) : Bool :=
  lssK x81 x80 fun v59 => condK v59 (iadrK h 1 x79 x81 fun v60 => loadK h v60 fun v61 => eqlK x7 (.int .i64 0) fun v62 => callV call v61 [v62] h <| pz K fun v63 h => addK x81 (.int .i64 1) fun v64 => B21 x7 x79 x80 v64 h) (K (.int .i64 0) h)
noncomputable def l7_21 (call : CallFn) (n : Nat) : Nat → AV → AV → AV → AV → AHeap → Kont → Bool :=
  @Nat.rec (fun _ => AV → AV → AV → AV → AHeap → Kont → Bool) (fun _ _ _ _ _ _ => false) (fun _ ih x7 x79 x80 x81 h K => b7_21 call n (fun x7 x79 x80 x81 h => ih x7 x79 x80 x81 h K) x7 x79 x80 x81 h K)
noncomputable def p7_10 (call : CallFn) (n : Nat) (x0 x1 x2 : AV) (h : AHeap) (K : Kont) : Bool :=
  nilckK x0 fun v32 => fadrK 0 v32 fun v33 => loadK h v33 fun v34 => iadrK h 1 v34 x1 fun v35 => loadK h v35 fun v36 => nilckK x0 fun v37 => fadrK 0 v37 fun v38 => loadK h v38 fun v39 => iadrK h 1 v39 x1 fun v40 => loadK h v40 fun v41 => addK v41 x2 fun v42 => iadrK h 1 v39 x1 fun v43 => storeK h v43 v42 fun h => gtrK v36 (.int .i64 0) fun v45 => nilckK x0 fun v46 => fadrK 0 v46 fun v47 => loadK h v47 fun v48 => iadrK h 1 v48 x1 fun v49 => loadK h v49 fun v50 => gtrK v50 (.int .i64 0) fun v51 => optK (eqV h true .bool v45 v51) fun v52 => condK v52 (nilckK x0 fun v53 => fadrK 1 v53 fun v54 => loadK h v54 fun v55 => iadrK h 1 v55 x1 fun v56 => loadK h v56 fun v57 => lenK v57 fun v58 => l7_21 call n n v36 v57 v58 (.int .i64 0) h K) (K (.int .i64 0) h)
noncomputable def s7 (call : CallFn) (n : Nat) (x0 x1 x2 : AV) (h : AHeap) (K : Kont) : Bool :=
  lssK x1 (.int .i64 0) fun v1 => gK v1 false (optK (some x1)) fun v2 => gK v1 false (optK (some x0)) fun v3 => gK v1 false (nilckK v3) fun v4 => gK v1 false (fadrK 0 v4) fun v5 => gK v1 false (loadK h v5) fun v6 => gK v1 false (lenK v6) fun v7 => gK v1 false (geqK v2 v7) fun v8 => pickK v1 (.bool true) v8 fun v9 => gK v9 false (optK (some x2)) fun v10 => gK v9 false (optK (some x0)) fun v11 => gK v9 false (nilckK v11) fun v12 => gK v9 false (fadrK 0 v12) fun v13 => gK v9 false (loadK h v13) fun v14 => gK v9 false (optK (some x1)) fun v15 => gK v9 false (iadrK h 1 v14 v15) fun v16 => gK v9 false (loadK h v16) fun v17 => gK v9 false (subK (.int .i64 65536) v17) fun v18 => gK v9 false (gtrK v10 v18) fun v19 => pickK v9 (.bool true) v19 fun v20 => gK v20 false (optK (some x2)) fun v21 => gK v20 false (optK (some x0)) fun v22 => gK v20 false (nilckK v22) fun v23 => gK v20 false (fadrK 0 v23) fun v24 => gK v20 false (loadK h v24) fun v25 => gK v20 false (optK (some x1)) fun v26 => gK v20 false (iadrK h 1 v25 v26) fun v27 => gK v20 false (loadK h v27) fun v28 => gK v20 false (optK (negA v28)) fun v29 => gK v20 false (lssK v21 v29) fun v30 => pickK v20 (.bool true) v30 fun v31 => condK v31 (K (.int .i64 1) h) (p7_10 call n x0 x1 x2 h K)

/-! ### 8 (*proctor/link.Links).Count -/
noncomputable def s8 (call : CallFn) (n : Nat) (x0 x1 : AV) (h : AHeap) (K : Kont) : Bool :=
  lssK x1 (.int .i64 0) fun v1 => gK v1 false (optK (some x1)) fun v2 => gK v1 false (optK (some x0)) fun v3 => gK v1 false (nilckK v3) fun v4 => gK v1 false (fadrK 0 v4) fun v5 => gK v1 false (loadK h v5) fun v6 => gK v1 false (lenK v6) fun v7 => gK v1 false (geqK v2 v7) fun v8 => pickK v1 (.bool true) v8 fun v9 => condK v9 (K (.tup [(.int .i64 0), (.int .i64 1)]) h) (nilckK x0 fun v10 => fadrK 0 v10 fun v11 => loadK h v11 fun v12 => iadrK h 1 v12 x1 fun v13 => loadK h v13 fun v14 => K (.tup [v14, (.int .i64 0)]) h)

/-! ### 9 (*proctor/link.Links).Linked -/
noncomputable def s9 (call : CallFn) (n : Nat) (x0 x1 : AV) (h : AHeap) (K : Kont) : Bool :=
  lssK x1 (.int .i64 0) fun v1 => gK v1 false (optK (some x1)) fun v2 => gK v1 false (optK (some x0)) fun v3 => gK v1 false (nilckK v3) fun v4 => gK v1 false (fadrK 3 v4) fun v5 => gK v1 false (loadK h v5) fun v6 => gK v1 false (lenK v6) fun v7 => gK v1 false (geqK v2 v7) fun v8 => pickK v1 (.bool true) v8 fun v9 => condK v9 (K (.tup [(.bool false), (.int .i64 32)]) h) (call (.func 24) [x0, x1] h <| pz K fun v10 h => K (.tup [v10, (.int .i64 0)]) h)

/-! ### 10 (*proctor/link.Links).Changed -/
noncomputable def p10_28 (call : CallFn) (n : Nat) (B8 : F5) (x0 x3 x10 x11 x12 : AV) (h : AHeap) (K : Kont) : Bool :=
  addK x12 (.int .i64 1) fun v17 => B8 x0 x3 x10 x11 v17 h
noncomputable def b10_8 (call : CallFn) (n : Nat) (B8 : F5) (x0 x3 x10 x11 x12 : AV) (h : AHeap) (K : Kont) : Bool :=
  lssK x12 x11 fun v5 => condK v5 (iadrK h 1 x10 x12 fun v6 => loadK h v6 fun v7 => call (.func 24) [x0, x12] h <| pz K fun v8 h => optK (eqV h true .bool v8 v7) fun v9 => condK v9 (optPK (bsliceV h 1 1 [.int .i64 0] [(0, x12)]) fun v10 h => appK h 1 8 x3 v10 fun v11 h => nilckK x0 fun v12 => fadrK 4 v12 fun v13 => loadK h v13 fun v14 => iadrK h 1 v14 x12 fun v15 => storeK h v15 v8 fun h => p10_28 call n B8 x0 v11 x10 x11 x12 h K) (p10_28 call n B8 x0 x3 x10 x11 x12 h K)) (K x3 h)
noncomputable def l10_8 (call : CallFn) (n : Nat) : Nat → AV → AV → AV → AV → AV → AHeap → Kont → Bool :=
  @Nat.rec (fun _ => AV → AV → AV → AV → AV → AHeap → Kont → Bool) (fun _ _ _ _ _ _ _ => false) (fun _ ih x0 x3 x10 x11 x12 h K => b10_8 call n (fun x0 x3 x10 x11 x12 h => ih x0 x3 x10 x11 x12 h K) x0 x3 x10 x11 x12 h K)
noncomputable def s10 (call : CallFn) (n : Nat) (x0 : AV) (h : AHeap) (K : Kont) : Bool :=
  nilckK x0 fun v1 => fadrK 4 v1 fun v2 => loadK h v2 fun v3 => lenK v3 fun v4 => l10_8 call n n x0 .nilSlc v3 v4 (.int .i64 0) h K

/-! ### 11 proctor/proctorlaw18.wakes -/
noncomputable def p11_26002 (call : CallFn) (n : Nat) (x68 x72 : AV) (h : AHeap) (K : Kont) : Bool :=
  pickK x68 x72 (.bool false) fun v44 => K v44 h
noncomputable def p11_26001 (call : CallFn) (n : Nat) (x68 x70 : AV) (h : AHeap) (K : Kont) : Bool :=
  gP x68 true (optPK (bsliceV h 1 1 [.int .i64 0] [(0, (.int .i64 0))])) h fun v42 h => gP x68 true (fun k => call (.func 25) [x70, v42] h (pz K k)) h fun v43 h => p11_26002 call n x68 v43 h K
noncomputable def p11_24001 (call : CallFn) (n : Nat) (x6 x8 x10 x11 x51 : AV) (h : AHeap) (K : Kont) : Bool :=
  extK 0 x51 fun v28 => extK 1 x51 fun v29 => notK x8 fun v30 => gK v30 true (optK (some x10)) fun v31 => gK v30 true (lenK v31) fun v32 => gK v30 true (eqlK v32 (.int .i64 0)) fun v33 => pickK v30 v33 (.bool false) fun v34 => gK v34 true (optK (some x11)) fun v35 => gK v34 true (eqlK v35 (.int .i64 0)) fun v36 => pickK v34 v36 (.bool false) fun v37 => gK v37 true (optK (some v28)) fun v38 => pickK v37 v38 (.bool false) fun v39 => gK v39 true (optK (some x6)) fun v40 => gP v39 true (fun k => call (.func 10) [v40] h (pz K k)) h fun v41 h => p11_26001 call n v39 v41 h K
noncomputable def p11_18001 (call : CallFn) (n : Nat) (x6 x42 : AV) (h : AHeap) (K : Kont) : Bool :=
  extK 0 x42 fun v23 => extK 1 x42 fun v24 => call (.func 10) [x6] h <| pz K fun v25 h => call (.func 7) [x6, (.int .i64 1), (.int .i64 2)] h <| pz K fun v26 h => call (.func 9) [x6, (.int .i64 0)] h <| pz K fun v27 h => p11_24001 call n x6 v23 v25 v26 v27 h K
noncomputable def p11_11001 (call : CallFn) (n : Nat) (x6 x35 x37 : AV) (h : AHeap) (K : Kont) : Bool :=
  gK x35 false (neqK x37 (.int .i64 0)) fun v20 => pickK x35 (.bool true) v20 fun v21 => condK v21 (K (.bool false) h) (call (.func 9) [x6, (.int .i64 0)] h <| pz K fun v22 h => p11_18001 call n x6 v22 h K)
noncomputable def p11_8001 (call : CallFn) (n : Nat) (x26 : AV) (h : AHeap) (K : Kont) : Bool :=
  extK 0 x26 fun v12 => extK 1 x26 fun v13 => neqK v13 (.int .i64 0) fun v14 => gK v14 false (optK (some v12)) fun v15 => gK v14 false (optK (eqV h false .ptr v15 .nilPtr)) fun v16 => pickK v14 (.bool true) v16 fun v17 => gK v17 false (optK (some v12)) fun v18 => gP v17 false (fun k => call (.func 7) [v18, (.int .i64 0), (.int .i64 1)] h (pz K k)) h fun v19 h => p11_11001 call n v12 v17 v19 h K
noncomputable def p11_6001 (call : CallFn) (n : Nat) (x21 : AV) (h : AHeap) (K : Kont) : Bool :=
  extK 0 x21 fun v9 => extK 1 x21 fun v10 => call (.func 6) [v9] h <| pz K fun v11 h => p11_8001 call n v11 h K
noncomputable def p11_4001 (call : CallFn) (n : Nat) (x15 : AV) (h : AHeap) (K : Kont) : Bool :=
  extK 0 x15 fun v2 => extK 1 x15 fun v3 => extK 2 x15 fun v4 => allocK h [.nilSlc, .nilSlc, .nilSlc] 3 fun v5 h => storeNK h 3 v5 v2 fun h => loadGK h 3 v5 fun v7 => call (.func 5) [v7] h <| pz K fun v8 h => p11_6001 call n v8 h K
noncomputable def s11 (call : CallFn) (n : Nat) (h : AHeap) (K : Kont) : Bool :=
  call (.func 4) [(.str [99, 108, 97, 115, 115, 32, 80, 32, 123, 32, 125, 32, 99, 108, 97, 115, 115, 32, 81, 32, 123, 32, 125, 32, 114, 117, 108, 101, 32, 34, 97, 34, 32, 119, 104, 101, 110, 32, 80, 40, 41, 32, 81, 40, 41, 32, 116, 104, 101, 110, 32, 101, 110, 100])] h <| pz K fun v1 h => p11_4001 call n v1 h K

/-! ### 12 proctor/parse.caught -/
noncomputable def p12_14001 (call : CallFn) (n : Nat) (x21 : AV) (h : AHeap) (K : Kont) : Bool :=
  extK 0 x21 fun v8 => extK 1 x21 fun v9 => K (.tup [v8, v9]) h
noncomputable def p12_4001 (call : CallFn) (n : Nat) (x0 x1 x9 : AV) (h : AHeap) (K : Kont) : Bool :=
  extK 0 x9 fun v2 => extK 1 x9 fun v3 => extK 2 x9 fun v4 => neqK v4 (.int .i64 0) fun v5 => condK v5 (K (.tup [v3, v4]) h) (lenSK x0 fun v6 => call (.func 27) [v2, v6, x1] h <| pz K fun v7 h => p12_14001 call n v7 h K)
noncomputable def s12 (call : CallFn) (n : Nat) (x0 x1 : AV) (h : AHeap) (K : Kont) : Bool :=
  call (.func 26) [x0] h <| pz K fun v1 h => p12_4001 call n x0 x1 v1 h K

/-! ### 13 proctor/parse.Parse$1 -/
noncomputable def p13_1001 (call : CallFn) (n : Nat) (x1 x4 : AV) (h : AHeap) (K : Kont) : Bool :=
  storeNK h 3 x1 x4 fun h => K (.tup []) h
noncomputable def s13 (call : CallFn) (n : Nat) (x0 x1 : AV) (h : AHeap) (K : Kont) : Bool :=
  call (.func 14) [x0] h <| pz K fun v1 h => p13_1001 call n x1 v1 h K

/-! ### 14 (*proctor/parse.parser).base -/
noncomputable def p14_26 (call : CallFn) (n : Nat) (x2 x3 : AV) (h : AHeap) (K : Kont) : Bool :=
  loadGK h 3 x3 fun v36 => storeNK h 3 x2 v36 fun h => optR (resV h [(x2, some (true, 3))]) h K
set_option maxRecDepth 100000 in
noncomputable def b14_6 (call : CallFn) (n : Nat) (B6 : F3) (x0 x2 x3 : AV) (h : AHeap) (K : Kont) : Bool :=
  nilckK x0 fun v3 => fadrK 1 v3 fun v4 => loadK h v4 fun v5 => nilckK x0 fun v6 => fadrK 0 v6 fun v7 => loadK h v7 fun v8 => lenK v8 fun v9 => lssK v5 v9 fun v10 => condK v10 (call (.func 28) [x0, (.str [99, 108, 97, 115, 115])] h <| pz K fun v11 h => condK v11 (fadrK 0 x3 fun v12 => loadK h v12 fun v13 => call (.func 29) [x0] h <| pz K fun v14 h => loadK h v12 <| sameK v13 <| optPK (bsliceV h 1 3 [.str [], .str [], .nilSlc] [(0, v14)]) fun v15 h => loadK h v12 <| sameK v13 <| appK h 3 56 v13 v15 fun v16 h => fadrK 0 x3 fun v17 => storeK h v17 v16 fun h => B6 x0 x2 x3 h) (call (.func 28) [x0, (.str [114, 117, 108, 101])] h <| pz K fun v19 h => condK v19 (fadrK 1 x3 fun v20 => loadK h v20 fun v21 => call (.func 30) [x0] h <| pz K fun v22 h => loadK h v20 <| sameK v21 <| optPK (bsliceV h 1 8 [.str [], .int .i64 0, .str [], .str [], .bool false, .bool false, .nilSlc, .nilSlc] [(0, v22)]) fun v23 h => loadK h v20 <| sameK v21 <| appK h 8 112 v21 v23 fun v24 h => fadrK 1 x3 fun v25 => storeK h v25 v24 fun h => B6 x0 x2 x3 h) (optPK (bsliceV h 1 1 [.str []] [(0, (.str [113, 117, 101, 114, 121]))]) fun v27 h => call (.func 31) [x0, v27] h <| pz K fun v28 h => fadrK 2 x3 fun v29 => loadK h v29 fun v30 => call (.func 32) [x0] h <| pz K fun v31 h => loadK h v29 <| sameK v30 <| optPK (bsliceV h 1 3 [.str [], .nilSlc, .nilSlc] [(0, v31)]) fun v32 h => loadK h v29 <| sameK v30 <| appK h 3 64 v30 v32 fun v33 h => fadrK 2 x3 fun v34 => storeK h v34 v33 fun h => B6 x0 x2 x3 h))) (p14_26 call n x2 x3 h K)
noncomputable def l14_6 (call : CallFn) (n : Nat) : Nat → AV → AV → AV → AHeap → Kont → Bool :=
  @Nat.rec (fun _ => AV → AV → AV → AHeap → Kont → Bool) (fun _ _ _ _ _ => false) (fun _ ih x0 x2 x3 h K => b14_6 call n (fun x0 x2 x3 h => ih x0 x2 x3 h K) x0 x2 x3 h K)
noncomputable def s14 (call : CallFn) (n : Nat) (x0 : AV) (h : AHeap) (K : Kont) : Bool :=
  allocK h [.nilSlc, .nilSlc, .nilSlc] 3 fun v1 h => allocK h [.nilSlc, .nilSlc, .nilSlc] 3 fun v2 h => l14_6 call n n x0 v1 v2 h K

/-! ### 15 proctor/desugar.Cores -/
noncomputable def p15_55 (call : CallFn) (n : Nat) (B18 : F4) (x6 x22 x23 x24 : AV) (h : AHeap) (K : Kont) : Bool :=
  addK x24 (.int .i64 1) fun v29 => B18 x6 x22 x23 v29 h
noncomputable def b15_42 (call : CallFn) (n : Nat) (B18 : F4) (B42 : F8) (x6 x7 x22 x23 x24 x37 x38 x39 : AV) (h : AHeap) (K : Kont) : Bool :=
  lssK x39 x38 fun v22 => condK v22 (iadrK h 1 x37 x39 fun v23 => loadK h v23 fun v24 => buildK [.int .i64 0, .int .i64 0, .nilSlc] [(0, 1, x7), (1, 1, x39), (2, 1, v24)] fun v25 => optPK (bsliceV h 1 3 [.int .i64 0, .int .i64 0, .nilSlc] [(0, v25)]) fun v26 h => appK h 3 40 x6 v26 fun v27 h => addK x39 (.int .i64 1) fun v28 => B42 v27 x7 x22 x23 x24 x37 x38 v28 h) (p15_55 call n B18 x6 x22 x23 x24 h K)
noncomputable def l15_42 (call : CallFn) (n : Nat) (B18 : F4) : Nat → AV → AV → AV → AV → AV → AV → AV → AV → AHeap → Kont → Bool :=
  @Nat.rec (fun _ => AV → AV → AV → AV → AV → AV → AV → AV → AHeap → Kont → Bool) (fun _ _ _ _ _ _ _ _ _ _ => false) (fun _ ih x6 x7 x22 x23 x24 x37 x38 x39 h K => b15_42 call n B18 (fun x6 x7 x22 x23 x24 x37 x38 x39 h => ih x6 x7 x22 x23 x24 x37 x38 x39 h K) x6 x7 x22 x23 x24 x37 x38 x39 h K)
noncomputable def p15_39 (call : CallFn) (n : Nat) (B18 : F4) (x6 x7 x9 x22 x23 x24 : AV) (h : AHeap) (K : Kont) : Bool :=
  lenK x9 fun v21 => l15_42 call n B18 n x6 x7 x22 x23 x24 x9 v21 (.int .i64 0) h K
noncomputable def p15_31001 (call : CallFn) (n : Nat) (B18 : F4) (x6 x7 x22 x23 x24 x32 : AV) (h : AHeap) (K : Kont) : Bool :=
  extK 0 x32 fun v18 => extK 1 x32 fun v19 => neqK v19 (.int .i64 0) fun v20 => condK v20 (K (.tup [.nilSlc, (.int .i64 22)]) h) (p15_39 call n B18 x6 x7 v18 x22 x23 x24 h K)
noncomputable def p15_25 (call : CallFn) (n : Nat) (B18 : F4) (x6 x22 x23 x24 : AV) (h : AHeap) (K : Kont) : Bool :=
  iadrK h 8 x22 x24 fun v11 => loadGK h 8 v11 fun v12 => allocK h [.str [], .int .i64 0, .str [], .str [], .bool false, .bool false, .nilSlc, .nilSlc] 8 fun v13 h => storeNK h 8 v13 v12 fun h => fadrK 6 v13 fun v15 => loadK h v15 fun v16 => call (.func 34) [v16] h <| pz K fun v17 h => p15_31001 call n B18 x6 x24 x22 x23 x24 v17 h K
noncomputable def p15_56 (call : CallFn) (n : Nat) (x6 : AV) (h : AHeap) (K : Kont) : Bool :=
  lenK x6 fun v30 => gtrK v30 (.int .i64 512) fun v31 => condK v31 (K (.tup [.nilSlc, (.int .i64 22)]) h) (K (.tup [x6, (.int .i64 0)]) h)
noncomputable def b15_18 (call : CallFn) (n : Nat) (B18 : F4) (x6 x22 x23 x24 : AV) (h : AHeap) (K : Kont) : Bool :=
  lssK x24 x23 fun v10 => condK v10 (p15_25 call n B18 x6 x22 x23 x24 h K) (p15_56 call n x6 h K)
noncomputable def l15_18 (call : CallFn) (n : Nat) : Nat → AV → AV → AV → AV → AHeap → Kont → Bool :=
  @Nat.rec (fun _ => AV → AV → AV → AV → AHeap → Kont → Bool) (fun _ _ _ _ _ _ => false) (fun _ ih x6 x22 x23 x24 h K => b15_18 call n (fun x6 x22 x23 x24 h => ih x6 x22 x23 x24 h K) x6 x22 x23 x24 h K)
noncomputable def p15_12 (call : CallFn) (n : Nat) (x1 : AV) (h : AHeap) (K : Kont) : Bool :=
  fadrK 1 x1 fun v7 => loadK h v7 fun v8 => lenK v8 fun v9 => l15_18 call n n .nilSlc v8 v9 (.int .i64 0) h K
noncomputable def p15_5001 (call : CallFn) (n : Nat) (x1 x15 : AV) (h : AHeap) (K : Kont) : Bool :=
  extK 0 x15 fun v4 => extK 1 x15 fun v5 => neqK v5 (.int .i64 0) fun v6 => condK v6 (K (.tup [.nilSlc, v5]) h) (p15_12 call n x1 h K)
noncomputable def s15 (call : CallFn) (n : Nat) (x0 : AV) (h : AHeap) (K : Kont) : Bool :=
  optPK (boxA h (none) 3 x0) fun v1 h => loadGK h 3 v1 fun v2 => call (.func 33) [v2] h <| pz K fun v3 h => p15_5001 call n v1 v3 h K

/-! ### 16 proctor/network.Of -/
noncomputable def p16_27 (call : CallFn) (n : Nat) (x7 x8 : AV) (h : AHeap) (K : Kont) : Bool :=
  call (.func 38) [x7, x8] h <| pz K fun v32 h => K x7 h
noncomputable def b16_12 (call : CallFn) (n : Nat) (B12 : F5) (x7 x8 x24 x25 x26 : AV) (h : AHeap) (K : Kont) : Bool :=
  lssK x26 x25 fun v13 => condK v13 (iadrK h 3 x24 x26 fun v14 => loadGK h 3 v14 fun v15 => allocK h [.int .i64 0, .int .i64 0, .nilSlc] 3 fun v16 h => storeNK h 3 v16 v15 fun h => nilckK x7 fun v18 => fadrK 4 v18 fun v19 => loadK h v19 fun v20 => fadrK 2 v16 fun v21 => loadK h v21 fun v22 => call (.func 36) [x7, v22] h <| pz K fun v23 h => loadK h v19 <| sameK v20 <| optPK (bsliceV h 1 1 [.nilSlc] [(0, v23)]) fun v24 h => loadK h v19 <| sameK v20 <| loadK h v21 <| sameK v22 <| appK h 1 24 v20 v24 fun v25 h => nilckK x7 fun v26 => fadrK 4 v26 fun v27 => storeK h v27 v25 fun h => loadGK h 3 v16 fun v29 => call (.func 37) [x8, x26, v29] h <| pz K fun v30 h => addK x26 (.int .i64 1) fun v31 => B12 x7 x8 x24 x25 v31 h) (p16_27 call n x7 x8 h K)
noncomputable def l16_12 (call : CallFn) (n : Nat) : Nat → AV → AV → AV → AV → AV → AHeap → Kont → Bool :=
  @Nat.rec (fun _ => AV → AV → AV → AV → AV → AHeap → Kont → Bool) (fun _ _ _ _ _ _ _ => false) (fun _ ih x7 x8 x24 x25 x26 h K => b16_12 call n (fun x7 x8 x24 x25 x26 h => ih x7 x8 x24 x25 x26 h K) x7 x8 x24 x25 x26 h K)
noncomputable def p16_4001 (call : CallFn) (n : Nat) (x1 x14 : AV) (h : AHeap) (K : Kont) : Bool :=
  extK 0 x14 fun v5 => extK 1 x14 fun v6 => optPK (mkmapV h) fun v7 h => buildK [.nilSlc, .nilPtr, .nilSlc, .nilMap, .nilSlc, .nilSlc] [(0, 1, x1), (1, 1, v5), (3, 1, v7)] fun v8 => optPK (boxA h ((some 124)) 6 v8) fun v9 h => buildK [.nilSlc, .nilSlc, .nilSlc, .str [], .nilSlc] [] fun v10 => optPK (boxA h (none) 5 v10) fun v11 h => lenK x1 fun v12 => l16_12 call n n v9 v11 x1 v12 (.int .i64 0) h K
noncomputable def s16 (call : CallFn) (n : Nat) (x0 x1 : AV) (h : AHeap) (K : Kont) : Bool :=
  optPK (boxA h (none) 3 x0) fun v1 h => fadrK 0 v1 fun v2 => loadK h v2 fun v3 => call (.func 35) [v3] h <| pz K fun v4 h => p16_4001 call n x1 v4 h K

/-! ### 17 (*proctor/network.Net).Alphas -/
noncomputable def p17_21001 (call : CallFn) (n : Nat) (B8 : F4) (x3 x5 x9 x10 x11 x17 : AV) (h : AHeap) (K : Kont) : Bool :=
  fadrK 2 x5 fun v13 => storeK h v13 x17 fun h => loadGK h 4 x5 fun v15 => optPK (bsliceV h 1 4 [.int .i64 0, .str [], .nilSlc, .int .i64 0] [(0, v15)]) fun v16 h => appK h 4 56 x3 v16 fun v17 h => addK x11 (.int .i64 1) fun v18 => B8 v17 x9 x10 v18 h
noncomputable def b17_8 (call : CallFn) (n : Nat) (B8 : F4) (x3 x9 x10 x11 : AV) (h : AHeap) (K : Kont) : Bool :=
  lssK x11 x10 fun v5 => condK v5 (iadrK h 4 x9 x11 fun v6 => loadGK h 4 v6 fun v7 => allocK h [.int .i64 0, .str [], .nilSlc, .int .i64 0] 4 fun v8 h => storeNK h 4 v8 v7 fun h => fadrK 2 v8 fun v10 => loadK h v10 fun v11 => call (.func 39) [v11] h <| pz K fun v12 h => p17_21001 call n B8 x3 v8 x9 x10 x11 v12 h K) (K x3 h)
noncomputable def l17_8 (call : CallFn) (n : Nat) : Nat → AV → AV → AV → AV → AHeap → Kont → Bool :=
  @Nat.rec (fun _ => AV → AV → AV → AV → AHeap → Kont → Bool) (fun _ _ _ _ _ _ => false) (fun _ ih x3 x9 x10 x11 h K => b17_8 call n (fun x3 x9 x10 x11 h => ih x3 x9 x10 x11 h K) x3 x9 x10 x11 h K)
noncomputable def s17 (call : CallFn) (n : Nat) (x0 : AV) (h : AHeap) (K : Kont) : Bool :=
  nilckK x0 fun v1 => fadrK 2 v1 fun v2 => loadK h v2 fun v3 => lenK v3 fun v4 => l17_8 call n n .nilSlc v3 v4 (.int .i64 0) h K

/-! ### 18 (*proctor/network.Net).Segments -/
set_option maxRecDepth 100000 in
noncomputable def b18_8 (call : CallFn) (n : Nat) (B8 : F4) (x3 x9 x10 x11 : AV) (h : AHeap) (K : Kont) : Bool :=
  lssK x11 x10 fun v5 => condK v5 (iadrK h 1 x9 x11 fun v6 => loadK h v6 fun v7 => nilckK v7 fun v8 => fadrK 3 v8 fun v9 => loadK h v9 fun v10 => nilckK v7 fun v11 => fadrK 0 v11 fun v12 => fadrK 0 v12 fun v13 => loadK h v13 fun v14 => nilckK v7 fun v15 => fadrK 0 v15 fun v16 => fadrK 1 v16 fun v17 => loadK h v17 fun v18 => nilckK v7 fun v19 => fadrK 4 v19 fun v20 => loadK h v20 fun v21 => nilckK v7 fun v22 => fadrK 0 v22 fun v23 => fadrK 2 v23 fun v24 => loadK h v24 fun v25 => call (.func 40) [v14] h <| pz K fun v26 h => loadK h v9 <| sameK v10 <| loadK h v17 <| sameK v18 <| loadK h v20 <| sameK v21 <| loadK h v24 <| sameK v25 <| call (.func 41) [v18] h <| pz K fun v27 h => loadK h v9 <| sameK v10 <| loadK h v20 <| sameK v21 <| loadK h v24 <| sameK v25 <| call (.func 41) [v21] h <| pz K fun v28 h => loadK h v9 <| sameK v10 <| loadK h v24 <| sameK v25 <| call (.func 41) [v25] h <| pz K fun v29 h => loadK h v9 <| sameK v10 <| buildK [.int .i64 0, .nilSlc, .nilSlc, .nilSlc, .nilSlc] [(0, 1, v10), (1, 1, v26), (2, 1, v27), (3, 1, v28), (4, 1, v29)] fun v30 => optPK (bsliceV h 1 5 [.int .i64 0, .nilSlc, .nilSlc, .nilSlc, .nilSlc] [(0, v30)]) fun v31 h => loadK h v9 <| sameK v10 <| loadK h v13 <| sameK v14 <| loadK h v17 <| sameK v18 <| loadK h v20 <| sameK v21 <| loadK h v24 <| sameK v25 <| appK h 5 104 x3 v31 fun v32 h => addK x11 (.int .i64 1) fun v33 => B8 v32 x9 x10 v33 h) (K x3 h)
noncomputable def l18_8 (call : CallFn) (n : Nat) : Nat → AV → AV → AV → AV → AHeap → Kont → Bool :=
  @Nat.rec (fun _ => AV → AV → AV → AV → AHeap → Kont → Bool) (fun _ _ _ _ _ _ => false) (fun _ ih x3 x9 x10 x11 h K => b18_8 call n (fun x3 x9 x10 x11 h => ih x3 x9 x10 x11 h K) x3 x9 x10 x11 h K)
noncomputable def s18 (call : CallFn) (n : Nat) (x0 : AV) (h : AHeap) (K : Kont) : Bool :=
  nilckK x0 fun v1 => fadrK 5 v1 fun v2 => loadK h v2 fun v3 => lenK v3 fun v4 => l18_8 call n n .nilSlc v3 v4 (.int .i64 0) h K

/-! ### 19 (*proctor/network.Net).Cores -/
noncomputable def p19_21001 (call : CallFn) (n : Nat) (B8 : F4) (x3 x5 x9 x10 x11 x17 : AV) (h : AHeap) (K : Kont) : Bool :=
  fadrK 2 x5 fun v13 => storeK h v13 x17 fun h => loadGK h 3 x5 fun v15 => optPK (bsliceV h 1 3 [.int .i64 0, .int .i64 0, .nilSlc] [(0, v15)]) fun v16 h => appK h 3 40 x3 v16 fun v17 h => addK x11 (.int .i64 1) fun v18 => B8 v17 x9 x10 v18 h
noncomputable def b19_8 (call : CallFn) (n : Nat) (B8 : F4) (x3 x9 x10 x11 : AV) (h : AHeap) (K : Kont) : Bool :=
  lssK x11 x10 fun v5 => condK v5 (iadrK h 3 x9 x11 fun v6 => loadGK h 3 v6 fun v7 => allocK h [.int .i64 0, .int .i64 0, .nilSlc] 3 fun v8 h => storeNK h 3 v8 v7 fun h => fadrK 2 v8 fun v10 => loadK h v10 fun v11 => call (.func 40) [v11] h <| pz K fun v12 h => p19_21001 call n B8 x3 v8 x9 x10 x11 v12 h K) (K x3 h)
noncomputable def l19_8 (call : CallFn) (n : Nat) : Nat → AV → AV → AV → AV → AHeap → Kont → Bool :=
  @Nat.rec (fun _ => AV → AV → AV → AV → AHeap → Kont → Bool) (fun _ _ _ _ _ _ => false) (fun _ ih x3 x9 x10 x11 h K => b19_8 call n (fun x3 x9 x10 x11 h => ih x3 x9 x10 x11 h K) x3 x9 x10 x11 h K)
noncomputable def s19 (call : CallFn) (n : Nat) (x0 : AV) (h : AHeap) (K : Kont) : Bool :=
  nilckK x0 fun v1 => fadrK 0 v1 fun v2 => loadK h v2 fun v3 => lenK v3 fun v4 => l19_8 call n n .nilSlc v3 v4 (.int .i64 0) h K

/-! ### 20 (*proctor/network.Net).Path -/
noncomputable def p20_32 (call : CallFn) (n : Nat) (B16 : F5) (x1 x6 x23 x24 x25 : AV) (h : AHeap) (K : Kont) : Bool :=
  addK x25 (.int .i64 1) fun v27 => B16 x1 x6 x23 x24 v27 h
noncomputable def b20_16 (call : CallFn) (n : Nat) (B16 : F5) (x1 x6 x23 x24 x25 : AV) (h : AHeap) (K : Kont) : Bool :=
  lssK x25 x24 fun v14 => condK v14 (iadrK h 1 x23 x25 fun v15 => loadK h v15 fun v16 => nilckK v16 fun v17 => fadrK 0 v17 fun v18 => fadrK 1 v18 fun v19 => loadK h v19 fun v20 => call (.func 42) [v20, x1] h <| pz K fun v21 h => condK v21 (nilckK v16 fun v22 => fadrK 3 v22 fun v23 => loadK h v23 fun v24 => optPK (bsliceV h 1 1 [.int .i64 0] [(0, v24)]) fun v25 h => appK h 1 8 x6 v25 fun v26 h => p20_32 call n B16 x1 v26 x23 x24 x25 h K) (p20_32 call n B16 x1 x6 x23 x24 x25 h K)) (K (.tup [x6, (.int .i64 0)]) h)
noncomputable def l20_16 (call : CallFn) (n : Nat) : Nat → AV → AV → AV → AV → AV → AHeap → Kont → Bool :=
  @Nat.rec (fun _ => AV → AV → AV → AV → AV → AHeap → Kont → Bool) (fun _ _ _ _ _ _ _ => false) (fun _ ih x1 x6 x23 x24 x25 h K => b20_16 call n (fun x1 x6 x23 x24 x25 h => ih x1 x6 x23 x24 x25 h K) x1 x6 x23 x24 x25 h K)
noncomputable def p20_10 (call : CallFn) (n : Nat) (x0 x1 : AV) (h : AHeap) (K : Kont) : Bool :=
  nilckK x0 fun v10 => fadrK 5 v10 fun v11 => loadK h v11 fun v12 => lenK v12 fun v13 => l20_16 call n n x1 .nilSlc v12 v13 (.int .i64 0) h K
noncomputable def s20 (call : CallFn) (n : Nat) (x0 x1 : AV) (h : AHeap) (K : Kont) : Bool :=
  lssK x1 (.int .i64 0) fun v1 => gK v1 false (optK (some x1)) fun v2 => gK v1 false (optK (some x0)) fun v3 => gK v1 false (nilckK v3) fun v4 => gK v1 false (fadrK 0 v4) fun v5 => gK v1 false (loadK h v5) fun v6 => gK v1 false (lenK v6) fun v7 => gK v1 false (geqK v2 v7) fun v8 => pickK v1 (.bool true) v8 fun v9 => condK v9 (K (.tup [.nilSlc, (.int .i64 32)]) h) (p20_10 call n x0 x1 h K)

/-! ### 21 (*proctor/network.Net).Alpha -/
set_option maxRecDepth 100000 in
noncomputable def s21 (call : CallFn) (n : Nat) (x0 x1 x2 : AV) (h : AHeap) (K : Kont) : Bool :=
  lssK x1 (.int .i64 0) fun v1 => gK v1 false (optK (some x1)) fun v2 => gK v1 false (optK (some x0)) fun v3 => gK v1 false (nilckK v3) fun v4 => gK v1 false (fadrK 0 v4) fun v5 => gK v1 false (loadK h v5) fun v6 => gK v1 false (lenK v6) fun v7 => gK v1 false (geqK v2 v7) fun v8 => pickK v1 (.bool true) v8 fun v9 => condK v9 (K (.tup [(.int .i64 0), (.int .i64 32)]) h) (lssK x2 (.int .i64 0) fun v10 => gK v10 false (optK (some x2)) fun v11 => gK v10 false (optK (some x0)) fun v12 => gK v10 false (nilckK v12) fun v13 => gK v10 false (fadrK 4 v13) fun v14 => gK v10 false (loadK h v14) fun v15 => gK v10 false (optK (some x1)) fun v16 => gK v10 false (iadrK h 1 v15 v16) fun v17 => gK v10 false (loadK h v17) fun v18 => gK v10 false (lenK v18) fun v19 => gK v10 false (geqK v11 v19) fun v20 => pickK v10 (.bool true) v20 fun v21 => gK v21 false (optK (some x0)) fun v22 => gK v21 false (nilckK v22) fun v23 => gK v21 false (fadrK 4 v23) fun v24 => gK v21 false (loadK h v24) fun v25 => gK v21 false (optK (some x1)) fun v26 => gK v21 false (iadrK h 1 v25 v26) fun v27 => gK v21 false (loadK h v27) fun v28 => gK v21 false (optK (some x2)) fun v29 => gK v21 false (iadrK h 1 v28 v29) fun v30 => gK v21 false (loadK h v30) fun v31 => gK v21 false (lssK v31 (.int .i64 0)) fun v32 => pickK v21 (.bool true) v32 fun v33 => condK v33 (K (.tup [(.int .i64 0), (.int .i64 1)]) h) (nilckK x0 fun v34 => fadrK 4 v34 fun v35 => loadK h v35 fun v36 => iadrK h 1 v36 x1 fun v37 => loadK h v37 fun v38 => iadrK h 1 v38 x2 fun v39 => loadK h v39 fun v40 => K (.tup [v40, (.int .i64 0)]) h))

/-! ### 22 math/bits.OnesCount64 -/
noncomputable def s22 (call : CallFn) (n : Nat) (x0 : AV) (h : AHeap) (K : Kont) : Bool :=
  optK (binA .shr x0 (.int .u64 1)) fun v1 => optK (binA .and v1 (.int .u64 6148914691236517205)) fun v2 => optK (binA .and x0 (.int .u64 6148914691236517205)) fun v3 => addK v2 v3 fun v4 => optK (binA .shr v4 (.int .u64 2)) fun v5 => optK (binA .and v5 (.int .u64 3689348814741910323)) fun v6 => optK (binA .and v4 (.int .u64 3689348814741910323)) fun v7 => addK v6 v7 fun v8 => optK (binA .shr v8 (.int .u64 4)) fun v9 => addK v9 v8 fun v10 => optK (binA .and v10 (.int .u64 1085102592571150095)) fun v11 => optK (binA .shr v11 (.int .u64 8)) fun v12 => addK v11 v12 fun v13 => optK (binA .shr v13 (.int .u64 16)) fun v14 => addK v13 v14 fun v15 => optK (binA .shr v15 (.int .u64 32)) fun v16 => addK v15 v16 fun v17 => optK (convA .i64 v17) fun v18 => optK (binA .and v18 (.int .i64 127)) fun v19 => K v19 h

/-! ### 23 (proctor/link.spot).step -/
noncomputable def s23 (call : CallFn) (n : Nat) (x0 x1 : AV) (h : AHeap) (K : Kont) : Bool :=
  optPK (boxA h (none) 2 x0) fun v1 h => condK x1 (fadrK 0 v1 fun v2 => loadK h v2 fun v3 => nilckK v3 fun v4 => fadrK 0 v4 fun v5 => loadK h v5 fun v6 => fadrK 1 v1 fun v7 => loadK h v7 fun v8 => optK (binA .or v6 v8) fun v9 => nilckK v3 fun v10 => fadrK 0 v10 fun v11 => storeK h v11 v9 fun h => K (.tup []) h) (fadrK 0 v1 fun v13 => loadK h v13 fun v14 => nilckK v14 fun v15 => fadrK 0 v15 fun v16 => loadK h v16 fun v17 => fadrK 1 v1 fun v18 => loadK h v18 fun v19 => optK (binA .andNot v17 v19) fun v20 => nilckK v14 fun v21 => fadrK 0 v21 fun v22 => storeK h v22 v20 fun h => K (.tup []) h)

/-! ### 24 (*proctor/link.Links).linked -/
noncomputable def p24_4001 (call : CallFn) (n : Nat) (x13 : AV) (h : AHeap) (K : Kont) : Bool :=
  notK x13 fun v10 => K v10 h
noncomputable def s24 (call : CallFn) (n : Nat) (x0 x1 : AV) (h : AHeap) (K : Kont) : Bool :=
  boxK h x0 fun v1 h => loadK h v1 fun v2 => nilckK v2 fun v3 => fadrK 3 v3 fun v4 => loadK h v4 fun v5 => iadrK h 1 v5 x1 fun v6 => loadK h v6 fun v7 => optK (some (.fn (.func 44) [] [v1])) fun v8 => call (.func 43) [v7, v8] h <| pz K fun v9 h => p24_4001 call n v9 h K

/-! ### 25 proctor/proctorref0.EqInts -/
noncomputable def b25_14 (call : CallFn) (n : Nat) (B14 : F3) (x0 x1 x5 : AV) (h : AHeap) (K : Kont) : Bool :=
  lenK x0 fun v4 => lssK x5 v4 fun v5 => condK v5 (iadrK h 1 x0 x5 fun v6 => loadK h v6 fun v7 => iadrK h 1 x1 x5 fun v8 => loadK h v8 fun v9 => neqK v7 v9 fun v10 => condK v10 (K (.bool false) h) (addK x5 (.int .i64 1) fun v11 => B14 x0 x1 v11 h)) (K (.bool true) h)
noncomputable def l25_14 (call : CallFn) (n : Nat) : Nat → AV → AV → AV → AHeap → Kont → Bool :=
  @Nat.rec (fun _ => AV → AV → AV → AHeap → Kont → Bool) (fun _ _ _ _ _ => false) (fun _ ih x0 x1 x5 h K => b25_14 call n (fun x0 x1 x5 h => ih x0 x1 x5 h K) x0 x1 x5 h K)
noncomputable def p25_10 (call : CallFn) (n : Nat) (x0 x1 : AV) (h : AHeap) (K : Kont) : Bool :=
  l25_14 call n n x0 x1 (.int .i64 0) h K
noncomputable def s25 (call : CallFn) (n : Nat) (x0 x1 : AV) (h : AHeap) (K : Kont) : Bool :=
  lenK x0 fun v1 => lenK x1 fun v2 => neqK v1 v2 fun v3 => condK v3 (K (.bool false) h) (p25_10 call n x0 x1 h K)

/-! ### 26 proctor/lex.Lex -/
noncomputable def p26_12001 (call : CallFn) (n : Nat) (x9 : AV) (h : AHeap) (K : Kont) : Bool :=
  extK 0 x9 fun v4 => extK 1 x9 fun v5 => extK 2 x9 fun v6 => K (.tup [v4, v5, v6]) h
noncomputable def s26 (call : CallFn) (n : Nat) (x0 : AV) (h : AHeap) (K : Kont) : Bool :=
  lenSK x0 fun v1 => gtrK v1 (.int .i64 65536) fun v2 => condK v2 (K (.tup [.nilSlc, (.int .i64 0), (.int .i64 21)]) h) (call (.func 46) [x0] h <| pz K fun v3 h => p26_12001 call n v3 h K)

/-! ### 28 (*proctor/parse.parser).take -/
noncomputable def p28_5001 (call : CallFn) (n : Nat) (x0 x7 : AV) (h : AHeap) (K : Kont) : Bool :=
  notK x7 fun v2 => condK v2 (K (.bool false) h) (nilckK x0 fun v3 => fadrK 1 v3 fun v4 => loadK h v4 fun v5 => addK v5 (.int .i64 1) fun v6 => nilckK x0 fun v7 => fadrK 1 v7 fun v8 => storeK h v8 v6 fun h => K (.bool true) h)
noncomputable def s28 (call : CallFn) (n : Nat) (x0 x1 : AV) (h : AHeap) (K : Kont) : Bool :=
  call (.func 50) [x0, (.int .i64 0), x1] h <| pz K fun v1 h => p28_5001 call n x0 v1 h K

/-! ### 29 (*proctor/parse.parser).class -/
noncomputable def p29_27 (call : CallFn) (n : Nat) (x0 x2 x3 : AV) (h : AHeap) (K : Kont) : Bool :=
  call (.func 55) [x0, (.str [125])] h <| pz K fun v33 h => loadGK h 3 x3 fun v34 => storeNK h 3 x2 v34 fun h => optR (resV h [(x2, some (true, 3))]) h K
noncomputable def p29_20003 (call : CallFn) (n : Nat) (B16 : F4) (x0 x2 x3 x21 x24 x27 x29 : AV) (h : AHeap) (K : Kont) : Bool :=
  gK x24 true (pickK x27 (.bool true) x29) fun v23 => gK x21 false (pickK x24 v23 (.bool false)) fun v24 => pickK x21 (.bool true) v24 fun v25 => condK v25 (fadrK 2 x3 fun v26 => loadK h v26 fun v27 => call (.func 54) [x0] h <| pz K fun v28 h => loadK h v26 <| sameK v27 <| optPK (bsliceV h 1 3 [.str [], .int .i64 0, .str []] [(0, v28)]) fun v29 h => loadK h v26 <| sameK v27 <| appK h 3 40 v27 v29 fun v30 h => fadrK 2 x3 fun v31 => storeK h v31 v30 fun h => B16 x0 x2 x3 (.bool false) h) (p29_27 call n x0 x2 x3 h K)
noncomputable def p29_20002 (call : CallFn) (n : Nat) (B16 : F4) (x0 x2 x3 x21 x24 x26 : AV) (h : AHeap) (K : Kont) : Bool :=
  gK x24 true (optK (some x26)) fun v20 => gK v20 false (optK (some x0)) fun v21 => gP v20 false (fun k => call (.func 53) [v21, (.int .i64 0)] h (pz K k)) h fun v22 h => p29_20003 call n B16 x0 x2 x3 x21 x24 v20 v22 h K
noncomputable def p29_20001 (call : CallFn) (n : Nat) (B16 : F4) (x0 x2 x3 x4 x16 x18 : AV) (h : AHeap) (K : Kont) : Bool :=
  gK x16 true (notK x18) fun v13 => pickK x16 v13 (.bool false) fun v14 => gK v14 false (optK (some x4)) fun v15 => gK v14 false (notK v15) fun v16 => gK v14 false (optK (some v16)) fun v17 => gK v17 true (optK (some x0)) fun v18 => gP v17 true (fun k => call (.func 28) [v18, (.str [44])] h (pz K k)) h fun v19 h => p29_20002 call n B16 x0 x2 x3 v14 v17 v19 h K
noncomputable def b29_16 (call : CallFn) (n : Nat) (B16 : F4) (x0 x2 x3 x4 : AV) (h : AHeap) (K : Kont) : Bool :=
  gK x4 true (optK (some x0)) fun v11 => gP x4 true (fun k => call (.func 50) [v11, (.int .i64 0), (.str [125])] h (pz K k)) h fun v12 h => p29_20001 call n B16 x0 x2 x3 x4 x4 v12 h K
noncomputable def l29_16 (call : CallFn) (n : Nat) : Nat → AV → AV → AV → AV → AHeap → Kont → Bool :=
  @Nat.rec (fun _ => AV → AV → AV → AV → AHeap → Kont → Bool) (fun _ _ _ _ _ _ => false) (fun _ ih x0 x2 x3 x4 h K => b29_16 call n (fun x0 x2 x3 x4 h => ih x0 x2 x3 x4 h K) x0 x2 x3 x4 h K)
noncomputable def p29_10 (call : CallFn) (n : Nat) (x0 x2 x3 : AV) (h : AHeap) (K : Kont) : Bool :=
  call (.func 52) [x0, (.str [123])] h <| pz K fun v10 h => l29_16 call n n x0 x2 x3 (.bool true) h K
noncomputable def p29_9001 (call : CallFn) (n : Nat) (x0 x2 x3 x11 : AV) (h : AHeap) (K : Kont) : Bool :=
  fadrK 1 x3 fun v8 => storeK h v8 x11 fun h => p29_10 call n x0 x2 x3 h K
noncomputable def p29_4001 (call : CallFn) (n : Nat) (x0 x2 x6 : AV) (h : AHeap) (K : Kont) : Bool :=
  buildK [.str [], .str [], .nilSlc] [(0, 1, x6)] fun v3 => allocK h [.str [], .str [], .nilSlc] 3 fun v4 h => storeNK h 3 v4 v3 fun h => call (.func 28) [x0, (.str [101, 120, 116, 101, 110, 100, 115])] h <| pz K fun v6 h => condK v6 (call (.func 51) [x0] h <| pz K fun v7 h => p29_9001 call n x0 x2 v4 v7 h K) (p29_10 call n x0 x2 v4 h K)
noncomputable def s29 (call : CallFn) (n : Nat) (x0 : AV) (h : AHeap) (K : Kont) : Bool :=
  allocK h [.str [], .str [], .nilSlc] 3 fun v1 h => call (.func 51) [x0] h <| pz K fun v2 h => p29_4001 call n x0 v1 v2 h K

/-! ### 30 (*proctor/parse.parser).rule -/
noncomputable def p30_19001 (call : CallFn) (n : Nat) (B6 : F3) (x0 x2 x3 x18 : AV) (h : AHeap) (K : Kont) : Bool :=
  fadrK 1 x3 fun v10 => storeK h v10 x18 fun h => B6 x0 x2 x3 h
noncomputable def p30_23001 (call : CallFn) (n : Nat) (B6 : F3) (x0 x2 x3 x24 : AV) (h : AHeap) (K : Kont) : Bool :=
  fadrK 2 x3 fun v14 => storeK h v14 x24 fun h => B6 x0 x2 x3 h
noncomputable def p30_27001 (call : CallFn) (n : Nat) (B6 : F3) (x0 x2 x3 x30 : AV) (h : AHeap) (K : Kont) : Bool :=
  fadrK 3 x3 fun v18 => storeK h v18 x30 fun h => B6 x0 x2 x3 h
noncomputable def p30_49 (call : CallFn) (n : Nat) (x2 x3 : AV) (h : AHeap) (K : Kont) : Bool :=
  loadGK h 8 x3 fun v42 => storeNK h 8 x2 v42 fun h => optR (resV h [(x2, some (true, 8))]) h K
noncomputable def p30_44001 (call : CallFn) (n : Nat) (B40 : F3) (x0 x2 x3 x44 : AV) (h : AHeap) (K : Kont) : Bool :=
  notK x44 fun v34 => condK v34 (fadrK 7 x3 fun v35 => loadK h v35 fun v36 => call (.func 59) [x0] h <| pz K fun v37 h => loadK h v35 <| sameK v36 <| optPK (bsliceV h 1 12 [.int .i64 0, .str [], .nilSlc, .int .i64 0, .str [], .int .i64 0, .bool false, .int .i64 0, .str [], .nilSlc, .nilSlc, .str []] [(0, v37)]) fun v38 h => loadK h v35 <| sameK v36 <| appK h 12 176 v36 v38 fun v39 h => fadrK 7 x3 fun v40 => storeK h v40 v39 fun h => B40 x0 x2 x3 h) (p30_49 call n x2 x3 h K)
noncomputable def b30_40 (call : CallFn) (n : Nat) (B40 : F3) (x0 x2 x3 : AV) (h : AHeap) (K : Kont) : Bool :=
  call (.func 28) [x0, (.str [101, 110, 100])] h <| pz K fun v33 h => p30_44001 call n B40 x0 x2 x3 v33 h K
noncomputable def l30_40 (call : CallFn) (n : Nat) : Nat → AV → AV → AV → AHeap → Kont → Bool :=
  @Nat.rec (fun _ => AV → AV → AV → AHeap → Kont → Bool) (fun _ _ _ _ _ => false) (fun _ ih x0 x2 x3 h K => b30_40 call n (fun x0 x2 x3 h => ih x0 x2 x3 h K) x0 x2 x3 h K)
noncomputable def p30_36001 (call : CallFn) (n : Nat) (x0 x2 x3 x38 : AV) (h : AHeap) (K : Kont) : Bool :=
  fadrK 6 x3 fun v29 => storeK h v29 x38 fun h => optPK (bsliceV h 1 1 [.str []] [(0, (.str [116, 104, 101, 110]))]) fun v31 h => call (.func 31) [x0, v31] h <| pz K fun v32 h => l30_40 call n n x0 x2 x3 h K
noncomputable def p30_34 (call : CallFn) (n : Nat) (x0 x2 x3 : AV) (h : AHeap) (K : Kont) : Bool :=
  optPK (bsliceV h 1 1 [.str []] [(0, (.str [116, 104, 101, 110]))]) fun v27 h => call (.func 58) [x0, v27] h <| pz K fun v28 h => p30_36001 call n x0 x2 x3 v28 h K
noncomputable def p30_10001 (call : CallFn) (n : Nat) (B6 : F3) (x0 x2 x3 x8 : AV) (h : AHeap) (K : Kont) : Bool :=
  notK x8 fun v7 => condK v7 (call (.func 28) [x0, (.str [115, 97, 108, 105, 101, 110, 99, 101])] h <| pz K fun v8 h => condK v8 (call (.func 57) [x0] h <| pz K fun v9 h => p30_19001 call n B6 x0 x2 x3 v9 h K) (call (.func 28) [x0, (.str [103, 114, 111, 117, 112])] h <| pz K fun v12 h => condK v12 (call (.func 56) [x0] h <| pz K fun v13 h => p30_23001 call n B6 x0 x2 x3 v13 h K) (call (.func 28) [x0, (.str [102, 108, 111, 119])] h <| pz K fun v16 h => condK v16 (call (.func 56) [x0] h <| pz K fun v17 h => p30_27001 call n B6 x0 x2 x3 v17 h K) (call (.func 28) [x0, (.str [110, 111, 108, 111, 111, 112])] h <| pz K fun v20 h => condK v20 (fadrK 4 x3 fun v21 => storeK h v21 (.bool true) fun h => B6 x0 x2 x3 h) (optPK (bsliceV h 1 1 [.str []] [(0, (.str [108, 111, 99, 107]))]) fun v23 h => call (.func 31) [x0, v23] h <| pz K fun v24 h => fadrK 5 x3 fun v25 => storeK h v25 (.bool true) fun h => B6 x0 x2 x3 h))))) (p30_34 call n x0 x2 x3 h K)
noncomputable def b30_6 (call : CallFn) (n : Nat) (B6 : F3) (x0 x2 x3 : AV) (h : AHeap) (K : Kont) : Bool :=
  call (.func 28) [x0, (.str [119, 104, 101, 110])] h <| pz K fun v6 h => p30_10001 call n B6 x0 x2 x3 v6 h K
noncomputable def l30_6 (call : CallFn) (n : Nat) : Nat → AV → AV → AV → AHeap → Kont → Bool :=
  @Nat.rec (fun _ => AV → AV → AV → AHeap → Kont → Bool) (fun _ _ _ _ _ => false) (fun _ ih x0 x2 x3 h K => b30_6 call n (fun x0 x2 x3 h => ih x0 x2 x3 h K) x0 x2 x3 h K)
noncomputable def p30_4001 (call : CallFn) (n : Nat) (x0 x2 x5 : AV) (h : AHeap) (K : Kont) : Bool :=
  buildK [.str [], .int .i64 0, .str [], .str [], .bool false, .bool false, .nilSlc, .nilSlc] [(0, 1, x5)] fun v3 => allocK h [.str [], .int .i64 0, .str [], .str [], .bool false, .bool false, .nilSlc, .nilSlc] 8 fun v4 h => storeNK h 8 v4 v3 fun h => l30_6 call n n x0 x2 v4 h K
noncomputable def s30 (call : CallFn) (n : Nat) (x0 : AV) (h : AHeap) (K : Kont) : Bool :=
  allocK h [.str [], .int .i64 0, .str [], .str [], .bool false, .bool false, .nilSlc, .nilSlc] 8 fun v1 h => call (.func 56) [x0] h <| pz K fun v2 h => p30_4001 call n x0 v1 v2 h K

/-! ### 31 (*proctor/parse.parser).must -/
noncomputable def p31_15001 (call : CallFn) (n : Nat) (B3 : F4) (x0 x6 x7 x8 x12 x15 : AV) (h : AHeap) (K : Kont) : Bool :=
  call (.func 49) [x12, x15] h <| pz K fun v6 h => addK x8 (.int .i64 1) fun v7 => B3 x0 x6 x7 v7 h
noncomputable def b31_3 (call : CallFn) (n : Nat) (B3 : F4) (x0 x6 x7 x8 : AV) (h : AHeap) (K : Kont) : Bool :=
  lssK x8 x7 fun v2 => condK v2 (iadrK h 1 x6 x8 fun v3 => loadK h v3 fun v4 => call (.func 28) [x0, v4] h <| pz K fun v5 h => p31_15001 call n B3 x0 x6 x7 x8 x0 v5 h K) (K (.tup []) h)
noncomputable def l31_3 (call : CallFn) (n : Nat) : Nat → AV → AV → AV → AV → AHeap → Kont → Bool :=
  @Nat.rec (fun _ => AV → AV → AV → AV → AHeap → Kont → Bool) (fun _ _ _ _ _ _ => false) (fun _ ih x0 x6 x7 x8 h K => b31_3 call n (fun x0 x6 x7 x8 h => ih x0 x6 x7 x8 h K) x0 x6 x7 x8 h K)
noncomputable def s31 (call : CallFn) (n : Nat) (x0 x1 : AV) (h : AHeap) (K : Kont) : Bool :=
  lenK x1 fun v1 => l31_3 call n n x0 x1 v1 (.int .i64 0) h K

/-! ### 33 proctor/check.Check -/
noncomputable def p33_41001 (call : CallFn) (n : Nat) (B28 : F3) (x41 x42 x43 x49 : AV) (h : AHeap) (K : Kont) : Bool :=
  extK 0 x49 fun v27 => extK 1 x49 fun v28 => notK v28 fun v29 => condK v29 (K (.tup [v27, (.int .i64 22)]) h) (addK x43 (.int .i64 1) fun v30 => B28 x41 x42 v30 h)
noncomputable def b33_28 (call : CallFn) (n : Nat) (B28 : F3) (x41 x42 x43 : AV) (h : AHeap) (K : Kont) : Bool :=
  lssK x43 x42 fun v23 => condK v23 (iadrK h 1 x41 x43 fun v24 => loadK h v24 fun v25 => callV call v25 [] h <| pz K fun v26 h => p33_41001 call n B28 x41 x42 x43 v26 h K) (K (.tup [(.str []), (.int .i64 0)]) h)
noncomputable def l33_28 (call : CallFn) (n : Nat) : Nat → AV → AV → AV → AHeap → Kont → Bool :=
  @Nat.rec (fun _ => AV → AV → AV → AHeap → Kont → Bool) (fun _ _ _ _ _ => false) (fun _ ih x41 x42 x43 h K => b33_28 call n (fun x41 x42 x43 h => ih x41 x42 x43 h K) x41 x42 x43 h K)
noncomputable def p33_22 (call : CallFn) (n : Nat) (x1 x6 : AV) (h : AHeap) (K : Kont) : Bool :=
  loadGK h 3 x1 fun v13 => buildK [.nilSlc, .nilSlc, .nilSlc, .nilPtr, .bool false, .int .i64 0] [(0, 3, v13), (3, 1, x6)] fun v14 => optPK (boxA h (none) 6 v14) fun v15 h => optK (some (.fn (.func 64) [v15] [])) fun v16 => optK (some (.fn (.func 65) [v15] [])) fun v17 => optK (some (.fn (.func 66) [v15] [])) fun v18 => optK (some (.fn (.func 67) [v15] [])) fun v19 => optK (some (.fn (.func 68) [v15] [])) fun v20 => optPK (bsliceV h 5 1 [.nilFn] [(0, v16), (1, v17), (2, v18), (3, v19), (4, v20)]) fun v21 h => lenK v21 fun v22 => l33_28 call n n v21 v22 (.int .i64 0) h K
noncomputable def p33_14001 (call : CallFn) (n : Nat) (x1 x22 : AV) (h : AHeap) (K : Kont) : Bool :=
  extK 0 x22 fun v10 => extK 1 x22 fun v11 => neqK v11 (.int .i64 0) fun v12 => condK v12 (K (.tup [(.str []), (.int .i64 10)]) h) (p33_22 call n x1 v10 h K)
noncomputable def p33_12 (call : CallFn) (n : Nat) (x1 : AV) (h : AHeap) (K : Kont) : Bool :=
  fadrK 0 x1 fun v7 => loadK h v7 fun v8 => call (.func 35) [v8] h <| pz K fun v9 h => p33_14001 call n x1 v9 h K
noncomputable def p33_5001 (call : CallFn) (n : Nat) (x1 x14 : AV) (h : AHeap) (K : Kont) : Bool :=
  extK 0 x14 fun v4 => extK 1 x14 fun v5 => eqlK v5 (.int .i64 1) fun v6 => condK v6 (K (.tup [(.str []), (.int .i64 1)]) h) (p33_12 call n x1 h K)
noncomputable def s33 (call : CallFn) (n : Nat) (x0 : AV) (h : AHeap) (K : Kont) : Bool :=
  optPK (boxA h (none) 3 x0) fun v1 h => loadGK h 3 v1 fun v2 => call (.func 63) [v2] h <| pz K fun v3 h => p33_5001 call n v1 v3 h K

/-! ### 35 proctor/class.New -/
noncomputable def p35_39001 (call : CallFn) (n : Nat) (B16 : F5) (x0 x4 x6 x13 x14 x15 x43 : AV) (h : AHeap) (K : Kont) : Bool :=
  fadrK 2 x6 fun v35 => storeK h v35 x43 fun h => nilckK x4 fun v37 => fadrK 0 v37 fun v38 => loadK h v38 fun v39 => loadGK h 3 x6 fun v40 => optPK (bsliceV h 1 3 [.str [], .str [], .nilSlc] [(0, v40)]) fun v41 h => loadK h v38 <| sameK v39 <| loadGK h 3 x6 <| sameK v40 <| appK h 3 56 v39 v41 fun v42 h => nilckK x4 fun v43 => fadrK 0 v43 fun v44 => storeK h v44 v42 fun h => addK x15 (.int .i64 1) fun v46 => B16 x0 x4 x13 x14 v46 h
noncomputable def p35_30001 (call : CallFn) (n : Nat) (B16 : F5) (x0 x4 x6 x13 x14 x15 x23 x27 : AV) (h : AHeap) (K : Kont) : Bool :=
  gK x23 false (notK x27) fun v20 => pickK x23 (.bool true) v20 fun v21 => condK v21 (K (.tup [.nilPtr, (.int .i64 10)]) h) (nilckK x4 fun v22 => fadrK 1 v22 fun v23 => loadK h v23 fun v24 => fadrK 0 x6 fun v25 => loadK h v25 fun v26 => nilckK x4 fun v27 => fadrK 0 v27 fun v28 => loadK h v28 fun v29 => lenK v29 fun v30 => optPK (unit (mupdA h (.leaf .str) v24 v26 v30)) fun _ h => fadrK 2 x6 fun v32 => loadK h v32 fun v33 => call (.func 75) [v33] h <| pz K fun v34 h => p35_39001 call n B16 x0 x4 x6 x13 x14 x15 v34 h K)
noncomputable def b35_16 (call : CallFn) (n : Nat) (B16 : F5) (x0 x4 x13 x14 x15 : AV) (h : AHeap) (K : Kont) : Bool :=
  lssK x15 x14 fun v7 => condK v7 (iadrK h 3 x13 x15 fun v8 => loadGK h 3 v8 fun v9 => allocK h [.str [], .str [], .nilSlc] 3 fun v10 h => storeNK h 3 v10 v9 fun h => fadrK 2 v10 fun v12 => loadK h v12 fun v13 => lenK v13 fun v14 => gtrK v14 (.int .i64 62) fun v15 => gK v15 false (optK (some x4)) fun v16 => gK v15 false (loadGK h 3 v10) fun v17 => gK v15 false (optK (some x0)) fun v18 => gP v15 false (fun k => call (.func 74) [v16, v17, v18] h (pz K k)) h fun v19 h => p35_30001 call n B16 x0 x4 v10 x13 x14 x15 v15 v19 h K) (K (.tup [x4, (.int .i64 0)]) h)
noncomputable def l35_16 (call : CallFn) (n : Nat) : Nat → AV → AV → AV → AV → AV → AHeap → Kont → Bool :=
  @Nat.rec (fun _ => AV → AV → AV → AV → AV → AHeap → Kont → Bool) (fun _ _ _ _ _ _ _ => false) (fun _ ih x0 x4 x13 x14 x15 h K => b35_16 call n (fun x0 x4 x13 x14 x15 h => ih x0 x4 x13 x14 x15 h K) x0 x4 x13 x14 x15 h K)
noncomputable def p35_12 (call : CallFn) (n : Nat) (x0 x4 : AV) (h : AHeap) (K : Kont) : Bool :=
  lenK x0 fun v6 => l35_16 call n n x0 x4 x0 v6 (.int .i64 0) h K
noncomputable def s35 (call : CallFn) (n : Nat) (x0 : AV) (h : AHeap) (K : Kont) : Bool :=
  optPK (mkmapV h) fun v1 h => buildK [.nilSlc, .nilMap] [(1, 1, v1)] fun v2 => optPK (boxA h (none) 2 v2) fun v3 h => lenK x0 fun v4 => gtrK v4 (.int .i64 64) fun v5 => condK v5 (K (.tup [.nilPtr, (.int .i64 10)]) h) (p35_12 call n x0 v3 h K)

/-! ### 36 (*proctor/network.Net).nodes -/
noncomputable def p36_27 (call : CallFn) (n : Nat) (B8 : F5) (x0 x5 x7 x8 x9 x10 x11 : AV) (h : AHeap) (K : Kont) : Bool :=
  fadrK 5 x7 fun v12 => loadK h v12 fun v13 => call (.func 36) [x0, v13] h <| pz K fun v14 h => optPK (bsliceV h 1 1 [.int .i64 0] [(0, x8)]) fun v15 h => appK h 1 8 x5 v15 fun v16 h => addK x11 (.int .i64 1) fun v17 => B8 x0 v16 x9 x10 v17 h
noncomputable def b36_8 (call : CallFn) (n : Nat) (B8 : F5) (x0 x5 x9 x10 x11 : AV) (h : AHeap) (K : Kont) : Bool :=
  lssK x11 x10 fun v2 => condK v2 (iadrK h 19 x9 x11 fun v3 => loadGK h 19 v3 fun v4 => allocK h [.int .i64 0, .str [], .str [], .nilSlc, .nilSlc, .nilSlc, .nilSlc, .nilSlc, .int .i64 0, .str [], .int .i64 0, .bool false, .int .i64 0, .str [], .nilSlc, .nilSlc, .str [], .str [], .nilSlc] 19 fun v5 h => storeNK h 19 v5 v4 fun h => fadrK 0 v5 fun v7 => loadK h v7 fun v8 => eqlK v8 (.int .i64 1) fun v9 => condK v9 (loadGK h 19 v5 fun v10 => call (.func 76) [x0, v10] h <| pz K fun v11 h => p36_27 call n B8 x0 x5 v5 v11 x9 x10 x11 h K) (p36_27 call n B8 x0 x5 v5 (.int .i64 (-1)) x9 x10 x11 h K)) (K x5 h)
noncomputable def l36_8 (call : CallFn) (n : Nat) : Nat → AV → AV → AV → AV → AV → AHeap → Kont → Bool :=
  @Nat.rec (fun _ => AV → AV → AV → AV → AV → AHeap → Kont → Bool) (fun _ _ _ _ _ _ _ => false) (fun _ ih x0 x5 x9 x10 x11 h K => b36_8 call n (fun x0 x5 x9 x10 x11 h => ih x0 x5 x9 x10 x11 h K) x0 x5 x9 x10 x11 h K)
noncomputable def s36 (call : CallFn) (n : Nat) (x0 x1 : AV) (h : AHeap) (K : Kont) : Bool :=
  lenK x1 fun v1 => l36_8 call n n x0 .nilSlc x1 v1 (.int .i64 0) h K

/-! ### 37 proctor/network.lay -/
noncomputable def p37_37 (call : CallFn) (n : Nat) (B10 : F6) (x1 x6 x7 x11 x17 x18 x19 : AV) (h : AHeap) (K : Kont) : Bool :=
  nilckK x6 fun v47 => fadrK 4 v47 fun v48 => loadK h v48 fun v49 => iadrK h 1 v49 x11 fun v50 => loadK h v50 fun v51 => nilckK v51 fun v52 => fadrK 0 v52 fun v53 => fadrK 1 v53 fun v54 => loadK h v54 fun v55 => optPK (bsliceV h 1 1 [.int .i64 0] [(0, x1)]) fun v56 h => appK h 1 8 v55 v56 fun v57 h => nilckK v51 fun v58 => fadrK 0 v58 fun v59 => fadrK 1 v59 fun v60 => storeK h v60 v57 fun h => addK x19 (.int .i64 1) fun v62 => B10 x1 v51 x7 x17 x18 v62 h
set_option maxRecDepth 100000 in
noncomputable def p37_27001 (call : CallFn) (n : Nat) (B10 : F6) (x1 x6 x7 x9 x17 x18 x19 x33 : AV) (h : AHeap) (K : Kont) : Bool :=
  allocK h [.str []] 1 fun v21 h => storeK h v21 x33 fun h => nilckK x6 fun v23 => fadrK 4 v23 fun v24 => loadK h v24 fun v25 => optK (some (.fn (.func 81) [] [v21])) fun v26 => call (.func 80) [v25, v26] h <| pz K fun v27 h => lssK v27 (.int .i64 0) fun v28 => condK v28 (nilckK x6 fun v29 => fadrK 4 v29 fun v30 => loadK h v30 fun v31 => lenK v31 fun v32 => nilckK x6 fun v33 => fadrK 4 v33 fun v34 => loadK h v34 fun v35 => loadGK h 19 x9 fun v36 => loadK h v21 fun v37 => optPK (bsliceV h 1 19 [.int .i64 0, .str [], .str [], .nilSlc, .nilSlc, .nilSlc, .nilSlc, .nilSlc, .int .i64 0, .str [], .int .i64 0, .bool false, .int .i64 0, .str [], .nilSlc, .nilSlc, .str [], .str [], .nilSlc] [(0, v36)]) fun v38 h => loadK h v34 <| sameK v35 <| loadGK h 19 x9 <| sameK v36 <| loadK h v21 <| sameK v37 <| buildK [.nilSlc, .nilSlc, .nilSlc] [(0, 1, v38)] fun v39 => buildK [.nilSlc, .nilSlc, .nilSlc, .str [], .nilSlc] [(0, 3, v39), (3, 1, v37)] fun v40 => optPK (boxA h (none) 5 v40) fun v41 h => loadK h v34 <| sameK v35 <| loadGK h 19 x9 <| sameK v36 <| loadK h v21 <| sameK v37 <| optPK (bsliceV h 1 1 [.nilPtr] [(0, v41)]) fun v42 h => loadK h v34 <| sameK v35 <| loadGK h 19 x9 <| sameK v36 <| loadK h v21 <| sameK v37 <| appK h 1 8 v35 v42 fun v43 h => nilckK x6 fun v44 => fadrK 4 v44 fun v45 => storeK h v45 v43 fun h => p37_37 call n B10 x1 x6 x7 v32 x17 x18 x19 h K) (p37_37 call n B10 x1 x6 x7 v27 x17 x18 x19 h K)
noncomputable def p37_41 (call : CallFn) (n : Nat) (x1 x6 : AV) (h : AHeap) (K : Kont) : Bool :=
  nilckK x6 fun v63 => fadrK 0 v63 fun v64 => fadrK 2 v64 fun v65 => loadK h v65 fun v66 => optPK (bsliceV h 1 1 [.int .i64 0] [(0, x1)]) fun v67 h => appK h 1 8 v66 v67 fun v68 h => nilckK x6 fun v69 => fadrK 0 v69 fun v70 => fadrK 2 v70 fun v71 => storeK h v71 v68 fun h => K (.tup []) h
noncomputable def b37_10 (call : CallFn) (n : Nat) (B10 : F6) (x1 x6 x7 x17 x18 x19 : AV) (h : AHeap) (K : Kont) : Bool :=
  lssK x19 x18 fun v8 => condK v8 (iadrK h 19 x17 x19 fun v9 => loadGK h 19 v9 fun v10 => allocK h [.int .i64 0, .str [], .str [], .nilSlc, .nilSlc, .nilSlc, .nilSlc, .nilSlc, .int .i64 0, .str [], .int .i64 0, .bool false, .int .i64 0, .str [], .nilSlc, .nilSlc, .str [], .str [], .nilSlc] 19 fun v11 h => storeNK h 19 v11 v10 fun h => nilckK x7 fun v13 => fadrK 0 v13 fun v14 => call (.func 77) [v14] h <| pz K fun v15 h => loadGK h 19 v11 fun v16 => call (.func 78) [x7, v16] h <| pz K fun v17 h => nilckK x7 fun v18 => fadrK 0 v18 fun v19 => call (.func 79) [v19] h <| pz K fun v20 h => p37_27001 call n B10 x1 x6 x7 v11 x17 x18 x19 v20 h K) (p37_41 call n x1 x6 h K)
noncomputable def l37_10 (call : CallFn) (n : Nat) : Nat → AV → AV → AV → AV → AV → AV → AHeap → Kont → Bool :=
  @Nat.rec (fun _ => AV → AV → AV → AV → AV → AV → AHeap → Kont → Bool) (fun _ _ _ _ _ _ _ _ => false) (fun _ ih x1 x6 x7 x17 x18 x19 h K => b37_10 call n (fun x1 x6 x7 x17 x18 x19 h => ih x1 x6 x7 x17 x18 x19 h K) x1 x6 x7 x17 x18 x19 h K)
noncomputable def s37 (call : CallFn) (n : Nat) (x0 x1 x2 : AV) (h : AHeap) (K : Kont) : Bool :=
  optPK (boxA h (none) 3 x2) fun v1 h => optPK (mkmapV h) fun v2 h => buildK [.nilPtr, .nilSlc, .nilMap] [(2, 1, v2)] fun v3 => optPK (boxA h ((some 185)) 3 v3) fun v4 h => fadrK 2 v1 fun v5 => loadK h v5 fun v6 => lenK v6 fun v7 => l37_10 call n n x1 x0 v4 v6 v7 (.int .i64 0) h K

/-! ### 38 (*proctor/network.Net).cut -/
noncomputable def b38_9 (call : CallFn) (n : Nat) (B9 : F4) (x4 x11 x12 x13 : AV) (h : AHeap) (K : Kont) : Bool :=
  lssK x13 x12 fun v9 => condK v9 (iadrK h 1 x11 x13 fun v10 => loadK h v10 fun v11 => loadK h x4 fun v12 => callV call v12 [v11] h <| pz K fun v13 h => addK x13 (.int .i64 1) fun v14 => B9 x4 x11 x12 v14 h) (K (.tup []) h)
noncomputable def l38_9 (call : CallFn) (n : Nat) : Nat → AV → AV → AV → AV → AHeap → Kont → Bool :=
  @Nat.rec (fun _ => AV → AV → AV → AV → AHeap → Kont → Bool) (fun _ _ _ _ _ _ => false) (fun _ ih x4 x11 x12 x13 h K => b38_9 call n (fun x4 x11 x12 x13 h => ih x4 x11 x12 x13 h K) x4 x11 x12 x13 h K)
noncomputable def s38 (call : CallFn) (n : Nat) (x0 x1 : AV) (h : AHeap) (K : Kont) : Bool :=
  boxK h x0 fun v1 h => allocK h [.nilFn] 1 fun v2 h => optK (some (.fn (.func 82) [] [v1, v2])) fun v3 => storeK h v2 v3 fun h => nilckK x1 fun v5 => fadrK 4 v5 fun v6 => loadK h v6 fun v7 => lenK v7 fun v8 => l38_9 call n n v2 v7 v8 (.int .i64 0) h K

/-! ### 39 proctor/network.exprs -/
noncomputable def p39_4001 (call : CallFn) (n : Nat) (x6 : AV) (h : AHeap) (K : Kont) : Bool :=
  iadrK h 19 x6 (.int .i64 0) fun v4 => fadrK 4 v4 fun v5 => loadK h v5 fun v6 => K v6 h
noncomputable def s39 (call : CallFn) (n : Nat) (x0 : AV) (h : AHeap) (K : Kont) : Bool :=
  buildK [.int .i64 0, .str [], .str [], .nilSlc, .nilSlc, .nilSlc, .nilSlc, .nilSlc, .int .i64 0, .str [], .int .i64 0, .bool false, .int .i64 0, .str [], .nilSlc, .nilSlc, .str [], .str [], .nilSlc] [(0, 1, (.int .i64 1)), (4, 1, x0)] fun v1 => optPK (bsliceV h 1 19 [.int .i64 0, .str [], .str [], .nilSlc, .nilSlc, .nilSlc, .nilSlc, .nilSlc, .int .i64 0, .str [], .int .i64 0, .bool false, .int .i64 0, .str [], .nilSlc, .nilSlc, .str [], .str [], .nilSlc] [(0, v1)]) fun v2 h => call (.func 40) [v2] h <| pz K fun v3 h => p39_4001 call n v3 h K

/-! ### 40 proctor/network.conds -/
noncomputable def s40 (call : CallFn) (n : Nat) (x0 : AV) (h : AHeap) (K : Kont) : Bool :=
  call (.func 84) [x0] h <| pz K fun v1 h => K v1 h

/-! ### 41 slices.Clone[[]int,int] -/
noncomputable def s41 (call : CallFn) (n : Nat) (x0 : AV) (h : AHeap) (K : Kont) : Bool :=
  optK (eqV h false .slc x0 .nilSlc) fun v1 => condK v1 (K .nilSlc h) (optPK (bsliceV h 0 1 [.int .i64 0] []) fun v2 h => appK h 1 8 v2 x0 fun v3 h => K v3 h)

/-! ### 42 slices.Contains[[]int,int] -/
noncomputable def p42_4001 (call : CallFn) (n : Nat) (x7 : AV) (h : AHeap) (K : Kont) : Bool :=
  geqK x7 (.int .i64 0) fun v2 => K v2 h
noncomputable def s42 (call : CallFn) (n : Nat) (x0 x1 : AV) (h : AHeap) (K : Kont) : Bool :=
  call (.func 85) [x0, x1] h <| pz K fun v1 h => p42_4001 call n v1 h K

/-! ### 43 slices.ContainsFunc[[]int,int] -/
noncomputable def p43_4001 (call : CallFn) (n : Nat) (x7 : AV) (h : AHeap) (K : Kont) : Bool :=
  geqK x7 (.int .i64 0) fun v2 => K v2 h
noncomputable def s43 (call : CallFn) (n : Nat) (x0 x1 : AV) (h : AHeap) (K : Kont) : Bool :=
  call (.func 86) [x0, x1] h <| pz K fun v1 h => p43_4001 call n v1 h K

/-! ### 44 (*proctor/link.Links).linked$1 -/
noncomputable def p44_4001 (call : CallFn) (n : Nat) (x11 : AV) (h : AHeap) (K : Kont) : Bool :=
  notK x11 fun v8 => K v8 h
noncomputable def s44 (call : CallFn) (n : Nat) (x0 x1 : AV) (h : AHeap) (K : Kont) : Bool :=
  loadK h x1 fun v1 => nilckK v1 fun v2 => fadrK 2 v2 fun v3 => loadK h v3 fun v4 => iadrK h 1 v4 x0 fun v5 => loadK h v5 fun v6 => call (.func 45) [v6] h <| pz K fun v7 h => p44_4001 call n v7 h K

/-! ### 45 (*proctor/link.segment).linked -/
noncomputable def s45 (call : CallFn) (n : Nat) (x0 : AV) (h : AHeap) (K : Kont) : Bool :=
  nilckK x0 fun v1 => fadrK 0 v1 fun v2 => loadK h v2 fun v3 => nilckK x0 fun v4 => fadrK 1 v4 fun v5 => loadK h v5 fun v6 => eqlK v3 v6 fun v7 => K v7 h

/-! ### 48 proctor/parse.operators -/
set_option maxRecDepth 100000 in
noncomputable def s48 (call : CallFn) (n : Nat) (h : AHeap) (K : Kont) : Bool :=
  optPK (mkmapV h) fun v1 h => optPK (mkmapV h) fun v2 h => optPK (unit (mupdA h (.leaf .str) v2 (.str [124, 124]) (.int .i64 9))) fun _ h => optPK (unit (mupdA h (.leaf .int) v1 (.int .i64 0) v2)) fun _ h => optPK (mkmapV h) fun v5 h => optPK (unit (mupdA h (.leaf .str) v5 (.str [38, 38]) (.int .i64 8))) fun _ h => optPK (unit (mupdA h (.leaf .int) v1 (.int .i64 1) v5)) fun _ h => optPK (mkmapV h) fun v8 h => optPK (unit (mupdA h (.leaf .str) v8 (.str [61, 61]) (.int .i64 10))) fun _ h => optPK (unit (mupdA h (.leaf .str) v8 (.str [33, 61]) (.int .i64 11))) fun _ h => optPK (unit (mupdA h (.leaf .str) v8 (.str [60]) (.int .i64 12))) fun _ h => optPK (unit (mupdA h (.leaf .str) v8 (.str [60, 61]) (.int .i64 13))) fun _ h => optPK (unit (mupdA h (.leaf .str) v8 (.str [62]) (.int .i64 14))) fun _ h => optPK (unit (mupdA h (.leaf .str) v8 (.str [62, 61]) (.int .i64 15))) fun _ h => optPK (unit (mupdA h (.leaf .int) v1 (.int .i64 2) v8)) fun _ h => optPK (mkmapV h) fun v16 h => optPK (unit (mupdA h (.leaf .str) v16 (.str [43]) (.int .i64 16))) fun _ h => optPK (unit (mupdA h (.leaf .str) v16 (.str [45]) (.int .i64 17))) fun _ h => optPK (unit (mupdA h (.leaf .int) v1 (.int .i64 3) v16)) fun _ h => optPK (mkmapV h) fun v20 h => optPK (unit (mupdA h (.leaf .str) v20 (.str [42]) (.int .i64 18))) fun _ h => optPK (unit (mupdA h (.leaf .str) v20 (.str [47]) (.int .i64 19))) fun _ h => optPK (unit (mupdA h (.leaf .str) v20 (.str [37]) (.int .i64 20))) fun _ h => optPK (unit (mupdA h (.leaf .int) v1 (.int .i64 4) v20)) fun _ h => K v1 h

/-! ### 49 (*proctor/parse.parser).need -/
noncomputable def p49_4001 (call : CallFn) (n : Nat) (x7 : AV) (h : AHeap) (K : Kont) : Bool :=
  call (.func 88) [x7] h <| pz K fun v3 h => K (.tup []) h
noncomputable def s49 (call : CallFn) (n : Nat) (x0 x1 : AV) (h : AHeap) (K : Kont) : Bool :=
  notK x1 fun v1 => condK v1 (call (.func 89) [x0] h <| pz K fun v2 h => p49_4001 call n v2 h K) (K (.tup []) h)

/-! ### 50 (*proctor/parse.parser).is -/
noncomputable def p50_6001 (call : CallFn) (n : Nat) (x15 x19 x23 x25 : AV) (h : AHeap) (K : Kont) : Bool :=
  gK x19 false (pickK x23 x25 (.bool false)) fun v17 => gK x15 true (pickK x19 (.bool true) v17) fun v18 => pickK x15 v18 (.bool false) fun v19 => K v19 h
noncomputable def p50_4001 (call : CallFn) (n : Nat) (x2 x10 : AV) (h : AHeap) (K : Kont) : Bool :=
  allocK h [.int .i64 0, .str [], .int .i64 0, .int .i64 0] 4 fun v2 h => storeNK h 4 v2 x10 fun h => fadrK 1 v2 fun v4 => loadK h v4 fun v5 => eqlK v5 x2 fun v6 => gK v6 true (fadrK 0 v2) fun v7 => gK v6 true (loadK h v7) fun v8 => gK v6 true (eqlK v8 (.int .i64 4)) fun v9 => gK v6 true (optK (some v9)) fun v10 => gK v10 false (fadrK 0 v2) fun v11 => gK v10 false (loadK h v11) fun v12 => gK v10 false (eqlK v12 (.int .i64 0)) fun v13 => gK v10 false (optK (some v13)) fun v14 => gK v14 true (optK (some x2)) fun v15 => gP v14 true (fun k => call (.func 91) [v15] h (pz K k)) h fun v16 h => p50_6001 call n v6 v10 v14 v16 h K
noncomputable def s50 (call : CallFn) (n : Nat) (x0 x1 x2 : AV) (h : AHeap) (K : Kont) : Bool :=
  call (.func 90) [x0, x1] h <| pz K fun v1 h => p50_4001 call n x2 v1 h K

/-! ### 51 (*proctor/parse.parser).name -/
noncomputable def p51_4002 (call : CallFn) (n : Nat) (x0 x3 x6 x8 : AV) (h : AHeap) (K : Kont) : Bool :=
  gK x6 true (fldK 1 x8) fun v4 => gK x6 true (lenSK v4) fun v5 => gK x6 true (leqK v5 (.int .i64 64)) fun v6 => pickK x6 v6 (.bool false) fun v7 => call (.func 49) [x3, v7] h <| pz K fun v8 h => call (.func 92) [x0] h <| pz K fun v9 h => K v9 h
noncomputable def p51_4001 (call : CallFn) (n : Nat) (x0 x3 x5 : AV) (h : AHeap) (K : Kont) : Bool :=
  gK x5 true (optK (some x0)) fun v2 => gP x5 true (fun k => call (.func 90) [v2, (.int .i64 0)] h (pz K k)) h fun v3 h => p51_4002 call n x0 x3 x5 v3 h K
noncomputable def s51 (call : CallFn) (n : Nat) (x0 : AV) (h : AHeap) (K : Kont) : Bool :=
  call (.func 53) [x0, (.int .i64 0)] h <| pz K fun v1 h => p51_4001 call n x0 x0 v1 h K

/-! ### 52 (*proctor/parse.parser).opens -/
noncomputable def s52 (call : CallFn) (n : Nat) (x0 x1 : AV) (h : AHeap) (K : Kont) : Bool :=
  call (.func 89) [x0] h <| pz K fun v1 h => optPK (bsliceV h 1 1 [.str []] [(0, x1)]) fun v2 h => call (.func 31) [x0, v2] h <| pz K fun v3 h => call (.func 93) [x0, v1] h <| pz K fun v4 h => K (.tup []) h

/-! ### 53 (*proctor/parse.parser).named -/
noncomputable def p53_6001 (call : CallFn) (n : Nat) (x12 x15 : AV) (h : AHeap) (K : Kont) : Bool :=
  gK x12 true (notK x15) fun v10 => pickK x12 v10 (.bool false) fun v11 => K v11 h
noncomputable def p53_4001 (call : CallFn) (n : Nat) (x8 : AV) (h : AHeap) (K : Kont) : Bool :=
  allocK h [.int .i64 0, .str [], .int .i64 0, .int .i64 0] 4 fun v2 h => storeNK h 4 v2 x8 fun h => fadrK 0 v2 fun v4 => loadK h v4 fun v5 => eqlK v5 (.int .i64 0) fun v6 => gK v6 true (fadrK 1 v2) fun v7 => gK v6 true (loadK h v7) fun v8 => gP v6 true (fun k => call (.func 91) [v8] h (pz K k)) h fun v9 h => p53_6001 call n v6 v9 h K
noncomputable def s53 (call : CallFn) (n : Nat) (x0 x1 : AV) (h : AHeap) (K : Kont) : Bool :=
  call (.func 90) [x0, x1] h <| pz K fun v1 h => p53_4001 call n v1 h K

/-! ### 55 (*proctor/parse.parser).closes -/
noncomputable def s55 (call : CallFn) (n : Nat) (x0 x1 : AV) (h : AHeap) (K : Kont) : Bool :=
  optPK (bsliceV h 1 1 [.str []] [(0, x1)]) fun v1 h => call (.func 31) [x0, v1] h <| pz K fun v2 h => nilckK x0 fun v3 => fadrK 3 v3 fun v4 => loadK h v4 fun v5 => subK v5 (.int .i64 1) fun v6 => nilckK x0 fun v7 => fadrK 3 v7 fun v8 => storeK h v8 v6 fun h => K (.tup []) h

/-! ### 56 (*proctor/parse.parser).quoted -/
noncomputable def p56_4001 (call : CallFn) (n : Nat) (x0 x3 x5 : AV) (h : AHeap) (K : Kont) : Bool :=
  call (.func 49) [x3, x5] h <| pz K fun v2 h => call (.func 92) [x0] h <| pz K fun v3 h => K v3 h
noncomputable def s56 (call : CallFn) (n : Nat) (x0 : AV) (h : AHeap) (K : Kont) : Bool :=
  call (.func 94) [x0, (.int .i64 3)] h <| pz K fun v1 h => p56_4001 call n x0 x0 v1 h K

/-! ### 58 (*proctor/parse.parser).conds -/
noncomputable def p58_31001 (call : CallFn) (n : Nat) (B5 : F3) (x0 x1 x19 x21 : AV) (h : AHeap) (K : Kont) : Bool :=
  optPK (bsliceV h 1 19 [.int .i64 0, .str [], .str [], .nilSlc, .nilSlc, .nilSlc, .nilSlc, .nilSlc, .int .i64 0, .str [], .int .i64 0, .bool false, .int .i64 0, .str [], .nilSlc, .nilSlc, .str [], .str [], .nilSlc] [(0, x21)]) fun v8 h => appK h 19 328 x19 v8 fun v9 h => B5 x0 x1 v9 h
noncomputable def p58_30 (call : CallFn) (n : Nat) (B5 : F3) (x0 x1 x5 : AV) (h : AHeap) (K : Kont) : Bool :=
  call (.func 96) [x0] h <| pz K fun v7 h => p58_31001 call n B5 x0 x1 x5 v7 h K
noncomputable def b58_11 (call : CallFn) (n : Nat) (B5 : F3) (B11 : F6) (x0 x1 x5 x8 x9 x10 : AV) (h : AHeap) (K : Kont) : Bool :=
  lssK x10 x9 fun v2 => condK v2 (iadrK h 1 x8 x10 fun v3 => loadK h v3 fun v4 => call (.func 50) [x0, (.int .i64 0), v4] h <| pz K fun v5 h => condK v5 (K x5 h) (addK x10 (.int .i64 1) fun v6 => B11 x0 x1 x5 x8 x9 v6 h)) (p58_30 call n B5 x0 x1 x5 h K)
noncomputable def l58_11 (call : CallFn) (n : Nat) (B5 : F3) : Nat → AV → AV → AV → AV → AV → AV → AHeap → Kont → Bool :=
  @Nat.rec (fun _ => AV → AV → AV → AV → AV → AV → AHeap → Kont → Bool) (fun _ _ _ _ _ _ _ _ => false) (fun _ ih x0 x1 x5 x8 x9 x10 h K => b58_11 call n B5 (fun x0 x1 x5 x8 x9 x10 h => ih x0 x1 x5 x8 x9 x10 h K) x0 x1 x5 x8 x9 x10 h K)
noncomputable def b58_5 (call : CallFn) (n : Nat) (B5 : F3) (x0 x1 x5 : AV) (h : AHeap) (K : Kont) : Bool :=
  lenK x1 fun v1 => l58_11 call n B5 n x0 x1 x5 x1 v1 (.int .i64 0) h K
noncomputable def l58_5 (call : CallFn) (n : Nat) : Nat → AV → AV → AV → AHeap → Kont → Bool :=
  @Nat.rec (fun _ => AV → AV → AV → AHeap → Kont → Bool) (fun _ _ _ _ _ => false) (fun _ ih x0 x1 x5 h K => b58_5 call n (fun x0 x1 x5 h => ih x0 x1 x5 h K) x0 x1 x5 h K)
noncomputable def s58 (call : CallFn) (n : Nat) (x0 x1 : AV) (h : AHeap) (K : Kont) : Bool :=
  l58_5 call n n x0 x1 .nilSlc h K

/-! ### 60 (*proctor/parse.parser).list -/
noncomputable def p60_15 (call : CallFn) (n : Nat) (x0 x1 : AV) (h : AHeap) (K : Kont) : Bool :=
  call (.func 55) [x0, x1] h <| pz K fun v14 h => K (.tup []) h
noncomputable def p60_8002 (call : CallFn) (n : Nat) (B4 : F4) (x0 x1 x2 x14 x17 x19 : AV) (h : AHeap) (K : Kont) : Bool :=
  gK x14 false (pickK x17 x19 (.bool false)) fun v11 => pickK x14 (.bool true) v11 fun v12 => condK v12 (callV call x2 [] h <| pz K fun v13 h => B4 x0 x1 x2 (.bool false) h) (p60_15 call n x0 x1 h K)
noncomputable def p60_8001 (call : CallFn) (n : Nat) (B4 : F4) (x0 x1 x2 x6 x8 x11 : AV) (h : AHeap) (K : Kont) : Bool :=
  gK x8 true (notK x11) fun v4 => pickK x8 v4 (.bool false) fun v5 => gK v5 false (optK (some x6)) fun v6 => gK v5 false (notK v6) fun v7 => gK v5 false (optK (some v7)) fun v8 => gK v8 true (optK (some x0)) fun v9 => gP v8 true (fun k => call (.func 28) [v9, (.str [44])] h (pz K k)) h fun v10 h => p60_8002 call n B4 x0 x1 x2 v5 v8 v10 h K
noncomputable def b60_4 (call : CallFn) (n : Nat) (B4 : F4) (x0 x1 x2 x6 : AV) (h : AHeap) (K : Kont) : Bool :=
  gK x6 true (optK (some x0)) fun v1 => gK x6 true (optK (some x1)) fun v2 => gP x6 true (fun k => call (.func 50) [v1, (.int .i64 0), v2] h (pz K k)) h fun v3 h => p60_8001 call n B4 x0 x1 x2 x6 x6 v3 h K
noncomputable def l60_4 (call : CallFn) (n : Nat) : Nat → AV → AV → AV → AV → AHeap → Kont → Bool :=
  @Nat.rec (fun _ => AV → AV → AV → AV → AHeap → Kont → Bool) (fun _ _ _ _ _ _ => false) (fun _ ih x0 x1 x2 x6 h K => b60_4 call n (fun x0 x1 x2 x6 h => ih x0 x1 x2 x6 h K) x0 x1 x2 x6 h K)
noncomputable def s60 (call : CallFn) (n : Nat) (x0 x1 x2 : AV) (h : AHeap) (K : Kont) : Bool :=
  l60_4 call n n x0 x1 x2 (.bool true) h K

/-! ### 63 proctor/print.Print -/
noncomputable def p63_24001 (call : CallFn) (n : Nat) (x29 : AV) (h : AHeap) (K : Kont) : Bool :=
  extK 0 x29 fun v19 => extK 1 x29 fun v20 => K (.tup [v19, v20]) h
noncomputable def p63_17001 (call : CallFn) (n : Nat) (x4 x22 x25 : AV) (h : AHeap) (K : Kont) : Bool :=
  gK x22 false (notK x25) fun v16 => pickK x22 (.bool true) v16 fun v17 => condK v17 (K (.tup [(.str []), (.int .i64 1)]) h) (call (.func 104) [x4] h <| pz K fun v18 h => p63_24001 call n v18 h K)
noncomputable def p63_15001 (call : CallFn) (n : Nat) (x1 x4 x17 : AV) (h : AHeap) (K : Kont) : Bool :=
  extK 0 x17 fun v8 => extK 1 x17 fun v9 => allocK h [.nilSlc, .nilSlc, .nilSlc] 3 fun v10 h => storeNK h 3 v10 v8 fun h => notK v9 fun v12 => gK v12 false (loadGK h 3 x1) fun v13 => gK v12 false (loadGK h 3 v10) fun v14 => gP v12 false (fun k => call (.func 103) [v13, v14] h (pz K k)) h fun v15 h => p63_17001 call n x4 v12 v15 h K
noncomputable def p63_4001 (call : CallFn) (n : Nat) (x1 x10 : AV) (h : AHeap) (K : Kont) : Bool :=
  extK 0 x10 fun v4 => extK 1 x10 fun v5 => notK v5 fun v6 => condK v6 (K (.tup [(.str []), (.int .i64 1)]) h) (call (.func 102) [v4] h <| pz K fun v7 h => p63_15001 call n x1 v4 v7 h K)
noncomputable def s63 (call : CallFn) (n : Nat) (x0 : AV) (h : AHeap) (K : Kont) : Bool :=
  optPK (boxA h (none) 3 x0) fun v1 h => optK (some (.fn (.func 100) [] [v1])) fun v2 => call (.func 99) [v2] h <| pz K fun v3 h => p63_4001 call n v1 v3 h K

/-! ### 64 (*proctor/check.checker).names -/
noncomputable def p64_16 (call : CallFn) (n : Nat) (x0 x8 x9 : AV) (h : AHeap) (K : Kont) : Bool :=
  gK x9 true (optK (some x0)) fun v17 => gK x9 true (nilckK v17) fun v18 => gK x9 true (fadrK 0 v18) fun v19 => gK x9 true (fadrK 1 v19) fun v20 => gK x9 true (loadK h v20) fun v21 => gK x9 true (lenK v21) fun v22 => gK x9 true (optK (some x0)) fun v23 => gK x9 true (nilckK v23) fun v24 => gK x9 true (fadrK 0 v24) fun v25 => gK x9 true (fadrK 2 v25) fun v26 => gK x9 true (loadK h v26) fun v27 => gK x9 true (lenK v27) fun v28 => gK x9 true (addK v22 v28) fun v29 => gK x9 true (gtrK v29 (.int .i64 256)) fun v30 => pickK x9 v30 (.bool false) fun v31 => condK v31 (K (.tup [(.str []), (.bool false)]) h) (K (.tup [x8, x9]) h)
noncomputable def p64_15001 (call : CallFn) (n : Nat) (x0 x23 : AV) (h : AHeap) (K : Kont) : Bool :=
  extK 0 x23 fun v15 => extK 1 x23 fun v16 => p64_16 call n x0 v15 v16 h K
noncomputable def p64_10001 (call : CallFn) (n : Nat) (x0 x7 x16 : AV) (h : AHeap) (K : Kont) : Bool :=
  extK 0 x16 fun v12 => extK 1 x16 fun v13 => condK v13 (call (.func 109) [x0, x7, (.fn (.func 112) [] [])] h <| pz K fun v14 h => p64_15001 call n x0 v14 h K) (p64_16 call n x0 v12 v13 h K)
noncomputable def s64 (call : CallFn) (n : Nat) (x0 : AV) (h : AHeap) (K : Kont) : Bool :=
  optPK (mkmapV h) fun v1 h => optPK (mkmapV h) fun v2 h => allocK h [.nilMap] 1 fun v3 h => allocK h [.nilMap] 1 fun v4 h => storeK h v3 v1 fun h => storeK h v4 v2 fun h => allocK h [.nilFn] 1 fun v7 h => storeK h v7 (.fn (.func 105) [] []) fun h => optK (some (.fn (.func 110) [] [v7, v3])) fun v9 => optK (some (.fn (.func 111) [] [v7, v4])) fun v10 => call (.func 109) [x0, v9, v10] h <| pz K fun v11 h => p64_10001 call n x0 (.fn (.func 108) [] []) v11 h K

/-! ### 65 (*proctor/check.checker).conditions -/
noncomputable def p65_4001 (call : CallFn) (n : Nat) (x7 : AV) (h : AHeap) (K : Kont) : Bool :=
  extK 0 x7 fun v6 => extK 1 x7 fun v7 => K (.tup [v6, v7]) h
noncomputable def s65 (call : CallFn) (n : Nat) (x0 : AV) (h : AHeap) (K : Kont) : Bool :=
  boxK h x0 fun v1 h => loadK h v1 fun v2 => optK (some (.fn (.func 114) [] [v1])) fun v3 => optK (some (.fn (.func 118) [] [v1])) fun v4 => call (.func 109) [v2, v3, v4] h <| pz K fun v5 h => p65_4001 call n v5 h K

/-! ### 66 (*proctor/check.checker).actions -/
noncomputable def p66_4001 (call : CallFn) (n : Nat) (x6 : AV) (h : AHeap) (K : Kont) : Bool :=
  extK 0 x6 fun v5 => extK 1 x6 fun v6 => K (.tup [v5, v6]) h
noncomputable def s66 (call : CallFn) (n : Nat) (x0 : AV) (h : AHeap) (K : Kont) : Bool :=
  boxK h x0 fun v1 h => loadK h v1 fun v2 => optK (some (.fn (.func 121) [] [v1])) fun v3 => call (.func 109) [v2, v3, (.fn (.func 124) [] [])] h <| pz K fun v4 h => p66_4001 call n v4 h K

/-! ### 67 (*proctor/check.checker).queries -/
noncomputable def p67_76 (call : CallFn) (n : Nat) (B33 : F5) (B46 : F8) (B60 : F11) (x1 x4 x5 x6 x9 x11 x50 x51 x52 x56 x57 : AV) (h : AHeap) (K : Kont) : Bool :=
  addK x57 (.int .i64 1) fun v74 => B60 x1 x4 x5 x6 x9 x11 x50 x51 x52 x56 v74 h
noncomputable def p67_77 (call : CallFn) (n : Nat) (B33 : F5) (B46 : F8) (x1 x4 x5 x6 x9 x50 x51 x52 : AV) (h : AHeap) (K : Kont) : Bool :=
  addK x52 (.int .i64 1) fun v75 => B46 x1 x4 x5 x6 x9 x50 x51 v75 h
noncomputable def b67_60 (call : CallFn) (n : Nat) (B33 : F5) (B46 : F8) (B60 : F11) (x1 x4 x5 x6 x9 x11 x50 x51 x52 x56 x57 : AV) (h : AHeap) (K : Kont) : Bool :=
  lssK x57 x56 fun v49 => condK v49 (loadK h x6 fun v50 => fadrK 1 x11 fun v51 => loadK h v51 fun v52 => iadrK h 1 v50 v52 fun v53 => loadK h v53 fun v54 => iadrK h 1 v54 x57 fun v55 => loadK h v55 fun v56 => gK v56 true (loadK h x6) fun v57 => gK v56 true (fadrK 0 x11) fun v58 => gK v56 true (loadK h v58) fun v59 => gK v56 true (iadrK h 1 v57 v59) fun v60 => gK v56 true (loadK h v60) fun v61 => gK v56 true (optK (some x57)) fun v62 => gK v56 true (iadrK h 1 v61 v62) fun v63 => gK v56 true (loadK h v63) fun v64 => gK v56 true (notK v64) fun v65 => pickK v56 v65 (.bool false) fun v66 => condK v66 (loadK h x6 fun v67 => fadrK 0 x11 fun v68 => loadK h v68 fun v69 => iadrK h 1 v67 v69 fun v70 => loadK h v70 fun v71 => iadrK h 1 v71 x57 fun v72 => storeK h v72 (.bool true) fun h => p67_76 call n B33 B46 B60 x1 x4 x5 x6 (.bool true) x11 x50 x51 x52 x56 x57 h K) (p67_76 call n B33 B46 B60 x1 x4 x5 x6 x9 x11 x50 x51 x52 x56 x57 h K)) (p67_77 call n B33 B46 x1 x4 x5 x6 x9 x50 x51 x52 h K)
noncomputable def l67_60 (call : CallFn) (n : Nat) (B33 : F5) (B46 : F8) : Nat → AV → AV → AV → AV → AV → AV → AV → AV → AV → AV → AV → AHeap → Kont → Bool :=
  @Nat.rec (fun _ => AV → AV → AV → AV → AV → AV → AV → AV → AV → AV → AV → AHeap → Kont → Bool) (fun _ _ _ _ _ _ _ _ _ _ _ _ _ => false) (fun _ ih x1 x4 x5 x6 x9 x11 x50 x51 x52 x56 x57 h K => b67_60 call n B33 B46 (fun x1 x4 x5 x6 x9 x11 x50 x51 x52 x56 x57 h => ih x1 x4 x5 x6 x9 x11 x50 x51 x52 x56 x57 h K) x1 x4 x5 x6 x9 x11 x50 x51 x52 x56 x57 h K)
noncomputable def p67_53 (call : CallFn) (n : Nat) (B33 : F5) (B46 : F8) (x1 x4 x5 x6 x9 x50 x51 x52 : AV) (h : AHeap) (K : Kont) : Bool :=
  iadrK h 3 x50 x52 fun v45 => loadGK h 3 v45 fun v46 => allocK h [.int .i64 0, .int .i64 0, .bool false] 3 fun v47 h => storeNK h 3 v47 v46 fun h => l67_60 call n B33 B46 n x1 x4 x5 x6 x9 v47 x50 x51 x52 x5 (.int .i64 0) h K
noncomputable def b67_46 (call : CallFn) (n : Nat) (B33 : F5) (B46 : F8) (x1 x4 x5 x6 x9 x50 x51 x52 : AV) (h : AHeap) (K : Kont) : Bool :=
  lssK x52 x51 fun v44 => condK v44 (p67_53 call n B33 B46 x1 x4 x5 x6 x9 x50 x51 x52 h K) (B33 x1 x4 x5 x6 x9 h)
noncomputable def l67_46 (call : CallFn) (n : Nat) (B33 : F5) : Nat → AV → AV → AV → AV → AV → AV → AV → AV → AHeap → Kont → Bool :=
  @Nat.rec (fun _ => AV → AV → AV → AV → AV → AV → AV → AV → AHeap → Kont → Bool) (fun _ _ _ _ _ _ _ _ _ _ => false) (fun _ ih x1 x4 x5 x6 x9 x50 x51 x52 h K => b67_46 call n B33 (fun x1 x4 x5 x6 x9 x50 x51 x52 h => ih x1 x4 x5 x6 x9 x50 x51 x52 h K) x1 x4 x5 x6 x9 x50 x51 x52 h K)
noncomputable def p67_40 (call : CallFn) (n : Nat) (B33 : F5) (x1 x4 x5 x6 : AV) (h : AHeap) (K : Kont) : Bool :=
  loadK h x4 fun v42 => lenK v42 fun v43 => l67_46 call n B33 n x1 x4 x5 x6 (.bool false) v42 v43 (.int .i64 0) h K
noncomputable def p67_82001 (call : CallFn) (n : Nat) (x90 : AV) (h : AHeap) (K : Kont) : Bool :=
  extK 0 x90 fun v81 => extK 1 x90 fun v82 => K (.tup [v81, v82]) h
noncomputable def p67_78 (call : CallFn) (n : Nat) (x1 x4 x6 : AV) (h : AHeap) (K : Kont) : Bool :=
  allocK h [.int .i64 0] 1 fun v76 h => storeK h v76 (.int .i64 (-1)) fun h => loadK h x1 fun v78 => optK (some (.fn (.func 130) [] [v76, x4, x6])) fun v79 => call (.func 109) [v78, (.fn (.func 129) [] []), v79] h <| pz K fun v80 h => p67_82001 call n v80 h K
noncomputable def b67_33 (call : CallFn) (n : Nat) (B33 : F5) (x1 x4 x5 x6 x9 : AV) (h : AHeap) (K : Kont) : Bool :=
  condK x9 (p67_40 call n B33 x1 x4 x5 x6 h K) (p67_78 call n x1 x4 x6 h K)
noncomputable def l67_33 (call : CallFn) (n : Nat) : Nat → AV → AV → AV → AV → AV → AHeap → Kont → Bool :=
  @Nat.rec (fun _ => AV → AV → AV → AV → AV → AHeap → Kont → Bool) (fun _ _ _ _ _ _ _ => false) (fun _ ih x1 x4 x5 x6 x9 h K => b67_33 call n (fun x1 x4 x5 x6 x9 h => ih x1 x4 x5 x6 x9 h K) x1 x4 x5 x6 x9 h K)
noncomputable def p67_29 (call : CallFn) (n : Nat) (x1 x4 x5 x6 : AV) (h : AHeap) (K : Kont) : Bool :=
  l67_33 call n n x1 x4 x5 x6 (.bool true) h K
noncomputable def b67_12 (call : CallFn) (n : Nat) (B12 : F7) (x1 x4 x5 x6 x26 x27 x28 : AV) (h : AHeap) (K : Kont) : Bool :=
  lssK x28 x27 fun v18 => condK v18 (iadrK h 3 x26 x28 fun v19 => loadGK h 3 v19 fun v20 => allocK h [.int .i64 0] 1 fun v21 h => allocK h [.str [], .nilSlc, .nilSlc] 3 fun v22 h => storeK h v21 x28 fun h => storeNK h 3 v22 v20 fun h => loadK h x6 fun v25 => loadK h v21 fun v26 => optPK (mkslA h 1 1 [.bool false] x5 x5) fun v27 h => loadK h x6 <| sameK v25 <| loadK h v21 <| sameK v26 <| iadrK h 1 v25 v26 fun v28 => storeK h v28 v27 fun h => loadK h x6 fun v30 => loadK h v21 fun v31 => iadrK h 1 v30 v31 fun v32 => loadK h v32 fun v33 => loadK h v21 fun v34 => iadrK h 1 v33 v34 fun v35 => storeK h v35 (.bool true) fun h => fadrK 2 v22 fun v37 => loadK h v37 fun v38 => optK (some (.fn (.func 126) [] [x1, x4, v21])) fun v39 => call (.func 125) [v38, (.bool false), v39] h <| pz K fun v40 h => addK x28 (.int .i64 1) fun v41 => B12 x1 x4 x5 x6 x26 x27 v41 h) (p67_29 call n x1 x4 x5 x6 h K)
noncomputable def l67_12 (call : CallFn) (n : Nat) : Nat → AV → AV → AV → AV → AV → AV → AV → AHeap → Kont → Bool :=
  @Nat.rec (fun _ => AV → AV → AV → AV → AV → AV → AV → AHeap → Kont → Bool) (fun _ _ _ _ _ _ _ _ _ => false) (fun _ ih x1 x4 x5 x6 x26 x27 x28 h K => b67_12 call n (fun x1 x4 x5 x6 x26 x27 x28 h => ih x1 x4 x5 x6 x26 x27 x28 h K) x1 x4 x5 x6 x26 x27 x28 h K)
noncomputable def s67 (call : CallFn) (n : Nat) (x0 : AV) (h : AHeap) (K : Kont) : Bool :=
  boxK h x0 fun v1 h => allocK h [.nilSlc] 1 fun v2 h => loadK h v1 fun v3 => nilckK v3 fun v4 => fadrK 0 v4 fun v5 => fadrK 2 v5 fun v6 => loadK h v6 fun v7 => lenK v7 fun v8 => optPK (mkslA h 1 24 [.nilSlc] v8 v8) fun v9 h => allocK h [.nilSlc] 1 fun v10 h => storeK h v10 v9 fun h => loadK h v1 fun v12 => nilckK v12 fun v13 => fadrK 0 v13 fun v14 => fadrK 2 v14 fun v15 => loadK h v15 fun v16 => lenK v16 fun v17 => l67_12 call n n v1 v2 v8 v10 v16 v17 (.int .i64 0) h K

/-! ### 68 (*proctor/check.checker).sizes -/
noncomputable def p68_6001 (call : CallFn) (n : Nat) (x4 x10 : AV) (h : AHeap) (K : Kont) : Bool :=
  extK 0 x10 fun v5 => extK 1 x10 fun v6 => gK v6 true (loadK h x4) fun v7 => gK v6 true (gtrK v7 (.int .i64 512)) fun v8 => pickK v6 v8 (.bool false) fun v9 => condK v9 (K (.tup [(.str []), (.bool false)]) h) (K (.tup [v5, v6]) h)
noncomputable def s68 (call : CallFn) (n : Nat) (x0 : AV) (h : AHeap) (K : Kont) : Bool :=
  allocK h [.int .i64 0] 1 fun v1 h => storeK h v1 (.int .i64 0) fun h => optK (some (.fn (.func 134) [] [v1])) fun v3 => call (.func 109) [x0, v3, (.fn (.func 138) [] [])] h <| pz K fun v4 h => p68_6001 call n v1 v4 h K

/-! ### 70 proctor/desugar.need -/
noncomputable def s70 (call : CallFn) (n : Nat) (x0 : AV) (h : AHeap) (K : Kont) : Bool :=
  notK x0 fun v1 => condK v1 (buildK [] [] fun v2 => optK (mkifA 169 v2) fun v3 => pncK K v3 h) (K (.tup []) h)

/-! ### 71 proctor/desugar.shallow -/
noncomputable def p71_12001 (call : CallFn) (n : Nat) (x14 : AV) (h : AHeap) (K : Kont) : Bool :=
  notK x14 fun v9 => K v9 h
noncomputable def s71 (call : CallFn) (n : Nat) (x0 x1 : AV) (h : AHeap) (K : Kont) : Bool :=
  boxK h x1 fun v1 h => lenK x0 fun v2 => gtrK v2 (.int .i64 0) fun v3 => gK v3 true (loadK h v1) fun v4 => gK v3 true (gtrK v4 (.int .i64 30)) fun v5 => pickK v3 v5 (.bool false) fun v6 => condK v6 (K (.bool false) h) (optK (some (.fn (.func 140) [] [v1])) fun v7 => call (.func 139) [x0, v7] h <| pz K fun v8 h => p71_12001 call n v8 h K)

/-! ### 72 proctor/desugar.alternatives -/
noncomputable def p72_27 (call : CallFn) (n : Nat) (x3 : AV) (h : AHeap) (K : Kont) : Bool :=
  allocK h [.nilSlc] 1 fun v25 h => allocK h [.nilFn] 1 fun v26 h => optK (some (.fn (.func 144) [] [x3, v26])) fun v27 => storeK h v26 v27 fun h => loadK h v26 fun v29 => optK (some (.fn (.func 146) [] [v25])) fun v30 => callV call v29 [(.int .i64 0), .nilSlc, v30] h <| pz K fun v31 h => loadK h v25 fun v32 => K v32 h
noncomputable def b72_10 (call : CallFn) (n : Nat) (B10 : F5) (x3 x4 x9 x10 x11 : AV) (h : AHeap) (K : Kont) : Bool :=
  lssK x11 x10 fun v3 => condK v3 (iadrK h 19 x9 x11 fun v4 => loadGK h 19 v4 fun v5 => allocK h [.int .i64 0, .str [], .str [], .nilSlc, .nilSlc, .nilSlc, .nilSlc, .nilSlc, .int .i64 0, .str [], .int .i64 0, .bool false, .int .i64 0, .str [], .nilSlc, .nilSlc, .str [], .str [], .nilSlc] 19 fun v6 h => storeNK h 19 v6 v5 fun h => loadK h x3 fun v8 => loadGK h 19 v6 fun v9 => call (.func 143) [v9] h <| pz K fun v10 h => loadK h x3 <| sameK v8 <| optPK (bsliceV h 1 1 [.nilSlc] [(0, v10)]) fun v11 h => loadK h x3 <| sameK v8 <| loadGK h 19 v6 <| sameK v9 <| appK h 1 24 v8 v11 fun v12 h => storeK h x3 v12 fun h => loadK h x3 fun v14 => loadK h x3 fun v15 => lenK v15 fun v16 => subK v16 (.int .i64 1) fun v17 => iadrK h 1 v14 v17 fun v18 => loadK h v18 fun v19 => lenK v19 fun v20 => optK (binA .mul x4 v20) fun v21 => leqK v21 (.int .i64 512) fun v22 => call (.func 70) [v22] h <| pz K fun v23 h => addK x11 (.int .i64 1) fun v24 => B10 x3 v21 x9 x10 v24 h) (p72_27 call n x3 h K)
noncomputable def l72_10 (call : CallFn) (n : Nat) : Nat → AV → AV → AV → AV → AV → AHeap → Kont → Bool :=
  @Nat.rec (fun _ => AV → AV → AV → AV → AV → AHeap → Kont → Bool) (fun _ _ _ _ _ _ _ => false) (fun _ ih x3 x4 x9 x10 x11 h K => b72_10 call n (fun x3 x4 x9 x10 x11 h => ih x3 x4 x9 x10 x11 h K) x3 x4 x9 x10 x11 h K)
noncomputable def s72 (call : CallFn) (n : Nat) (x0 : AV) (h : AHeap) (K : Kont) : Bool :=
  allocK h [.nilSlc] 1 fun v1 h => lenK x0 fun v2 => l72_10 call n n v1 (.int .i64 1) x0 v2 (.int .i64 0) h K

/-! ### 73 proctor/desugar.all -/
noncomputable def p73_20001 (call : CallFn) (n : Nat) (B8 : F4) (x6 x7 x8 x12 x14 : AV) (h : AHeap) (K : Kont) : Bool :=
  optPK (bsliceV h 1 19 [.int .i64 0, .str [], .str [], .nilSlc, .nilSlc, .nilSlc, .nilSlc, .nilSlc, .int .i64 0, .str [], .int .i64 0, .bool false, .int .i64 0, .str [], .nilSlc, .nilSlc, .str [], .str [], .nilSlc] [(0, x14)]) fun v9 h => appK h 19 328 x12 v9 fun v10 h => addK x8 (.int .i64 1) fun v11 => B8 v10 x6 x7 v11 h
noncomputable def b73_8 (call : CallFn) (n : Nat) (B8 : F4) (x3 x6 x7 x8 : AV) (h : AHeap) (K : Kont) : Bool :=
  lssK x8 x7 fun v2 => condK v2 (iadrK h 19 x6 x8 fun v3 => loadGK h 19 v3 fun v4 => allocK h [.int .i64 0, .str [], .str [], .nilSlc, .nilSlc, .nilSlc, .nilSlc, .nilSlc, .int .i64 0, .str [], .int .i64 0, .bool false, .int .i64 0, .str [], .nilSlc, .nilSlc, .str [], .str [], .nilSlc] 19 fun v5 h => storeNK h 19 v5 v4 fun h => loadGK h 19 v5 fun v7 => call (.func 148) [v7] h <| pz K fun v8 h => p73_20001 call n B8 x6 x7 x8 x3 v8 h K) (K x3 h)
noncomputable def l73_8 (call : CallFn) (n : Nat) : Nat → AV → AV → AV → AV → AHeap → Kont → Bool :=
  @Nat.rec (fun _ => AV → AV → AV → AV → AHeap → Kont → Bool) (fun _ _ _ _ _ _ => false) (fun _ ih x3 x6 x7 x8 h K => b73_8 call n (fun x3 x6 x7 x8 h => ih x3 x6 x7 x8 h K) x3 x6 x7 x8 h K)
noncomputable def s73 (call : CallFn) (n : Nat) (x0 : AV) (h : AHeap) (K : Kont) : Bool :=
  lenK x0 fun v1 => l73_8 call n n .nilSlc x0 v1 (.int .i64 0) h K

/-! ### 75 slices.Clone[[]proctor/api.Field,proctor/api.Field] -/
noncomputable def s75 (call : CallFn) (n : Nat) (x0 : AV) (h : AHeap) (K : Kont) : Bool :=
  optK (eqV h false .slc x0 .nilSlc) fun v1 => condK v1 (K .nilSlc h) (optPK (bsliceV h 0 3 [.str [], .int .i64 0, .str []] []) fun v2 h => appK h 3 40 v2 x0 fun v3 h => K v3 h)

/-! ### 76 (*proctor/network.Net).alpha -/
noncomputable def p76_22 (call : CallFn) (n : Nat) (x0 x8 : AV) (h : AHeap) (K : Kont) : Bool :=
  nilckK x0 fun v44 => fadrK 2 v44 fun v45 => loadK h v45 fun v46 => iadrK h 4 v46 x8 fun v47 => fadrK 3 v47 fun v48 => loadK h v48 fun v49 => addK v49 (.int .i64 1) fun v50 => iadrK h 4 v46 x8 fun v51 => fadrK 3 v51 fun v52 => storeK h v52 v50 fun h => K x8 h
set_option maxRecDepth 100000 in
noncomputable def s76 (call : CallFn) (n : Nat) (x0 x1 : AV) (h : AHeap) (K : Kont) : Bool :=
  optPK (boxA h (none) 19 x1) fun v1 h => optPK (mkmapV h) fun v2 h => buildK [.nilPtr, .nilSlc, .nilMap] [(2, 1, v2)] fun v3 => optPK (boxA h ((some 185)) 3 v3) fun v4 h => loadGK h 19 v1 fun v5 => call (.func 154) [v5] h <| pz K fun v6 h => call (.func 155) [v4, v6] h <| pz K fun v7 h => fadrK 2 v1 fun v8 => loadK h v8 fun v9 => nilckK v4 fun v10 => fadrK 0 v10 fun v11 => allocK h [.str [], .str []] 2 fun v12 h => loadK h v8 <| sameK v9 <| call (.func 79) [v11] h <| pz (goneQ [v12] K) fun v13 h => loadK h v8 <| sameK v9 <| buildK [.str [], .str []] [(0, 1, v9), (1, 1, v13)] fun v14 => storeNK h 2 v12 v14 fun h => nilckK x0 fun v16 => fadrK 3 v16 fun v17 => loadK h v17 fun v18 => loadGK h 2 v12 fun v19 => optK (lookA h (.st [.str, .str]) true (.int .i64 0) v18 v19) fun v20 => extK 0 v20 fun v21 => extK 1 v20 fun v22 => notK v22 fun v23 => condK v23 (nilckK x0 fun v24 => fadrK 2 v24 fun v25 => loadK h v25 fun v26 => lenK v26 fun v27 => nilckK x0 fun v28 => fadrK 3 v28 fun v29 => loadK h v29 fun v30 => loadGK h 2 v12 fun v31 => optPK (unit (mupdA h (.st [.str, .str]) v30 v31 v27)) fun _ h => nilckK x0 fun v33 => fadrK 2 v33 fun v34 => loadK h v34 fun v35 => fadrK 2 v1 fun v36 => loadK h v36 fun v37 => buildK [.int .i64 0, .str [], .nilSlc, .int .i64 0] [(0, 1, v27), (1, 1, v37), (2, 1, v6)] fun v38 => optPK (bsliceV h 1 4 [.int .i64 0, .str [], .nilSlc, .int .i64 0] [(0, v38)]) fun v39 h => loadK h v34 <| sameK v35 <| loadK h v36 <| sameK v37 <| appK h 4 56 v35 v39 fun v40 h => nilckK x0 fun v41 => fadrK 2 v41 fun v42 => storeK h v42 v40 fun h => p76_22 call n x0 v27 h K) (p76_22 call n x0 v21 h K)

/-! ### 77 (*strings.Builder).Reset -/
noncomputable def s77 (call : CallFn) (n : Nat) (x0 : AV) (h : AHeap) (K : Kont) : Bool :=
  nilckK x0 fun v1 => fadrK 0 v1 fun v2 => storeK h v2 .nilPtr fun h => nilckK x0 fun v4 => fadrK 1 v4 fun v5 => storeK h v5 .nilSlc fun h => K (.tup []) h

/-! ### 78 (*proctor/network.speller).cond -/
noncomputable def b78_57 (call : CallFn) (n : Nat) (B57 : F4) (x0 x83 x84 x85 : AV) (h : AHeap) (K : Kont) : Bool :=
  lssK x85 x84 fun v68 => condK v68 (iadrK h 9 x83 x85 fun v69 => loadGK h 9 v69 fun v70 => allocK h [.str [], .int .i64 0, .str [], .int .i64 0, .bool false, .int .i64 0, .str [], .nilSlc, .nilSlc] 9 fun v71 h => storeNK h 9 v71 v70 fun h => fadrK 0 v71 fun v73 => loadK h v73 fun v74 => call (.func 157) [x0, v74] h <| pz K fun v75 h => fadrK 1 v71 fun v76 => loadGK h 8 v76 fun v77 => call (.func 159) [x0, v77] h <| pz K fun v78 h => addK x85 (.int .i64 1) fun v79 => B57 x0 x83 x84 v79 h) (K (.tup []) h)
noncomputable def l78_57 (call : CallFn) (n : Nat) : Nat → AV → AV → AV → AV → AHeap → Kont → Bool :=
  @Nat.rec (fun _ => AV → AV → AV → AV → AHeap → Kont → Bool) (fun _ _ _ _ _ _ => false) (fun _ ih x0 x83 x84 x85 h K => b78_57 call n (fun x0 x83 x84 x85 h => ih x0 x83 x84 x85 h K) x0 x83 x84 x85 h K)
noncomputable def p78_50 (call : CallFn) (n : Nat) (x0 x3 : AV) (h : AHeap) (K : Kont) : Bool :=
  fadrK 8 x3 fun v57 => loadGK h 8 v57 fun v58 => call (.func 159) [x0, v58] h <| pz K fun v59 h => fadrK 18 x3 fun v60 => loadK h v60 fun v61 => lenK v61 fun v62 => optPK (bsliceV h 1 1 [.int .i64 0] [(0, v62)]) fun v63 h => call (.func 156) [x0, v63] h <| pz K fun v64 h => fadrK 18 x3 fun v65 => loadK h v65 fun v66 => lenK v66 fun v67 => l78_57 call n n x0 v66 v67 (.int .i64 0) h K
noncomputable def b78_37 (call : CallFn) (n : Nat) (B37 : F5) (x0 x3 x62 x63 x64 : AV) (h : AHeap) (K : Kont) : Bool :=
  lssK x64 x63 fun v49 => condK v49 (iadrK h 19 x62 x64 fun v50 => loadGK h 19 v50 fun v51 => allocK h [.int .i64 0, .str [], .str [], .nilSlc, .nilSlc, .nilSlc, .nilSlc, .nilSlc, .int .i64 0, .str [], .int .i64 0, .bool false, .int .i64 0, .str [], .nilSlc, .nilSlc, .str [], .str [], .nilSlc] 19 fun v52 h => storeNK h 19 v52 v51 fun h => loadGK h 19 v52 fun v54 => call (.func 78) [x0, v54] h <| pz K fun v55 h => addK x64 (.int .i64 1) fun v56 => B37 x0 x3 x62 x63 v56 h) (p78_50 call n x0 x3 h K)
noncomputable def l78_37 (call : CallFn) (n : Nat) : Nat → AV → AV → AV → AV → AV → AHeap → Kont → Bool :=
  @Nat.rec (fun _ => AV → AV → AV → AV → AV → AHeap → Kont → Bool) (fun _ _ _ _ _ _ _ => false) (fun _ ih x0 x3 x62 x63 x64 h K => b78_37 call n (fun x0 x3 x62 x63 x64 h => ih x0 x3 x62 x63 x64 h K) x0 x3 x62 x63 x64 h K)
noncomputable def p78_29 (call : CallFn) (n : Nat) (x0 x3 : AV) (h : AHeap) (K : Kont) : Bool :=
  fadrK 4 x3 fun v38 => loadK h v38 fun v39 => call (.func 155) [x0, v39] h <| pz K fun v40 h => fadrK 5 x3 fun v41 => loadK h v41 fun v42 => lenK v42 fun v43 => optPK (bsliceV h 1 1 [.int .i64 0] [(0, v43)]) fun v44 h => call (.func 156) [x0, v44] h <| pz K fun v45 h => fadrK 5 x3 fun v46 => loadK h v46 fun v47 => lenK v47 fun v48 => l78_37 call n n x0 x3 v47 v48 (.int .i64 0) h K
noncomputable def b78_14 (call : CallFn) (n : Nat) (B14 : F5) (x0 x3 x35 x36 x37 : AV) (h : AHeap) (K : Kont) : Bool :=
  lssK x37 x36 fun v25 => condK v25 (iadrK h 2 x35 x37 fun v26 => loadGK h 2 v26 fun v27 => allocK h [.str [], .str []] 2 fun v28 h => storeNK h 2 v28 v27 fun h => fadrK 0 v28 fun v30 => loadK h v30 fun v31 => call (.func 157) [x0, v31] h <| pz K fun v32 h => fadrK 1 v28 fun v33 => loadK h v33 fun v34 => optPK (bsliceV h 1 1 [.str []] [(0, v34)]) fun v35 h => call (.func 158) [x0, v35] h <| pz K fun v36 h => addK x37 (.int .i64 1) fun v37 => B14 x0 x3 x35 x36 v37 h) (p78_29 call n x0 x3 h K)
noncomputable def l78_14 (call : CallFn) (n : Nat) : Nat → AV → AV → AV → AV → AV → AHeap → Kont → Bool :=
  @Nat.rec (fun _ => AV → AV → AV → AV → AV → AHeap → Kont → Bool) (fun _ _ _ _ _ _ _ => false) (fun _ ih x0 x3 x35 x36 x37 h K => b78_14 call n (fun x0 x3 x35 x36 x37 h => ih x0 x3 x35 x36 x37 h K) x0 x3 x35 x36 x37 h K)
noncomputable def s78 (call : CallFn) (n : Nat) (x0 x1 : AV) (h : AHeap) (K : Kont) : Bool :=
  optPK (boxA h (none) 19 x1) fun v1 h => fadrK 0 v1 fun v2 => loadK h v2 fun v3 => optPK (bsliceV h 1 1 [.int .i64 0] [(0, v3)]) fun v4 h => call (.func 156) [x0, v4] h <| pz K fun v5 h => fadrK 1 v1 fun v6 => loadK h v6 fun v7 => call (.func 157) [x0, v7] h <| pz K fun v8 h => fadrK 2 v1 fun v9 => loadK h v9 fun v10 => fadrK 16 v1 fun v11 => loadK h v11 fun v12 => fadrK 17 v1 fun v13 => loadK h v13 fun v14 => optPK (bsliceV h 3 1 [.str []] [(0, v10), (1, v12), (2, v14)]) fun v15 h => call (.func 158) [x0, v15] h <| pz K fun v16 h => fadrK 3 v1 fun v17 => loadK h v17 fun v18 => lenK v18 fun v19 => optPK (bsliceV h 1 1 [.int .i64 0] [(0, v19)]) fun v20 h => call (.func 156) [x0, v20] h <| pz K fun v21 h => fadrK 3 v1 fun v22 => loadK h v22 fun v23 => lenK v23 fun v24 => l78_14 call n n x0 v1 v23 v24 (.int .i64 0) h K

/-! ### 79 (*strings.Builder).String -/
noncomputable def s79 (call : CallFn) (n : Nat) (x0 : AV) (h : AHeap) (K : Kont) : Bool :=
  nilckK x0 fun v1 => fadrK 1 v1 fun v2 => loadK h v2 fun v3 => optK (sdatA v3) fun v4 => nilckK x0 fun v5 => fadrK 1 v5 fun v6 => loadK h v6 fun v7 => lenK v7 fun v8 => optPK (ustrA h 5 v4 v8) fun v9 h => K v9 h

/-! ### 80 slices.IndexFunc[[]*proctor/network.way,*proctor/network.way] -/
noncomputable def b80_6 (call : CallFn) (n : Nat) (B6 : F4) (x0 x1 x7 x8 : AV) (h : AHeap) (K : Kont) : Bool :=
  lssK x8 x7 fun v2 => condK v2 (iadrK h 1 x0 x8 fun v3 => loadK h v3 fun v4 => callV call x1 [v4] h <| pz K fun v5 h => condK v5 (K x8 h) (addK x8 (.int .i64 1) fun v6 => B6 x0 x1 x7 v6 h)) (K (.int .i64 (-1)) h)
noncomputable def l80_6 (call : CallFn) (n : Nat) : Nat → AV → AV → AV → AV → AHeap → Kont → Bool :=
  @Nat.rec (fun _ => AV → AV → AV → AV → AHeap → Kont → Bool) (fun _ _ _ _ _ _ => false) (fun _ ih x0 x1 x7 x8 h K => b80_6 call n (fun x0 x1 x7 x8 h => ih x0 x1 x7 x8 h K) x0 x1 x7 x8 h K)
noncomputable def s80 (call : CallFn) (n : Nat) (x0 x1 : AV) (h : AHeap) (K : Kont) : Bool :=
  lenK x0 fun v1 => l80_6 call n n x0 x1 v1 (.int .i64 0) h K

/-! ### 81 proctor/network.lay$1 -/
noncomputable def s81 (call : CallFn) (n : Nat) (x0 x1 : AV) (h : AHeap) (K : Kont) : Bool :=
  nilckK x0 fun v1 => fadrK 3 v1 fun v2 => loadK h v2 fun v3 => loadK h x1 fun v4 => eqlK v3 v4 fun v5 => K v5 h

/-! ### 82 (*proctor/network.Net).cut$1 -/
noncomputable def p82_38 (call : CallFn) (n : Nat) (x5 : AV) (h : AHeap) (K : Kont) : Bool :=
  nilckK x5 fun v79 => fadrK 3 v79 fun v80 => loadK h v80 fun v81 => K v81 h
noncomputable def b82_25 (call : CallFn) (n : Nat) (B25 : F5) (x2 x5 x78 x79 x80 : AV) (h : AHeap) (K : Kont) : Bool :=
  lssK x80 x79 fun v65 => condK v65 (iadrK h 1 x78 x80 fun v66 => loadK h v66 fun v67 => nilckK x5 fun v68 => fadrK 4 v68 fun v69 => loadK h v69 fun v70 => loadK h x2 fun v71 => callV call v71 [v67] h <| pz K fun v72 h => loadK h v69 <| sameK v70 <| optPK (bsliceV h 1 1 [.int .i64 0] [(0, v72)]) fun v73 h => loadK h v69 <| sameK v70 <| loadK h x2 <| sameK v71 <| appK h 1 8 v70 v73 fun v74 h => nilckK x5 fun v75 => fadrK 4 v75 fun v76 => storeK h v76 v74 fun h => addK x80 (.int .i64 1) fun v78 => B25 x2 x5 x78 x79 v78 h) (p82_38 call n x5 h K)
noncomputable def l82_25 (call : CallFn) (n : Nat) : Nat → AV → AV → AV → AV → AV → AHeap → Kont → Bool :=
  @Nat.rec (fun _ => AV → AV → AV → AV → AV → AHeap → Kont → Bool) (fun _ _ _ _ _ _ _ => false) (fun _ ih x2 x5 x78 x79 x80 h K => b82_25 call n (fun x2 x5 x78 x79 x80 h => ih x2 x5 x78 x79 x80 h K) x2 x5 x78 x79 x80 h K)
noncomputable def p82_19 (call : CallFn) (n : Nat) (x0 x2 x5 : AV) (h : AHeap) (K : Kont) : Bool :=
  nilckK x0 fun v53 => fadrK 0 v53 fun v54 => fadrK 2 v54 fun v55 => loadK h v55 fun v56 => nilckK x5 fun v57 => fadrK 0 v57 fun v58 => fadrK 2 v58 fun v59 => storeK h v59 v56 fun h => nilckK x0 fun v61 => fadrK 4 v61 fun v62 => loadK h v62 fun v63 => lenK v63 fun v64 => l82_25 call n n x2 x5 v63 v64 (.int .i64 0) h K
noncomputable def b82_8 (call : CallFn) (n : Nat) (B8 : F3) (x0 x2 x5 : AV) (h : AHeap) (K : Kont) : Bool :=
  nilckK x0 fun v21 => fadrK 4 v21 fun v22 => loadK h v22 fun v23 => lenK v23 fun v24 => eqlK v24 (.int .i64 1) fun v25 => gK v25 true (optK (some x0)) fun v26 => gK v25 true (nilckK v26) fun v27 => gK v25 true (fadrK 0 v27) fun v28 => gK v25 true (fadrK 2 v28) fun v29 => gK v25 true (loadK h v29) fun v30 => gK v25 true (lenK v30) fun v31 => gK v25 true (eqlK v31 (.int .i64 0)) fun v32 => pickK v25 v32 (.bool false) fun v33 => condK v33 (nilckK x0 fun v34 => fadrK 4 v34 fun v35 => loadK h v35 fun v36 => iadrK h 1 v36 (.int .i64 0) fun v37 => loadK h v37 fun v38 => nilckK x5 fun v39 => fadrK 0 v39 fun v40 => fadrK 0 v40 fun v41 => loadK h v41 fun v42 => nilckK v38 fun v43 => fadrK 0 v43 fun v44 => fadrK 0 v44 fun v45 => loadK h v45 fun v46 => call (.func 83) [v42] h <| pz K fun v47 h => loadK h v45 <| sameK v46 <| appK h 19 328 v47 v46 fun v48 h => nilckK x5 fun v49 => fadrK 0 v49 fun v50 => fadrK 0 v50 fun v51 => storeK h v51 v48 fun h => B8 v38 x2 x5 h) (p82_19 call n x0 x2 x5 h K)
noncomputable def l82_8 (call : CallFn) (n : Nat) : Nat → AV → AV → AV → AHeap → Kont → Bool :=
  @Nat.rec (fun _ => AV → AV → AV → AHeap → Kont → Bool) (fun _ _ _ _ _ => false) (fun _ ih x0 x2 x5 h K => b82_8 call n (fun x0 x2 x5 h => ih x0 x2 x5 h K) x0 x2 x5 h K)
noncomputable def s82 (call : CallFn) (n : Nat) (x0 x1 x2 : AV) (h : AHeap) (K : Kont) : Bool :=
  nilckK x0 fun v1 => fadrK 0 v1 fun v2 => loadGK h 3 v2 fun v3 => loadK h x1 fun v4 => nilckK v4 fun v5 => fadrK 5 v5 fun v6 => loadK h v6 fun v7 => lenK v7 fun v8 => buildK [.nilSlc, .nilSlc, .nilSlc, .int .i64 0, .nilSlc] [(0, 3, v3), (3, 1, v8)] fun v9 => optPK (boxA h (none) 5 v9) fun v10 h => loadGK h 3 v2 <| sameK v3 <| loadK h x1 <| sameK v4 <| loadK h v6 <| sameK v7 <| lenK v7 <| sameK v8 <| loadK h x1 fun v11 => loadK h x1 fun v12 => nilckK v12 fun v13 => fadrK 5 v13 fun v14 => loadK h v14 fun v15 => optPK (bsliceV h 1 1 [.nilPtr] [(0, v10)]) fun v16 h => loadK h x1 <| sameK v11 <| loadK h x1 <| sameK v12 <| loadK h v14 <| sameK v15 <| appK h 1 8 v15 v16 fun v17 h => loadK h x1 <| sameK v11 <| nilckK v11 fun v18 => fadrK 5 v18 fun v19 => storeK h v19 v17 fun h => l82_8 call n n x0 x2 v10 h K

/-! ### 83 slices.Clone[[]proctor/api.Cond,proctor/api.Cond] -/
noncomputable def s83 (call : CallFn) (n : Nat) (x0 : AV) (h : AHeap) (K : Kont) : Bool :=
  optK (eqV h false .slc x0 .nilSlc) fun v1 => condK v1 (K .nilSlc h) (optPK (bsliceV h 0 19 [.int .i64 0, .str [], .str [], .nilSlc, .nilSlc, .nilSlc, .nilSlc, .nilSlc, .int .i64 0, .str [], .int .i64 0, .bool false, .int .i64 0, .str [], .nilSlc, .nilSlc, .str [], .str [], .nilSlc] []) fun v2 h => appK h 19 328 v2 x0 fun v3 h => K v3 h)

/-! ### 84 proctor/desugar.All -/
noncomputable def s84 (call : CallFn) (n : Nat) (x0 : AV) (h : AHeap) (K : Kont) : Bool :=
  call (.func 73) [x0] h <| pz K fun v1 h => K v1 h

/-! ### 85 slices.Index[[]int,int] -/
noncomputable def b85_6 (call : CallFn) (n : Nat) (B6 : F4) (x0 x1 x7 x8 : AV) (h : AHeap) (K : Kont) : Bool :=
  lssK x8 x7 fun v2 => condK v2 (iadrK h 1 x0 x8 fun v3 => loadK h v3 fun v4 => eqlK x1 v4 fun v5 => condK v5 (K x8 h) (addK x8 (.int .i64 1) fun v6 => B6 x0 x1 x7 v6 h)) (K (.int .i64 (-1)) h)
noncomputable def l85_6 (call : CallFn) (n : Nat) : Nat → AV → AV → AV → AV → AHeap → Kont → Bool :=
  @Nat.rec (fun _ => AV → AV → AV → AV → AHeap → Kont → Bool) (fun _ _ _ _ _ _ => false) (fun _ ih x0 x1 x7 x8 h K => b85_6 call n (fun x0 x1 x7 x8 h => ih x0 x1 x7 x8 h K) x0 x1 x7 x8 h K)
noncomputable def s85 (call : CallFn) (n : Nat) (x0 x1 : AV) (h : AHeap) (K : Kont) : Bool :=
  lenK x0 fun v1 => l85_6 call n n x0 x1 v1 (.int .i64 0) h K

/-! ### 86 slices.IndexFunc[[]int,int] -/
noncomputable def b86_6 (call : CallFn) (n : Nat) (B6 : F4) (x0 x1 x7 x8 : AV) (h : AHeap) (K : Kont) : Bool :=
  lssK x8 x7 fun v2 => condK v2 (iadrK h 1 x0 x8 fun v3 => loadK h v3 fun v4 => callV call x1 [v4] h <| pz K fun v5 h => condK v5 (K x8 h) (addK x8 (.int .i64 1) fun v6 => B6 x0 x1 x7 v6 h)) (K (.int .i64 (-1)) h)
noncomputable def l86_6 (call : CallFn) (n : Nat) : Nat → AV → AV → AV → AV → AHeap → Kont → Bool :=
  @Nat.rec (fun _ => AV → AV → AV → AV → AHeap → Kont → Bool) (fun _ _ _ _ _ _ => false) (fun _ ih x0 x1 x7 x8 h K => b86_6 call n (fun x0 x1 x7 x8 h => ih x0 x1 x7 x8 h K) x0 x1 x7 x8 h K)
noncomputable def s86 (call : CallFn) (n : Nat) (x0 x1 : AV) (h : AHeap) (K : Kont) : Bool :=
  lenK x0 fun v1 => l86_6 call n n x0 x1 v1 (.int .i64 0) h K

/-! ### 87 (*proctor/lex.lexer).all -/
noncomputable def s87 (call : CallFn) (n : Nat) (x0 : AV) (h : AHeap) (K : Kont) : Bool :=
  boxK h x0 fun v1 h => optK (some (.fn (.func 160) [] [v1])) fun v2 => K v2 h

/-! ### 89 (*proctor/parse.parser).place -/
noncomputable def s89 (call : CallFn) (n : Nat) (x0 : AV) (h : AHeap) (K : Kont) : Bool :=
  nilckK x0 fun v1 => fadrK 1 v1 fun v2 => loadK h v2 fun v3 => nilckK x0 fun v4 => fadrK 0 v4 fun v5 => loadK h v5 fun v6 => lenK v6 fun v7 => lssK v3 v7 fun v8 => condK v8 (nilckK x0 fun v9 => fadrK 0 v9 fun v10 => loadK h v10 fun v11 => nilckK x0 fun v12 => fadrK 1 v12 fun v13 => loadK h v13 fun v14 => iadrK h 4 v11 v14 fun v15 => fadrK 2 v15 fun v16 => loadK h v16 fun v17 => K v17 h) (nilckK x0 fun v18 => fadrK 2 v18 fun v19 => loadK h v19 fun v20 => K v20 h)

/-! ### 90 (*proctor/parse.parser).ahead -/
noncomputable def s90 (call : CallFn) (n : Nat) (x0 x1 : AV) (h : AHeap) (K : Kont) : Bool :=
  allocK h [.int .i64 0, .str [], .int .i64 0, .int .i64 0] 4 fun v1 h => nilckK x0 fun v2 => fadrK 1 v2 fun v3 => loadK h v3 fun v4 => addK v4 x1 fun v5 => nilckK x0 fun v6 => fadrK 0 v6 fun v7 => loadK h v7 fun v8 => lenK v8 fun v9 => lssK v5 v9 fun v10 => condK v10 (nilckK x0 fun v11 => fadrK 0 v11 fun v12 => loadK h v12 fun v13 => nilckK x0 fun v14 => fadrK 1 v14 fun v15 => loadK h v15 fun v16 => addK v16 x1 fun v17 => iadrK h 4 v13 v17 fun v18 => loadGK h 4 v18 fun v19 => storeNK h 4 v1 v19 fun h => optR (resV h [(v1, some (true, 4))]) h K) (buildK [.int .i64 0, .str [], .int .i64 0, .int .i64 0] [(0, 1, (.int .i64 (-1)))] fun v21 => storeNK h 4 v1 v21 fun h => optR (resV h [(v1, some (true, 4))]) h K)

/-! ### 91 proctor/lex.Key -/
noncomputable def p91_156 (call : CallFn) (n : Nat) (x4 : AV) (h : AHeap) (K : Kont) : Bool :=
  condK x4 (K (.bool true) h) (K (.bool false) h)
set_option maxRecDepth 100000 in
noncomputable def s91 (call : CallFn) (n : Nat) (x0 : AV) (h : AHeap) (K : Kont) : Bool :=
  eqlK x0 (.str [99, 108, 97, 115, 115]) fun v1 => condK v1 (p91_156 call n v1 h K) (eqlK x0 (.str [101, 120, 116, 101, 110, 100, 115]) fun v2 => condK v2 (p91_156 call n v2 h K) (eqlK x0 (.str [114, 117, 108, 101]) fun v3 => condK v3 (p91_156 call n v3 h K) (eqlK x0 (.str [113, 117, 101, 114, 121]) fun v4 => condK v4 (p91_156 call n v4 h K) (eqlK x0 (.str [119, 104, 101, 110]) fun v5 => condK v5 (p91_156 call n v5 h K) (eqlK x0 (.str [116, 104, 101, 110]) fun v6 => condK v6 (p91_156 call n v6 h K) (eqlK x0 (.str [101, 110, 100]) fun v7 => condK v7 (p91_156 call n v7 h K) (eqlK x0 (.str [115, 97, 108, 105, 101, 110, 99, 101]) fun v8 => condK v8 (p91_156 call n v8 h K) (eqlK x0 (.str [103, 114, 111, 117, 112]) fun v9 => condK v9 (p91_156 call n v9 h K) (eqlK x0 (.str [102, 108, 111, 119]) fun v10 => condK v10 (p91_156 call n v10 h K) (eqlK x0 (.str [110, 111, 108, 111, 111, 112]) fun v11 => condK v11 (p91_156 call n v11 h K) (eqlK x0 (.str [108, 111, 99, 107]) fun v12 => condK v12 (p91_156 call n v12 h K) (eqlK x0 (.str [110, 111, 116]) fun v13 => condK v13 (p91_156 call n v13 h K) (eqlK x0 (.str [101, 120, 105, 115, 116, 115]) fun v14 => condK v14 (p91_156 call n v14 h K) (eqlK x0 (.str [102, 111, 114, 97, 108, 108]) fun v15 => condK v15 (p91_156 call n v15 h K) (eqlK x0 (.str [111, 114]) fun v16 => condK v16 (p91_156 call n v16 h K) (eqlK x0 (.str [102, 114, 111, 109]) fun v17 => condK v17 (p91_156 call n v17 h K) (eqlK x0 (.str [101, 118, 97, 108]) fun v18 => condK v18 (p91_156 call n v18 h K) (eqlK x0 (.str [97, 99, 99]) fun v19 => condK v19 (p91_156 call n v19 h K) (eqlK x0 (.str [111, 118, 101, 114]) fun v20 => condK v20 (p91_156 call n v20 h K) (eqlK x0 (.str [105, 110, 115, 101, 114, 116]) fun v21 => condK v21 (p91_156 call n v21 h K) (eqlK x0 (.str [108, 111, 103, 105, 99, 97, 108]) fun v22 => condK v22 (p91_156 call n v22 h K) (eqlK x0 (.str [117, 112, 100, 97, 116, 101]) fun v23 => condK v23 (p91_156 call n v23 h K) (eqlK x0 (.str [100, 101, 108, 101, 116, 101]) fun v24 => condK v24 (p91_156 call n v24 h K) (eqlK x0 (.str [102, 111, 99, 117, 115]) fun v25 => condK v25 (p91_156 call n v25 h K) (eqlK x0 (.str [112, 114, 105, 110, 116]) fun v26 => condK v26 (p91_156 call n v26 h K) (eqlK x0 (.str [104, 97, 108, 116]) fun v27 => condK v27 (p91_156 call n v27 h K) (eqlK x0 (.str [116, 114, 117, 101]) fun v28 => condK v28 (p91_156 call n v28 h K) (eqlK x0 (.str [102, 97, 108, 115, 101]) fun v29 => condK v29 (p91_156 call n v29 h K) (eqlK x0 (.str [110, 117, 108, 108]) fun v30 => condK v30 (p91_156 call n v30 h K) (eqlK x0 (.str [115, 105, 122, 101]) fun v31 => condK v31 (p91_156 call n v31 h K) (eqlK x0 (.str [104, 97, 115]) fun v32 => condK v32 (p91_156 call n v32 h K) (eqlK x0 (.str [105, 110, 116]) fun v33 => condK v33 (p91_156 call n v33 h K) (eqlK x0 (.str [98, 111, 111, 108]) fun v34 => condK v34 (p91_156 call n v34 h K) (eqlK x0 (.str [116, 101, 120, 116]) fun v35 => condK v35 (p91_156 call n v35 h K) (eqlK x0 (.str [108, 105, 115, 116]) fun v36 => condK v36 (p91_156 call n v36 h K) (eqlK x0 (.str [97, 110, 121]) fun v37 => condK v37 (p91_156 call n v37 h K) (eqlK x0 (.str [114, 101, 102]) fun v38 => p91_156 call n v38 h K)))))))))))))))))))))))))))))))))))))

/-! ### 92 (*proctor/parse.parser).text -/
noncomputable def s92 (call : CallFn) (n : Nat) (x0 : AV) (h : AHeap) (K : Kont) : Bool :=
  nilckK x0 fun v1 => fadrK 1 v1 fun v2 => loadK h v2 fun v3 => addK v3 (.int .i64 1) fun v4 => nilckK x0 fun v5 => fadrK 1 v5 fun v6 => storeK h v6 v4 fun h => nilckK x0 fun v8 => fadrK 0 v8 fun v9 => loadK h v9 fun v10 => nilckK x0 fun v11 => fadrK 1 v11 fun v12 => loadK h v12 fun v13 => subK v13 (.int .i64 1) fun v14 => iadrK h 4 v10 v14 fun v15 => fadrK 1 v15 fun v16 => loadK h v16 fun v17 => K v17 h

/-! ### 93 (*proctor/parse.parser).enter -/
noncomputable def s93 (call : CallFn) (n : Nat) (x0 x1 : AV) (h : AHeap) (K : Kont) : Bool :=
  nilckK x0 fun v1 => fadrK 3 v1 fun v2 => loadK h v2 fun v3 => addK v3 (.int .i64 1) fun v4 => nilckK x0 fun v5 => fadrK 3 v5 fun v6 => storeK h v6 v4 fun h => nilckK x0 fun v8 => fadrK 3 v8 fun v9 => loadK h v9 fun v10 => gtrK v10 (.int .i64 30) fun v11 => condK v11 (call (.func 88) [x1] h <| pz K fun v12 h => K (.tup []) h) (K (.tup []) h)

/-! ### 94 (*proctor/parse.parser).kind -/
noncomputable def p94_4001 (call : CallFn) (n : Nat) (x1 x6 : AV) (h : AHeap) (K : Kont) : Bool :=
  fldK 0 x6 fun v2 => eqlK v2 x1 fun v3 => K v3 h
noncomputable def s94 (call : CallFn) (n : Nat) (x0 x1 : AV) (h : AHeap) (K : Kont) : Bool :=
  call (.func 90) [x0, (.int .i64 0)] h <| pz K fun v1 h => p94_4001 call n x1 v1 h K

/-! ### 96 (*proctor/parse.parser).cond -/
noncomputable def p96_9001 (call : CallFn) (n : Nat) (x2 x10 : AV) (h : AHeap) (K : Kont) : Bool :=
  buildK [.int .i64 0, .str [], .str [], .nilSlc, .nilSlc, .nilSlc, .nilSlc, .nilSlc, .int .i64 0, .str [], .int .i64 0, .bool false, .int .i64 0, .str [], .nilSlc, .nilSlc, .str [], .str [], .nilSlc] [(0, 1, (.int .i64 2)), (5, 1, x10)] fun v4 => storeNK h 19 x2 v4 fun h => optR (resV h [(x2, some (true, 19))]) h K
noncomputable def p96_15001 (call : CallFn) (n : Nat) (x2 x16 : AV) (h : AHeap) (K : Kont) : Bool :=
  buildK [.int .i64 0, .str [], .str [], .nilSlc, .nilSlc, .nilSlc, .nilSlc, .nilSlc, .int .i64 0, .str [], .int .i64 0, .bool false, .int .i64 0, .str [], .nilSlc, .nilSlc, .str [], .str [], .nilSlc] [(0, 1, (.int .i64 3)), (5, 1, x16)] fun v8 => storeNK h 19 x2 v8 fun h => optR (resV h [(x2, some (true, 19))]) h K
noncomputable def p96_27001 (call : CallFn) (n : Nat) (x0 x2 x3 x32 : AV) (h : AHeap) (K : Kont) : Bool :=
  fadrK 6 x3 fun v21 => storeK h v21 x32 fun h => call (.func 55) [x0, (.str [41])] h <| pz K fun v23 h => loadGK h 19 x3 fun v24 => storeNK h 19 x2 v24 fun h => optR (resV h [(x2, some (true, 19))]) h K
noncomputable def p96_23001 (call : CallFn) (n : Nat) (x0 x2 x25 : AV) (h : AHeap) (K : Kont) : Bool :=
  buildK [.int .i64 0, .str [], .str [], .nilSlc, .nilSlc, .nilSlc, .nilSlc, .nilSlc, .int .i64 0, .str [], .int .i64 0, .bool false, .int .i64 0, .str [], .nilSlc, .nilSlc, .str [], .str [], .nilSlc] [(0, 1, (.int .i64 4)), (5, 1, x25)] fun v14 => allocK h [.int .i64 0, .str [], .str [], .nilSlc, .nilSlc, .nilSlc, .nilSlc, .nilSlc, .int .i64 0, .str [], .int .i64 0, .bool false, .int .i64 0, .str [], .nilSlc, .nilSlc, .str [], .str [], .nilSlc] 19 fun v15 h => storeNK h 19 v15 v14 fun h => optPK (bsliceV h 1 1 [.str []] [(0, (.str [59]))]) fun v17 h => call (.func 31) [x0, v17] h <| pz K fun v18 h => optPK (bsliceV h 1 1 [.str []] [(0, (.str [41]))]) fun v19 h => call (.func 166) [x0, v19] h <| pz K fun v20 h => p96_27001 call n x0 x2 v15 v20 h K
noncomputable def p96_37001 (call : CallFn) (n : Nat) (x2 x41 : AV) (h : AHeap) (K : Kont) : Bool :=
  storeNK h 19 x2 x41 fun h => optR (resV h [(x2, some (true, 19))]) h K
noncomputable def p96_45001 (call : CallFn) (n : Nat) (x0 x2 x48 : AV) (h : AHeap) (K : Kont) : Bool :=
  buildK [.int .i64 0, .str [], .str [], .nilSlc, .nilSlc, .nilSlc, .nilSlc, .nilSlc, .int .i64 0, .str [], .int .i64 0, .bool false, .int .i64 0, .str [], .nilSlc, .nilSlc, .str [], .str [], .nilSlc] [(0, 1, (.int .i64 8)), (8, 8, x48)] fun v32 => allocK h [.int .i64 0, .str [], .str [], .nilSlc, .nilSlc, .nilSlc, .nilSlc, .nilSlc, .int .i64 0, .str [], .int .i64 0, .bool false, .int .i64 0, .str [], .nilSlc, .nilSlc, .str [], .str [], .nilSlc] 19 fun v33 h => storeNK h 19 v33 v32 fun h => call (.func 55) [x0, (.str [41])] h <| pz K fun v35 h => loadGK h 19 v33 fun v36 => storeNK h 19 x2 v36 fun h => optR (resV h [(x2, some (true, 19))]) h K
noncomputable def p96_55001 (call : CallFn) (n : Nat) (x2 x57 : AV) (h : AHeap) (K : Kont) : Bool :=
  storeNK h 19 x2 x57 fun h => optR (resV h [(x2, some (true, 19))]) h K
noncomputable def p96_61001 (call : CallFn) (n : Nat) (x2 x62 : AV) (h : AHeap) (K : Kont) : Bool :=
  storeNK h 19 x2 x62 fun h => optR (resV h [(x2, some (true, 19))]) h K
noncomputable def p96_71001 (call : CallFn) (n : Nat) (x2 x5 x78 : AV) (h : AHeap) (K : Kont) : Bool :=
  fadrK 8 x5 fun v56 => storeNK h 8 v56 x78 fun h => loadGK h 19 x5 fun v58 => storeNK h 19 x2 v58 fun h => optR (resV h [(x2, some (true, 19))]) h K
noncomputable def p96_67001 (call : CallFn) (n : Nat) (x0 x2 x72 : AV) (h : AHeap) (K : Kont) : Bool :=
  buildK [.int .i64 0, .str [], .str [], .nilSlc, .nilSlc, .nilSlc, .nilSlc, .nilSlc, .int .i64 0, .str [], .int .i64 0, .bool false, .int .i64 0, .str [], .nilSlc, .nilSlc, .str [], .str [], .nilSlc] [(0, 1, (.int .i64 6)), (1, 1, x72)] fun v50 => allocK h [.int .i64 0, .str [], .str [], .nilSlc, .nilSlc, .nilSlc, .nilSlc, .nilSlc, .int .i64 0, .str [], .int .i64 0, .bool false, .int .i64 0, .str [], .nilSlc, .nilSlc, .str [], .str [], .nilSlc] 19 fun v51 h => storeNK h 19 v51 v50 fun h => optPK (bsliceV h 1 1 [.str []] [(0, (.str [102, 114, 111, 109]))]) fun v53 h => call (.func 31) [x0, v53] h <| pz K fun v54 h => call (.func 98) [x0] h <| pz K fun v55 h => p96_71001 call n x2 v51 v55 h K
noncomputable def p96_77001 (call : CallFn) (n : Nat) (x2 x82 : AV) (h : AHeap) (K : Kont) : Bool :=
  storeNK h 19 x2 x82 fun h => optR (resV h [(x2, some (true, 19))]) h K
noncomputable def p96_64002 (call : CallFn) (n : Nat) (x0 x2 x66 x68 : AV) (h : AHeap) (K : Kont) : Bool :=
  gK x66 true (notK x68) fun v47 => pickK x66 v47 (.bool false) fun v48 => condK v48 (call (.func 62) [x0] h <| pz K fun v49 h => p96_67001 call n x0 x2 v49 h K) (call (.func 170) [x0] h <| pz K fun v60 h => p96_77001 call n x2 v60 h K)
noncomputable def p96_64001 (call : CallFn) (n : Nat) (x0 x2 x65 : AV) (h : AHeap) (K : Kont) : Bool :=
  gK x65 true (optK (some x0)) fun v45 => gP x65 true (fun k => call (.func 50) [v45, (.int .i64 1), (.str [58])] h (pz K k)) h fun v46 h => p96_64002 call n x0 x2 x65 v46 h K
set_option maxRecDepth 100000 in
noncomputable def s96 (call : CallFn) (n : Nat) (x0 : AV) (h : AHeap) (K : Kont) : Bool :=
  allocK h [.int .i64 0, .str [], .str [], .nilSlc, .nilSlc, .nilSlc, .nilSlc, .nilSlc, .int .i64 0, .str [], .int .i64 0, .bool false, .int .i64 0, .str [], .nilSlc, .nilSlc, .str [], .str [], .nilSlc] 19 fun v1 h => call (.func 28) [x0, (.str [110, 111, 116])] h <| pz K fun v2 h => condK v2 (call (.func 165) [x0] h <| pz K fun v3 h => p96_9001 call n v1 v3 h K) (call (.func 28) [x0, (.str [101, 120, 105, 115, 116, 115])] h <| pz K fun v6 h => condK v6 (call (.func 165) [x0] h <| pz K fun v7 h => p96_15001 call n v1 v7 h K) (call (.func 28) [x0, (.str [102, 111, 114, 97, 108, 108])] h <| pz K fun v10 h => condK v10 (call (.func 52) [x0, (.str [40])] h <| pz K fun v11 h => optPK (bsliceV h 1 1 [.str []] [(0, (.str [59]))]) fun v12 h => call (.func 166) [x0, v12] h <| pz K fun v13 h => p96_23001 call n x0 v1 v13 h K) (call (.func 50) [x0, (.int .i64 0), (.str [40])] h <| pz K fun v26 h => condK v26 (call (.func 167) [x0] h <| pz K fun v27 h => p96_37001 call n v1 v27 h K) (call (.func 28) [x0, (.str [101, 118, 97, 108])] h <| pz K fun v29 h => condK v29 (call (.func 52) [x0, (.str [40])] h <| pz K fun v30 h => call (.func 98) [x0] h <| pz K fun v31 h => p96_45001 call n x0 v1 v31 h K) (call (.func 28) [x0, (.str [97, 99, 99])] h <| pz K fun v38 h => condK v38 (call (.func 168) [x0] h <| pz K fun v39 h => p96_55001 call n v1 v39 h K) (call (.func 28) [x0, (.str [63])] h <| pz K fun v41 h => condK v41 (call (.func 169) [x0] h <| pz K fun v42 h => p96_61001 call n v1 v42 h K) (call (.func 94) [x0, (.int .i64 1)] h <| pz K fun v44 h => p96_64001 call n x0 v1 v44 h K)))))))

/-! ### 100 proctor/print.Print$1 -/
noncomputable def s100 (call : CallFn) (n : Nat) (x0 x1 : AV) (h : AHeap) (K : Kont) : Bool :=
  loadGK h 3 x1 fun v1 => call (.func 101) [x0, v1] h <| pz K fun v2 h => K (.tup []) h

/-! ### 101 (*proctor/print.writer).base -/
noncomputable def b101_39 (call : CallFn) (n : Nat) (B39 : F4) (x0 x33 x34 x35 : AV) (h : AHeap) (K : Kont) : Bool :=
  lssK x35 x34 fun v27 => condK v27 (iadrK h 3 x33 x35 fun v28 => loadGK h 3 v28 fun v29 => allocK h [.str [], .nilSlc, .nilSlc] 3 fun v30 h => storeNK h 3 v30 v29 fun h => loadGK h 3 v30 fun v32 => call (.func 176) [x0, v32] h <| pz K fun v33 h => addK x35 (.int .i64 1) fun v34 => B39 x0 x33 x34 v34 h) (K (.tup []) h)
noncomputable def l101_39 (call : CallFn) (n : Nat) : Nat → AV → AV → AV → AV → AHeap → Kont → Bool :=
  @Nat.rec (fun _ => AV → AV → AV → AV → AHeap → Kont → Bool) (fun _ _ _ _ _ _ => false) (fun _ ih x0 x33 x34 x35 h K => b101_39 call n (fun x0 x33 x34 x35 h => ih x0 x33 x34 x35 h K) x0 x33 x34 x35 h K)
noncomputable def p101_36 (call : CallFn) (n : Nat) (x0 x3 : AV) (h : AHeap) (K : Kont) : Bool :=
  fadrK 2 x3 fun v24 => loadK h v24 fun v25 => lenK v25 fun v26 => l101_39 call n n x0 v25 v26 (.int .i64 0) h K
noncomputable def b101_23 (call : CallFn) (n : Nat) (B23 : F5) (x0 x3 x22 x23 x24 : AV) (h : AHeap) (K : Kont) : Bool :=
  lssK x24 x23 fun v16 => condK v16 (iadrK h 8 x22 x24 fun v17 => loadGK h 8 v17 fun v18 => allocK h [.str [], .int .i64 0, .str [], .str [], .bool false, .bool false, .nilSlc, .nilSlc] 8 fun v19 h => storeNK h 8 v19 v18 fun h => loadGK h 8 v19 fun v21 => call (.func 175) [x0, v21] h <| pz K fun v22 h => addK x24 (.int .i64 1) fun v23 => B23 x0 x3 x22 x23 v23 h) (p101_36 call n x0 x3 h K)
noncomputable def l101_23 (call : CallFn) (n : Nat) : Nat → AV → AV → AV → AV → AV → AHeap → Kont → Bool :=
  @Nat.rec (fun _ => AV → AV → AV → AV → AV → AHeap → Kont → Bool) (fun _ _ _ _ _ _ _ => false) (fun _ ih x0 x3 x22 x23 x24 h K => b101_23 call n (fun x0 x3 x22 x23 x24 h => ih x0 x3 x22 x23 x24 h K) x0 x3 x22 x23 x24 h K)
noncomputable def p101_19 (call : CallFn) (n : Nat) (x0 x3 : AV) (h : AHeap) (K : Kont) : Bool :=
  fadrK 1 x3 fun v13 => loadK h v13 fun v14 => lenK v14 fun v15 => l101_23 call n n x0 x3 v14 v15 (.int .i64 0) h K
noncomputable def b101_6 (call : CallFn) (n : Nat) (B6 : F5) (x0 x3 x11 x12 x13 : AV) (h : AHeap) (K : Kont) : Bool :=
  lssK x13 x12 fun v5 => condK v5 (iadrK h 3 x11 x13 fun v6 => loadGK h 3 v6 fun v7 => allocK h [.str [], .str [], .nilSlc] 3 fun v8 h => storeNK h 3 v8 v7 fun h => loadGK h 3 v8 fun v10 => call (.func 174) [x0, v10] h <| pz K fun v11 h => addK x13 (.int .i64 1) fun v12 => B6 x0 x3 x11 x12 v12 h) (p101_19 call n x0 x3 h K)
noncomputable def l101_6 (call : CallFn) (n : Nat) : Nat → AV → AV → AV → AV → AV → AHeap → Kont → Bool :=
  @Nat.rec (fun _ => AV → AV → AV → AV → AV → AHeap → Kont → Bool) (fun _ _ _ _ _ _ _ => false) (fun _ ih x0 x3 x11 x12 x13 h K => b101_6 call n (fun x0 x3 x11 x12 x13 h => ih x0 x3 x11 x12 x13 h K) x0 x3 x11 x12 x13 h K)
noncomputable def s101 (call : CallFn) (n : Nat) (x0 x1 : AV) (h : AHeap) (K : Kont) : Bool :=
  optPK (boxA h (none) 3 x1) fun v1 h => fadrK 0 v1 fun v2 => loadK h v2 fun v3 => lenK v3 fun v4 => l101_6 call n n x0 v1 v3 v4 (.int .i64 0) h K

/-! ### 102 proctor/parse.Long -/
noncomputable def p102_16001 (call : CallFn) (n : Nat) (x2 x7 x22 : AV) (h : AHeap) (K : Kont) : Bool :=
  extK 0 x22 fun v13 => extK 1 x22 fun v14 => loadGK h 3 x7 fun v15 => eqlK v14 (.int .i64 0) fun v16 => storeNK h 3 x2 v15 fun h => optR (resV h [(x2, some (true, 3)), (v16, none)]) h K
noncomputable def p102_4001 (call : CallFn) (n : Nat) (x0 x2 x10 : AV) (h : AHeap) (K : Kont) : Bool :=
  extK 0 x10 fun v3 => extK 1 x10 fun v4 => extK 2 x10 fun v5 => neqK v5 (.int .i64 0) fun v6 => condK v6 (buildK [.nilSlc, .nilSlc, .nilSlc] [] fun v7 => storeNK h 3 x2 v7 fun h => optR (resV h [(x2, some (true, 3)), ((.bool false), none)]) h K) (allocK h [.nilSlc, .nilSlc, .nilSlc] 3 fun v9 h => lenSK x0 fun v10 => optK (some (.fn (.func 177) [] [v9])) fun v11 => call (.func 27) [v3, v10, v11] h <| pz K fun v12 h => p102_16001 call n x2 v9 v12 h K)
noncomputable def s102 (call : CallFn) (n : Nat) (x0 : AV) (h : AHeap) (K : Kont) : Bool :=
  allocK h [.nilSlc, .nilSlc, .nilSlc] 3 fun v1 h => call (.func 46) [x0] h <| pz K fun v2 h => p102_4001 call n x0 v1 v2 h K

/-! ### 103 proctor/print.sameBase -/
noncomputable def p103_4003 (call : CallFn) (n : Nat) (x17 x22 : AV) (h : AHeap) (K : Kont) : Bool :=
  pickK x17 x22 (.bool false) fun v19 => K v19 h
noncomputable def p103_4002 (call : CallFn) (n : Nat) (x2 x3 x10 x15 : AV) (h : AHeap) (K : Kont) : Bool :=
  pickK x10 x15 (.bool false) fun v13 => gK v13 true (fadrK 2 x2) fun v14 => gK v13 true (loadK h v14) fun v15 => gK v13 true (fadrK 2 x3) fun v16 => gK v13 true (loadK h v16) fun v17 => gP v13 true (fun k => call (.func 182) [v15, v17, (.fn (.func 183) [] [])] h (pz K k)) h fun v18 h => p103_4003 call n v13 v18 h K
noncomputable def p103_4001 (call : CallFn) (n : Nat) (x2 x3 x9 : AV) (h : AHeap) (K : Kont) : Bool :=
  gK x9 true (fadrK 1 x2) fun v8 => gK x9 true (loadK h v8) fun v9 => gK x9 true (fadrK 1 x3) fun v10 => gK x9 true (loadK h v10) fun v11 => gP x9 true (fun k => call (.func 180) [v9, v11, (.fn (.func 181) [] [])] h (pz K k)) h fun v12 h => p103_4002 call n x2 x3 x9 v12 h K
noncomputable def s103 (call : CallFn) (n : Nat) (x0 x1 : AV) (h : AHeap) (K : Kont) : Bool :=
  optPK (boxA h (none) 3 x0) fun v1 h => optPK (boxA h (none) 3 x1) fun v2 h => fadrK 0 v1 fun v3 => loadK h v3 fun v4 => fadrK 0 v2 fun v5 => loadK h v5 fun v6 => call (.func 178) [v4, v6, (.fn (.func 179) [] [])] h <| pz K fun v7 h => p103_4001 call n v1 v2 v7 h K

/-! ### 104 proctor/print.told -/
noncomputable def s104 (call : CallFn) (n : Nat) (x0 : AV) (h : AHeap) (K : Kont) : Bool :=
  lenSK x0 fun v1 => gtrK v1 (.int .i64 65536) fun v2 => condK v2 (K (.tup [(.str []), (.int .i64 21)]) h) (K (.tup [x0, (.int .i64 0)]) h)

/-! ### 105 (*proctor/check.checker).names$1 -/
noncomputable def p105_4001 (call : CallFn) (n : Nat) (x0 x1 x8 : AV) (h : AHeap) (K : Kont) : Bool :=
  notK x8 fun v2 => call (.func 107) [x0, x1] h <| pz K fun v3 h => K v2 h
noncomputable def s105 (call : CallFn) (n : Nat) (x0 x1 : AV) (h : AHeap) (K : Kont) : Bool :=
  call (.func 106) [x0, x1] h <| pz K fun v1 h => p105_4001 call n x0 x1 v1 h K

/-! ### 106 (proctor/check.scope).has -/
noncomputable def s106 (call : CallFn) (n : Nat) (x0 x1 : AV) (h : AHeap) (K : Kont) : Bool :=
  optK (lookA h (.leaf .str) false (.int .i64 0) x0 x1) fun v1 => eqlK v1 (.int .i64 1) fun v2 => K v2 h

/-! ### 107 (proctor/check.scope).put -/
noncomputable def s107 (call : CallFn) (n : Nat) (x0 x1 : AV) (h : AHeap) (K : Kont) : Bool :=
  optK (lookA h (.leaf .str) false (.int .i64 0) x0 x1) fun v1 => neqK v1 (.int .i64 2) fun v2 => call (.func 184) [v2] h <| pz K fun v3 h => optPK (unit (mupdA h (.leaf .str) x0 x1 (.int .i64 1))) fun _ h => K (.tup []) h

/-! ### 108 (*proctor/check.checker).names$2 -/
noncomputable def s108 (call : CallFn) (n : Nat) (x0 : AV) (h : AHeap) (K : Kont) : Bool :=
  optPK (boxA h (none) 8 x0) fun v1 h => K (.bool true) h

/-! ### 109 (*proctor/check.checker).each -/
noncomputable def p109_19001 (call : CallFn) (n : Nat) (B6 : F6) (x0 x1 x2 x9 x16 x17 x18 x24 : AV) (h : AHeap) (K : Kont) : Bool :=
  notK x24 fun v13 => condK v13 (fadrK 0 x9 fun v14 => loadK h v14 fun v15 => K (.tup [v15, (.bool false)]) h) (addK x18 (.int .i64 1) fun v16 => B6 x0 x1 x2 x16 x17 v16 h)
noncomputable def p109_42001 (call : CallFn) (n : Nat) (B29 : F4) (x2 x11 x33 x34 x35 x41 : AV) (h : AHeap) (K : Kont) : Bool :=
  notK x41 fun v29 => condK v29 (fadrK 0 x11 fun v30 => loadK h v30 fun v31 => K (.tup [v31, (.bool false)]) h) (addK x35 (.int .i64 1) fun v32 => B29 x2 x33 x34 v32 h)
noncomputable def b109_29 (call : CallFn) (n : Nat) (B29 : F4) (x2 x33 x34 x35 : AV) (h : AHeap) (K : Kont) : Bool :=
  lssK x35 x34 fun v22 => condK v22 (iadrK h 3 x33 x35 fun v23 => loadGK h 3 v23 fun v24 => allocK h [.str [], .nilSlc, .nilSlc] 3 fun v25 h => storeNK h 3 v25 v24 fun h => loadGK h 3 v25 fun v27 => callV call x2 [v27] h <| pz K fun v28 h => p109_42001 call n B29 x2 v25 x33 x34 x35 v28 h K) (K (.tup [(.str []), (.bool true)]) h)
noncomputable def l109_29 (call : CallFn) (n : Nat) : Nat → AV → AV → AV → AV → AHeap → Kont → Bool :=
  @Nat.rec (fun _ => AV → AV → AV → AV → AHeap → Kont → Bool) (fun _ _ _ _ _ _ => false) (fun _ ih x2 x33 x34 x35 h K => b109_29 call n (fun x2 x33 x34 x35 h => ih x2 x33 x34 x35 h K) x2 x33 x34 x35 h K)
noncomputable def p109_25 (call : CallFn) (n : Nat) (x0 x2 : AV) (h : AHeap) (K : Kont) : Bool :=
  nilckK x0 fun v17 => fadrK 0 v17 fun v18 => fadrK 2 v18 fun v19 => loadK h v19 fun v20 => lenK v20 fun v21 => l109_29 call n n x2 v20 v21 (.int .i64 0) h K
noncomputable def b109_6 (call : CallFn) (n : Nat) (B6 : F6) (x0 x1 x2 x16 x17 x18 : AV) (h : AHeap) (K : Kont) : Bool :=
  lssK x18 x17 fun v6 => condK v6 (iadrK h 8 x16 x18 fun v7 => loadGK h 8 v7 fun v8 => allocK h [.str [], .int .i64 0, .str [], .str [], .bool false, .bool false, .nilSlc, .nilSlc] 8 fun v9 h => storeNK h 8 v9 v8 fun h => loadGK h 8 v9 fun v11 => callV call x1 [v11] h <| pz K fun v12 h => p109_19001 call n B6 x0 x1 x2 v9 x16 x17 x18 v12 h K) (p109_25 call n x0 x2 h K)
noncomputable def l109_6 (call : CallFn) (n : Nat) : Nat → AV → AV → AV → AV → AV → AV → AHeap → Kont → Bool :=
  @Nat.rec (fun _ => AV → AV → AV → AV → AV → AV → AHeap → Kont → Bool) (fun _ _ _ _ _ _ _ _ => false) (fun _ ih x0 x1 x2 x16 x17 x18 h K => b109_6 call n (fun x0 x1 x2 x16 x17 x18 h => ih x0 x1 x2 x16 x17 x18 h K) x0 x1 x2 x16 x17 x18 h K)
noncomputable def s109 (call : CallFn) (n : Nat) (x0 x1 x2 : AV) (h : AHeap) (K : Kont) : Bool :=
  nilckK x0 fun v1 => fadrK 0 v1 fun v2 => fadrK 1 v2 fun v3 => loadK h v3 fun v4 => lenK v4 fun v5 => l109_6 call n n x0 x1 x2 v4 v5 (.int .i64 0) h K

/-! ### 110 (*proctor/check.checker).names$3 -/
noncomputable def s110 (call : CallFn) (n : Nat) (x0 x1 x2 : AV) (h : AHeap) (K : Kont) : Bool :=
  optPK (boxA h (none) 8 x0) fun v1 h => loadK h x1 fun v2 => loadK h x2 fun v3 => fadrK 0 v1 fun v4 => loadK h v4 fun v5 => callV call v2 [v3, v5] h <| pz K fun v6 h => K v6 h

/-! ### 114 (*proctor/check.checker).conditions$1 -/
noncomputable def s114 (call : CallFn) (n : Nat) (x0 x1 : AV) (h : AHeap) (K : Kont) : Bool :=
  optPK (boxA h (none) 8 x0) fun v1 h => optK (some (.fn (.func 116) [] [x1, v1])) fun v2 => call (.func 115) [v2] h <| pz K fun v3 h => K v3 h

/-! ### 116 (*proctor/check.checker).conditions$1$1 -/
noncomputable def s116 (call : CallFn) (n : Nat) (x0 x1 : AV) (h : AHeap) (K : Kont) : Bool :=
  loadK h x0 fun v1 => fadrK 6 x1 fun v2 => loadK h v2 fun v3 => optPK (mkmapV h) fun v4 h => call (.func 117) [v1, v3, v4] h <| pz K fun v5 h => K (.tup []) h

/-! ### 117 (*proctor/check.checker).list -/
noncomputable def b117_8 (call : CallFn) (n : Nat) (B8 : F5) (x0 x2 x11 x12 x13 : AV) (h : AHeap) (K : Kont) : Bool :=
  lssK x13 x12 fun v3 => condK v3 (iadrK h 19 x11 x13 fun v4 => loadGK h 19 v4 fun v5 => allocK h [.int .i64 0, .str [], .str [], .nilSlc, .nilSlc, .nilSlc, .nilSlc, .nilSlc, .int .i64 0, .str [], .int .i64 0, .bool false, .int .i64 0, .str [], .nilSlc, .nilSlc, .str [], .str [], .nilSlc] 19 fun v6 h => storeNK h 19 v6 v5 fun h => loadGK h 19 v6 fun v8 => call (.func 187) [x0, v8, x2] h <| pz K fun v9 h => addK x13 (.int .i64 1) fun v10 => B8 x0 x2 x11 x12 v10 h) (K x2 h)
noncomputable def l117_8 (call : CallFn) (n : Nat) : Nat → AV → AV → AV → AV → AV → AHeap → Kont → Bool :=
  @Nat.rec (fun _ => AV → AV → AV → AV → AV → AHeap → Kont → Bool) (fun _ _ _ _ _ _ _ => false) (fun _ ih x0 x2 x11 x12 x13 h K => b117_8 call n (fun x0 x2 x11 x12 x13 h => ih x0 x2 x11 x12 x13 h K) x0 x2 x11 x12 x13 h K)
noncomputable def s117 (call : CallFn) (n : Nat) (x0 x1 x2 : AV) (h : AHeap) (K : Kont) : Bool :=
  call (.func 186) [x2] h <| pz K fun v1 h => lenK x1 fun v2 => l117_8 call n n x0 v1 x1 v2 (.int .i64 0) h K

/-! ### 121 (*proctor/check.checker).actions$1 -/
noncomputable def s121 (call : CallFn) (n : Nat) (x0 x1 : AV) (h : AHeap) (K : Kont) : Bool :=
  optPK (boxA h (none) 8 x0) fun v1 h => optK (some (.fn (.func 122) [] [x1, v1])) fun v2 => call (.func 115) [v2] h <| pz K fun v3 h => K v3 h

/-! ### 122 (*proctor/check.checker).actions$1$1 -/
noncomputable def b122_5 (call : CallFn) (n : Nat) (B5 : F5) (x0 x2 x11 x12 x13 : AV) (h : AHeap) (K : Kont) : Bool :=
  lssK x13 x12 fun v9 => condK v9 (iadrK h 12 x11 x13 fun v10 => loadGK h 12 v10 fun v11 => allocK h [.int .i64 0, .str [], .nilSlc, .int .i64 0, .str [], .int .i64 0, .bool false, .int .i64 0, .str [], .nilSlc, .nilSlc, .str []] 12 fun v12 h => storeNK h 12 v12 v11 fun h => loadK h x0 fun v14 => loadGK h 12 v12 fun v15 => call (.func 123) [v14, v15, x2] h <| pz K fun v16 h => addK x13 (.int .i64 1) fun v17 => B5 x0 x2 x11 x12 v17 h) (K (.tup []) h)
noncomputable def l122_5 (call : CallFn) (n : Nat) : Nat → AV → AV → AV → AV → AV → AHeap → Kont → Bool :=
  @Nat.rec (fun _ => AV → AV → AV → AV → AV → AHeap → Kont → Bool) (fun _ _ _ _ _ _ _ => false) (fun _ ih x0 x2 x11 x12 x13 h K => b122_5 call n (fun x0 x2 x11 x12 x13 h => ih x0 x2 x11 x12 x13 h K) x0 x2 x11 x12 x13 h K)
noncomputable def s122 (call : CallFn) (n : Nat) (x0 x1 : AV) (h : AHeap) (K : Kont) : Bool :=
  loadK h x0 fun v1 => fadrK 6 x1 fun v2 => loadK h v2 fun v3 => optPK (mkmapV h) fun v4 h => call (.func 117) [v1, v3, v4] h <| pz K fun v5 h => fadrK 7 x1 fun v6 => loadK h v6 fun v7 => lenK v7 fun v8 => l122_5 call n n x0 v5 v7 v8 (.int .i64 0) h K

/-! ### 129 (*proctor/check.checker).queries$2 -/
noncomputable def s129 (call : CallFn) (n : Nat) (x0 : AV) (h : AHeap) (K : Kont) : Bool :=
  optPK (boxA h (none) 8 x0) fun v1 h => K (.bool true) h

/-! ### 134 (*proctor/check.checker).sizes$1 -/
noncomputable def p134_4002 (call : CallFn) (n : Nat) (x8 x10 : AV) (h : AHeap) (K : Kont) : Bool :=
  pickK x8 x10 (.bool false) fun v8 => K v8 h
noncomputable def p134_4001 (call : CallFn) (n : Nat) (x1 x2 x6 : AV) (h : AHeap) (K : Kont) : Bool :=
  leqK x6 (.int .i64 64) fun v5 => gK v5 true (optK (some (.fn (.func 136) [] [x1, x2]))) fun v6 => gP v5 true (fun k => call (.func 115) [v6] h (pz K k)) h fun v7 h => p134_4002 call n v5 v7 h K
noncomputable def s134 (call : CallFn) (n : Nat) (x0 x1 : AV) (h : AHeap) (K : Kont) : Bool :=
  optPK (boxA h (none) 8 x0) fun v1 h => fadrK 6 v1 fun v2 => loadK h v2 fun v3 => call (.func 135) [v3] h <| pz K fun v4 h => p134_4001 call n x1 v1 v4 h K

/-! ### 135 proctor/check.count -/
noncomputable def p135_36001 (call : CallFn) (n : Nat) (B8 : F4) (B24 : F7) (x8 x9 x10 x25 x26 x27 x31 x33 : AV) (h : AHeap) (K : Kont) : Bool :=
  addK x31 x33 fun v23 => addK x27 (.int .i64 1) fun v24 => B24 v23 x8 x9 x10 x25 x26 v24 h
noncomputable def p135_37 (call : CallFn) (n : Nat) (B8 : F4) (x3 x8 x9 x10 : AV) (h : AHeap) (K : Kont) : Bool :=
  addK x10 (.int .i64 1) fun v25 => B8 x3 x8 x9 v25 h
noncomputable def b135_24 (call : CallFn) (n : Nat) (B8 : F4) (B24 : F7) (x3 x8 x9 x10 x25 x26 x27 : AV) (h : AHeap) (K : Kont) : Bool :=
  lssK x27 x26 fun v19 => condK v19 (iadrK h 1 x25 x27 fun v20 => loadK h v20 fun v21 => call (.func 135) [v21] h <| pz K fun v22 h => p135_36001 call n B8 B24 x8 x9 x10 x25 x26 x27 x3 v22 h K) (p135_37 call n B8 x3 x8 x9 x10 h K)
noncomputable def l135_24 (call : CallFn) (n : Nat) (B8 : F4) : Nat → AV → AV → AV → AV → AV → AV → AV → AHeap → Kont → Bool :=
  @Nat.rec (fun _ => AV → AV → AV → AV → AV → AV → AV → AHeap → Kont → Bool) (fun _ _ _ _ _ _ _ _ _ => false) (fun _ ih x3 x8 x9 x10 x25 x26 x27 h K => b135_24 call n B8 (fun x3 x8 x9 x10 x25 x26 x27 h => ih x3 x8 x9 x10 x25 x26 x27 h K) x3 x8 x9 x10 x25 x26 x27 h K)
noncomputable def p135_15 (call : CallFn) (n : Nat) (B8 : F4) (x3 x8 x9 x10 : AV) (h : AHeap) (K : Kont) : Bool :=
  iadrK h 19 x8 x10 fun v3 => loadGK h 19 v3 fun v4 => allocK h [.int .i64 0, .str [], .str [], .nilSlc, .nilSlc, .nilSlc, .nilSlc, .nilSlc, .int .i64 0, .str [], .int .i64 0, .bool false, .int .i64 0, .str [], .nilSlc, .nilSlc, .str [], .str [], .nilSlc] 19 fun v5 h => storeNK h 19 v5 v4 fun h => fadrK 5 v5 fun v7 => loadK h v7 fun v8 => fadrK 6 v5 fun v9 => loadK h v9 fun v10 => call (.func 135) [v8] h <| pz K fun v11 h => loadK h v9 <| sameK v10 <| addK (.int .i64 1) v11 fun v12 => call (.func 135) [v10] h <| pz K fun v13 h => addK v12 v13 fun v14 => addK x3 v14 fun v15 => fadrK 7 v5 fun v16 => loadK h v16 fun v17 => lenK v17 fun v18 => l135_24 call n B8 n v15 x8 x9 x10 v17 v18 (.int .i64 0) h K
noncomputable def b135_8 (call : CallFn) (n : Nat) (B8 : F4) (x3 x8 x9 x10 : AV) (h : AHeap) (K : Kont) : Bool :=
  lssK x10 x9 fun v2 => condK v2 (p135_15 call n B8 x3 x8 x9 x10 h K) (K x3 h)
noncomputable def l135_8 (call : CallFn) (n : Nat) : Nat → AV → AV → AV → AV → AHeap → Kont → Bool :=
  @Nat.rec (fun _ => AV → AV → AV → AV → AHeap → Kont → Bool) (fun _ _ _ _ _ _ => false) (fun _ ih x3 x8 x9 x10 h K => b135_8 call n (fun x3 x8 x9 x10 h => ih x3 x8 x9 x10 h K) x3 x8 x9 x10 h K)
noncomputable def s135 (call : CallFn) (n : Nat) (x0 : AV) (h : AHeap) (K : Kont) : Bool :=
  lenK x0 fun v1 => l135_8 call n n (.int .i64 0) x0 v1 (.int .i64 0) h K

/-! ### 136 (*proctor/check.checker).sizes$1$1 -/
noncomputable def s136 (call : CallFn) (n : Nat) (x0 x1 : AV) (h : AHeap) (K : Kont) : Bool :=
  loadK h x0 fun v1 => fadrK 6 x1 fun v2 => loadK h v2 fun v3 => call (.func 137) [v3] h <| pz K fun v4 h => loadK h x0 <| sameK v1 <| lenK v4 fun v5 => addK v1 v5 fun v6 => storeK h x0 v6 fun h => K (.tup []) h

/-! ### 137 proctor/check.alternatives -/
noncomputable def p137_58 (call : CallFn) (n : Nat) (B8 : F4) (B29 : F8) (x6 x7 x13 x14 x15 x28 x29 x30 : AV) (h : AHeap) (K : Kont) : Bool :=
  addK x30 (.int .i64 1) fun v30 => B29 x6 x7 x13 x14 x15 x28 x29 v30 h
noncomputable def b137_43 (call : CallFn) (n : Nat) (B8 : F4) (B29 : F8) (B43 : F12) (x6 x7 x9 x13 x14 x15 x28 x29 x30 x34 x35 x36 : AV) (h : AHeap) (K : Kont) : Bool :=
  lssK x36 x35 fun v20 => condK v20 (iadrK h 1 x34 x36 fun v21 => loadK h v21 fun v22 => addK x9 v22 fun v23 => leqK v23 (.int .i64 64) fun v24 => call (.func 184) [v24] h <| pz K fun v25 h => addK x9 v22 fun v26 => optPK (bsliceV h 1 1 [.int .i64 0] [(0, v26)]) fun v27 h => appK h 1 8 x7 v27 fun v28 h => addK x36 (.int .i64 1) fun v29 => B43 x6 v28 x9 x13 x14 x15 x28 x29 x30 x34 x35 v29 h) (p137_58 call n B8 B29 x6 x7 x13 x14 x15 x28 x29 x30 h K)
noncomputable def l137_43 (call : CallFn) (n : Nat) (B8 : F4) (B29 : F8) : Nat → AV → AV → AV → AV → AV → AV → AV → AV → AV → AV → AV → AV → AHeap → Kont → Bool :=
  @Nat.rec (fun _ => AV → AV → AV → AV → AV → AV → AV → AV → AV → AV → AV → AV → AHeap → Kont → Bool) (fun _ _ _ _ _ _ _ _ _ _ _ _ _ _ => false) (fun _ ih x6 x7 x9 x13 x14 x15 x28 x29 x30 x34 x35 x36 h K => b137_43 call n B8 B29 (fun x6 x7 x9 x13 x14 x15 x28 x29 x30 x34 x35 x36 h => ih x6 x7 x9 x13 x14 x15 x28 x29 x30 x34 x35 x36 h K) x6 x7 x9 x13 x14 x15 x28 x29 x30 x34 x35 x36 h K)
noncomputable def p137_36 (call : CallFn) (n : Nat) (B8 : F4) (B29 : F8) (x6 x7 x13 x14 x15 x28 x29 x30 : AV) (h : AHeap) (K : Kont) : Bool :=
  iadrK h 1 x28 x30 fun v17 => loadK h v17 fun v18 => lenK x6 fun v19 => l137_43 call n B8 B29 n x6 x7 v18 x13 x14 x15 x28 x29 x30 x6 v19 (.int .i64 0) h K
noncomputable def p137_60 (call : CallFn) (n : Nat) (B8 : F4) (x3 x13 x14 x15 : AV) (h : AHeap) (K : Kont) : Bool :=
  addK x15 (.int .i64 1) fun v31 => B8 x3 x13 x14 v31 h
noncomputable def b137_29 (call : CallFn) (n : Nat) (B8 : F4) (B29 : F8) (x6 x7 x13 x14 x15 x28 x29 x30 : AV) (h : AHeap) (K : Kont) : Bool :=
  lssK x30 x29 fun v16 => condK v16 (p137_36 call n B8 B29 x6 x7 x13 x14 x15 x28 x29 x30 h K) (p137_60 call n B8 x7 x13 x14 x15 h K)
noncomputable def l137_29 (call : CallFn) (n : Nat) (B8 : F4) : Nat → AV → AV → AV → AV → AV → AV → AV → AV → AHeap → Kont → Bool :=
  @Nat.rec (fun _ => AV → AV → AV → AV → AV → AV → AV → AV → AHeap → Kont → Bool) (fun _ _ _ _ _ _ _ _ _ _ => false) (fun _ ih x6 x7 x13 x14 x15 x28 x29 x30 h K => b137_29 call n B8 (fun x6 x7 x13 x14 x15 x28 x29 x30 h => ih x6 x7 x13 x14 x15 x28 x29 x30 h K) x6 x7 x13 x14 x15 x28 x29 x30 h K)
noncomputable def p137_15 (call : CallFn) (n : Nat) (B8 : F4) (x3 x13 x14 x15 : AV) (h : AHeap) (K : Kont) : Bool :=
  iadrK h 19 x13 x15 fun v4 => loadGK h 19 v4 fun v5 => allocK h [.int .i64 0, .str [], .str [], .nilSlc, .nilSlc, .nilSlc, .nilSlc, .nilSlc, .int .i64 0, .str [], .int .i64 0, .bool false, .int .i64 0, .str [], .nilSlc, .nilSlc, .str [], .str [], .nilSlc] 19 fun v6 h => storeNK h 19 v6 v5 fun h => loadGK h 19 v6 fun v8 => call (.func 195) [v8] h <| pz K fun v9 h => lenK x3 fun v10 => lenK v9 fun v11 => optK (binA .mul v10 v11) fun v12 => leqK v12 (.int .i64 512) fun v13 => call (.func 184) [v13] h <| pz K fun v14 h => lenK x3 fun v15 => l137_29 call n B8 n v9 .nilSlc x13 x14 x15 x3 v15 (.int .i64 0) h K
noncomputable def b137_8 (call : CallFn) (n : Nat) (B8 : F4) (x3 x13 x14 x15 : AV) (h : AHeap) (K : Kont) : Bool :=
  lssK x15 x14 fun v3 => condK v3 (p137_15 call n B8 x3 x13 x14 x15 h K) (K x3 h)
noncomputable def l137_8 (call : CallFn) (n : Nat) : Nat → AV → AV → AV → AV → AHeap → Kont → Bool :=
  @Nat.rec (fun _ => AV → AV → AV → AV → AHeap → Kont → Bool) (fun _ _ _ _ _ _ => false) (fun _ ih x3 x13 x14 x15 h K => b137_8 call n (fun x3 x13 x14 x15 h => ih x3 x13 x14 x15 h K) x3 x13 x14 x15 h K)
noncomputable def s137 (call : CallFn) (n : Nat) (x0 : AV) (h : AHeap) (K : Kont) : Bool :=
  optPK (bsliceV h 1 1 [.int .i64 0] [(0, (.int .i64 0))]) fun v1 h => lenK x0 fun v2 => l137_8 call n n v1 x0 v2 (.int .i64 0) h K

/-! ### 139 slices.ContainsFunc[[]proctor/api.Cond,proctor/api.Cond] -/
noncomputable def p139_4001 (call : CallFn) (n : Nat) (x7 : AV) (h : AHeap) (K : Kont) : Bool :=
  geqK x7 (.int .i64 0) fun v2 => K v2 h
noncomputable def s139 (call : CallFn) (n : Nat) (x0 x1 : AV) (h : AHeap) (K : Kont) : Bool :=
  call (.func 196) [x0, x1] h <| pz K fun v1 h => p139_4001 call n v1 h K

/-! ### 140 proctor/desugar.shallow$1 -/
noncomputable def p140_4003 (call : CallFn) (n : Nat) (x18 x22 : AV) (h : AHeap) (K : Kont) : Bool :=
  pickK x18 (.bool true) x22 fun v19 => K v19 h
noncomputable def p140_4002 (call : CallFn) (n : Nat) (x1 x2 x10 x15 : AV) (h : AHeap) (K : Kont) : Bool :=
  gK x10 false (notK x15) fun v13 => pickK x10 (.bool true) v13 fun v14 => gK v14 false (fadrK 7 x2) fun v15 => gK v14 false (loadK h v15) fun v16 => gK v14 false (optK (some (.fn (.func 142) [] [x1]))) fun v17 => gP v14 false (fun k => call (.func 141) [v16, v17] h (pz K k)) h fun v18 h => p140_4003 call n v14 v18 h K
noncomputable def p140_4001 (call : CallFn) (n : Nat) (x1 x2 x8 : AV) (h : AHeap) (K : Kont) : Bool :=
  notK x8 fun v7 => gK v7 false (fadrK 6 x2) fun v8 => gK v7 false (loadK h v8) fun v9 => gK v7 false (loadK h x1) fun v10 => gK v7 false (addK v10 (.int .i64 1)) fun v11 => gP v7 false (fun k => call (.func 71) [v9, v11] h (pz K k)) h fun v12 h => p140_4002 call n x1 x2 v7 v12 h K
noncomputable def s140 (call : CallFn) (n : Nat) (x0 x1 : AV) (h : AHeap) (K : Kont) : Bool :=
  optPK (boxA h (none) 19 x0) fun v1 h => fadrK 5 v1 fun v2 => loadK h v2 fun v3 => loadK h x1 fun v4 => addK v4 (.int .i64 1) fun v5 => call (.func 71) [v3, v5] h <| pz K fun v6 h => p140_4001 call n x1 v1 v6 h K

/-! ### 141 slices.ContainsFunc[[][]proctor/api.Cond,[]proctor/api.Cond] -/
noncomputable def p141_4001 (call : CallFn) (n : Nat) (x7 : AV) (h : AHeap) (K : Kont) : Bool :=
  geqK x7 (.int .i64 0) fun v2 => K v2 h
noncomputable def s141 (call : CallFn) (n : Nat) (x0 x1 : AV) (h : AHeap) (K : Kont) : Bool :=
  call (.func 197) [x0, x1] h <| pz K fun v1 h => p141_4001 call n v1 h K

/-! ### 143 proctor/desugar.choices -/
noncomputable def p143_11002 (call : CallFn) (n : Nat) (x19 : AV) (h : AHeap) (K : Kont) : Bool :=
  optPK (bsliceV h 1 1 [.nilSlc] [(0, x19)]) fun v9 h => K v9 h
noncomputable def p143_11001 (call : CallFn) (n : Nat) (x18 : AV) (h : AHeap) (K : Kont) : Bool :=
  call (.func 198) [x18] h <| pz K fun v8 h => p143_11002 call n v8 h K
noncomputable def p143_27002 (call : CallFn) (n : Nat) (x37 : AV) (h : AHeap) (K : Kont) : Bool :=
  optPK (bsliceV h 1 19 [.int .i64 0, .str [], .str [], .nilSlc, .nilSlc, .nilSlc, .nilSlc, .nilSlc, .int .i64 0, .str [], .int .i64 0, .bool false, .int .i64 0, .str [], .nilSlc, .nilSlc, .str [], .str [], .nilSlc] [(0, x37)]) fun v23 h => optPK (bsliceV h 1 1 [.nilSlc] [(0, v23)]) fun v24 h => K v24 h
noncomputable def p143_27001 (call : CallFn) (n : Nat) (x36 : AV) (h : AHeap) (K : Kont) : Bool :=
  call (.func 199) [x36] h <| pz K fun v22 h => p143_27002 call n v22 h K
noncomputable def p143_51002 (call : CallFn) (n : Nat) (B39 : F5) (x4 x48 x49 x50 x54 x58 : AV) (h : AHeap) (K : Kont) : Bool :=
  optPK (bsliceV h 1 19 [.int .i64 0, .str [], .str [], .nilSlc, .nilSlc, .nilSlc, .nilSlc, .nilSlc, .int .i64 0, .str [], .int .i64 0, .bool false, .int .i64 0, .str [], .nilSlc, .nilSlc, .str [], .str [], .nilSlc] [(0, x58)]) fun v39 h => appK h 19 328 x54 v39 fun v40 h => addK x50 (.int .i64 1) fun v41 => B39 x4 v40 x48 x49 v41 h
noncomputable def p143_51001 (call : CallFn) (n : Nat) (B39 : F5) (x4 x48 x49 x50 x54 x57 : AV) (h : AHeap) (K : Kont) : Bool :=
  call (.func 199) [x57] h <| pz K fun v38 h => p143_51002 call n B39 x4 x48 x49 x50 x54 v38 h K
noncomputable def p143_52 (call : CallFn) (n : Nat) (x5 : AV) (h : AHeap) (K : Kont) : Bool :=
  optPK (bsliceV h 1 1 [.nilSlc] [(0, x5)]) fun v42 h => K v42 h
noncomputable def b143_39 (call : CallFn) (n : Nat) (B39 : F5) (x4 x5 x48 x49 x50 : AV) (h : AHeap) (K : Kont) : Bool :=
  lssK x50 x49 fun v34 => condK v34 (iadrK h 1 x48 x50 fun v35 => loadK h v35 fun v36 => call (.func 145) [v36, x4] h <| pz K fun v37 h => p143_51001 call n B39 x4 x48 x49 x50 x5 v37 h K) (p143_52 call n x5 h K)
noncomputable def l143_39 (call : CallFn) (n : Nat) : Nat → AV → AV → AV → AV → AV → AHeap → Kont → Bool :=
  @Nat.rec (fun _ => AV → AV → AV → AV → AV → AHeap → Kont → Bool) (fun _ _ _ _ _ _ _ => false) (fun _ ih x4 x5 x48 x49 x50 h K => b143_39 call n (fun x4 x5 x48 x49 x50 h => ih x4 x5 x48 x49 x50 h K) x4 x5 x48 x49 x50 h K)
noncomputable def p143_38001 (call : CallFn) (n : Nat) (x4 x5 x48 : AV) (h : AHeap) (K : Kont) : Bool :=
  lenK x48 fun v33 => l143_39 call n n x4 x5 x48 v33 (.int .i64 0) h K
noncomputable def p143_33001 (call : CallFn) (n : Nat) (x1 x44 : AV) (h : AHeap) (K : Kont) : Bool :=
  call (.func 198) [x44] h <| pz K fun v29 h => fadrK 5 x1 fun v30 => loadK h v30 fun v31 => call (.func 72) [v31] h <| pz K fun v32 h => p143_38001 call n v29 .nilSlc v32 h K
noncomputable def p143_91 (call : CallFn) (n : Nat) (x1 : AV) (h : AHeap) (K : Kont) : Bool :=
  loadGK h 19 x1 fun v54 => optPK (bsliceV h 1 19 [.int .i64 0, .str [], .str [], .nilSlc, .nilSlc, .nilSlc, .nilSlc, .nilSlc, .int .i64 0, .str [], .int .i64 0, .bool false, .int .i64 0, .str [], .nilSlc, .nilSlc, .str [], .str [], .nilSlc] [(0, v54)]) fun v55 h => optPK (bsliceV h 1 1 [.nilSlc] [(0, v55)]) fun v56 h => K v56 h
noncomputable def p143_85001 (call : CallFn) (n : Nat) (B72 : F4) (x80 x81 x82 x86 x88 : AV) (h : AHeap) (K : Kont) : Bool :=
  appK h 1 24 x86 x88 fun v65 h => lenK v65 fun v66 => leqK v66 (.int .i64 512) fun v67 => call (.func 70) [v67] h <| pz K fun v68 h => addK x82 (.int .i64 1) fun v69 => B72 v65 x80 x81 v69 h
noncomputable def b143_72 (call : CallFn) (n : Nat) (B72 : F4) (x9 x80 x81 x82 : AV) (h : AHeap) (K : Kont) : Bool :=
  lssK x82 x81 fun v61 => condK v61 (iadrK h 1 x80 x82 fun v62 => loadK h v62 fun v63 => call (.func 72) [v63] h <| pz K fun v64 h => p143_85001 call n B72 x80 x81 x82 x9 v64 h K) (K x9 h)
noncomputable def l143_72 (call : CallFn) (n : Nat) : Nat → AV → AV → AV → AV → AHeap → Kont → Bool :=
  @Nat.rec (fun _ => AV → AV → AV → AV → AHeap → Kont → Bool) (fun _ _ _ _ _ _ => false) (fun _ ih x9 x80 x81 x82 h K => b143_72 call n (fun x9 x80 x81 x82 h => ih x9 x80 x81 x82 h K) x9 x80 x81 x82 h K)
set_option maxRecDepth 100000 in
noncomputable def s143 (call : CallFn) (n : Nat) (x0 : AV) (h : AHeap) (K : Kont) : Bool :=
  optPK (boxA h (none) 19 x0) fun v1 h => fadrK 0 v1 fun v2 => loadK h v2 fun v3 => eqlK v3 (.int .i64 2) fun v4 => condK v4 (fadrK 5 v1 fun v5 => loadK h v5 fun v6 => call (.func 72) [v6] h <| pz K fun v7 h => p143_11001 call n v7 h K) (eqlK v3 (.int .i64 3) fun v10 => condK v10 (fadrK 5 v1 fun v11 => loadK h v11 fun v12 => call (.func 72) [v12] h <| pz K fun v13 h => lenK v13 fun v14 => eqlK v14 (.int .i64 1) fun v15 => condK v15 (iadrK h 1 v13 (.int .i64 0) fun v16 => loadK h v16 fun v17 => buildK [.int .i64 0, .str [], .str [], .nilSlc, .nilSlc, .nilSlc, .nilSlc, .nilSlc, .int .i64 0, .str [], .int .i64 0, .bool false, .int .i64 0, .str [], .nilSlc, .nilSlc, .str [], .str [], .nilSlc] [(0, 1, (.int .i64 3)), (5, 1, v17)] fun v18 => optPK (bsliceV h 1 19 [.int .i64 0, .str [], .str [], .nilSlc, .nilSlc, .nilSlc, .nilSlc, .nilSlc, .int .i64 0, .str [], .int .i64 0, .bool false, .int .i64 0, .str [], .nilSlc, .nilSlc, .str [], .str [], .nilSlc] [(0, v18)]) fun v19 h => optPK (bsliceV h 1 1 [.nilSlc] [(0, v19)]) fun v20 h => K v20 h) (call (.func 198) [v13] h <| pz K fun v21 h => p143_27001 call n v21 h K)) (eqlK v3 (.int .i64 4) fun v25 => condK v25 (fadrK 6 v1 fun v26 => loadK h v26 fun v27 => call (.func 72) [v27] h <| pz K fun v28 h => p143_33001 call n v1 v28 h K) (eqlK v3 (.int .i64 7) fun v43 => condK v43 (fadrK 5 v1 fun v44 => loadK h v44 fun v45 => call (.func 72) [v45] h <| pz K fun v46 h => lenK v46 fun v47 => eqlK v47 (.int .i64 1) fun v48 => call (.func 70) [v48] h <| pz K fun v49 h => iadrK h 1 v46 (.int .i64 0) fun v50 => loadK h v50 fun v51 => fadrK 5 v1 fun v52 => storeK h v52 v51 fun h => p143_91 call n v1 h K) (eqlK v3 (.int .i64 5) fun v57 => condK v57 (fadrK 7 v1 fun v58 => loadK h v58 fun v59 => lenK v59 fun v60 => l143_72 call n n .nilSlc v59 v60 (.int .i64 0) h K) (p143_91 call n v1 h K)))))

/-! ### 144 proctor/desugar.alternatives$1 -/
noncomputable def b144_11 (call : CallFn) (n : Nat) (B11 : F7) (x0 x1 x2 x4 x20 x21 x22 : AV) (h : AHeap) (K : Kont) : Bool :=
  lssK x22 x21 fun v9 => condK v9 (iadrK h 1 x20 x22 fun v10 => loadK h v10 fun v11 => loadK h x4 fun v12 => addK x0 (.int .i64 1) fun v13 => call (.func 145) [x1, v11] h <| pz K fun v14 h => loadK h x4 <| sameK v12 <| callV call v12 [v13, v14, x2] h <| pz K fun v15 h => addK x22 (.int .i64 1) fun v16 => B11 x0 x1 x2 x4 x20 x21 v16 h) (K (.tup []) h)
noncomputable def l144_11 (call : CallFn) (n : Nat) : Nat → AV → AV → AV → AV → AV → AV → AV → AHeap → Kont → Bool :=
  @Nat.rec (fun _ => AV → AV → AV → AV → AV → AV → AV → AHeap → Kont → Bool) (fun _ _ _ _ _ _ _ _ _ => false) (fun _ ih x0 x1 x2 x4 x20 x21 x22 h K => b144_11 call n (fun x0 x1 x2 x4 x20 x21 x22 h => ih x0 x1 x2 x4 x20 x21 x22 h K) x0 x1 x2 x4 x20 x21 x22 h K)
noncomputable def p144_8 (call : CallFn) (n : Nat) (x0 x1 x2 x3 x4 : AV) (h : AHeap) (K : Kont) : Bool :=
  loadK h x3 fun v5 => iadrK h 1 v5 x0 fun v6 => loadK h v6 fun v7 => lenK v7 fun v8 => l144_11 call n n x0 x1 x2 x4 v7 v8 (.int .i64 0) h K
noncomputable def s144 (call : CallFn) (n : Nat) (x0 x1 x2 x3 x4 : AV) (h : AHeap) (K : Kont) : Bool :=
  loadK h x3 fun v1 => lenK v1 fun v2 => eqlK x0 v2 fun v3 => condK v3 (callV call x2 [x1] h <| pz K fun v4 h => K (.tup []) h) (p144_8 call n x0 x1 x2 x3 x4 h K)

/-! ### 145 proctor/desugar.joined[proctor/api.Cond] -/
noncomputable def p145_4001 (call : CallFn) (n : Nat) (x1 x6 : AV) (h : AHeap) (K : Kont) : Bool :=
  appK h 19 328 x6 x1 fun v2 h => K v2 h
noncomputable def s145 (call : CallFn) (n : Nat) (x0 x1 : AV) (h : AHeap) (K : Kont) : Bool :=
  call (.func 83) [x0] h <| pz K fun v1 h => p145_4001 call n x1 v1 h K

/-! ### 146 proctor/desugar.alternatives$2 -/
noncomputable def p146_2001 (call : CallFn) (n : Nat) (x0 x1 x4 : AV) (h : AHeap) (K : Kont) : Bool :=
  leqK x4 (.int .i64 64) fun v2 => call (.func 70) [v2] h <| pz K fun v3 h => loadK h x1 fun v4 => optPK (bsliceV h 1 1 [.nilSlc] [(0, x0)]) fun v5 h => appK h 1 24 v4 v5 fun v6 h => storeK h x1 v6 fun h => K (.tup []) h
noncomputable def s146 (call : CallFn) (n : Nat) (x0 x1 : AV) (h : AHeap) (K : Kont) : Bool :=
  call (.func 147) [x0] h <| pz K fun v1 h => p146_2001 call n x0 x1 v1 h K

/-! ### 147 proctor/desugar.count -/
noncomputable def p147_36001 (call : CallFn) (n : Nat) (B8 : F4) (B24 : F7) (x8 x9 x10 x25 x26 x27 x31 x33 : AV) (h : AHeap) (K : Kont) : Bool :=
  addK x31 x33 fun v23 => addK x27 (.int .i64 1) fun v24 => B24 v23 x8 x9 x10 x25 x26 v24 h
noncomputable def p147_37 (call : CallFn) (n : Nat) (B8 : F4) (x3 x8 x9 x10 : AV) (h : AHeap) (K : Kont) : Bool :=
  addK x10 (.int .i64 1) fun v25 => B8 x3 x8 x9 v25 h
noncomputable def b147_24 (call : CallFn) (n : Nat) (B8 : F4) (B24 : F7) (x3 x8 x9 x10 x25 x26 x27 : AV) (h : AHeap) (K : Kont) : Bool :=
  lssK x27 x26 fun v19 => condK v19 (iadrK h 1 x25 x27 fun v20 => loadK h v20 fun v21 => call (.func 147) [v21] h <| pz K fun v22 h => p147_36001 call n B8 B24 x8 x9 x10 x25 x26 x27 x3 v22 h K) (p147_37 call n B8 x3 x8 x9 x10 h K)
noncomputable def l147_24 (call : CallFn) (n : Nat) (B8 : F4) : Nat → AV → AV → AV → AV → AV → AV → AV → AHeap → Kont → Bool :=
  @Nat.rec (fun _ => AV → AV → AV → AV → AV → AV → AV → AHeap → Kont → Bool) (fun _ _ _ _ _ _ _ _ _ => false) (fun _ ih x3 x8 x9 x10 x25 x26 x27 h K => b147_24 call n B8 (fun x3 x8 x9 x10 x25 x26 x27 h => ih x3 x8 x9 x10 x25 x26 x27 h K) x3 x8 x9 x10 x25 x26 x27 h K)
noncomputable def p147_15 (call : CallFn) (n : Nat) (B8 : F4) (x3 x8 x9 x10 : AV) (h : AHeap) (K : Kont) : Bool :=
  iadrK h 19 x8 x10 fun v3 => loadGK h 19 v3 fun v4 => allocK h [.int .i64 0, .str [], .str [], .nilSlc, .nilSlc, .nilSlc, .nilSlc, .nilSlc, .int .i64 0, .str [], .int .i64 0, .bool false, .int .i64 0, .str [], .nilSlc, .nilSlc, .str [], .str [], .nilSlc] 19 fun v5 h => storeNK h 19 v5 v4 fun h => fadrK 5 v5 fun v7 => loadK h v7 fun v8 => fadrK 6 v5 fun v9 => loadK h v9 fun v10 => call (.func 147) [v8] h <| pz K fun v11 h => loadK h v9 <| sameK v10 <| addK (.int .i64 1) v11 fun v12 => call (.func 147) [v10] h <| pz K fun v13 h => addK v12 v13 fun v14 => addK x3 v14 fun v15 => fadrK 7 v5 fun v16 => loadK h v16 fun v17 => lenK v17 fun v18 => l147_24 call n B8 n v15 x8 x9 x10 v17 v18 (.int .i64 0) h K
noncomputable def b147_8 (call : CallFn) (n : Nat) (B8 : F4) (x3 x8 x9 x10 : AV) (h : AHeap) (K : Kont) : Bool :=
  lssK x10 x9 fun v2 => condK v2 (p147_15 call n B8 x3 x8 x9 x10 h K) (K x3 h)
noncomputable def l147_8 (call : CallFn) (n : Nat) : Nat → AV → AV → AV → AV → AHeap → Kont → Bool :=
  @Nat.rec (fun _ => AV → AV → AV → AV → AHeap → Kont → Bool) (fun _ _ _ _ _ _ => false) (fun _ ih x3 x8 x9 x10 h K => b147_8 call n (fun x3 x8 x9 x10 h => ih x3 x8 x9 x10 h K) x3 x8 x9 x10 h K)
noncomputable def s147 (call : CallFn) (n : Nat) (x0 : AV) (h : AHeap) (K : Kont) : Bool :=
  lenK x0 fun v1 => l147_8 call n n (.int .i64 0) x0 v1 (.int .i64 0) h K

/-! ### 148 proctor/desugar.copied -/
noncomputable def p148_61 (call : CallFn) (n : Nat) (x2 x3 : AV) (h : AHeap) (K : Kont) : Bool :=
  loadGK h 19 x3 fun v84 => storeNK h 19 x2 v84 fun h => optR (resV h [(x2, some (true, 19))]) h K
noncomputable def b148_48 (call : CallFn) (n : Nat) (B48 : F5) (x2 x3 x65 x66 x67 : AV) (h : AHeap) (K : Kont) : Bool :=
  lssK x67 x66 fun v73 => condK v73 (iadrK h 1 x65 x67 fun v74 => loadK h v74 fun v75 => fadrK 7 x3 fun v76 => loadK h v76 fun v77 => call (.func 73) [v75] h <| pz K fun v78 h => loadK h v76 <| sameK v77 <| optPK (bsliceV h 1 1 [.nilSlc] [(0, v78)]) fun v79 h => loadK h v76 <| sameK v77 <| appK h 1 24 v77 v79 fun v80 h => fadrK 7 x3 fun v81 => storeK h v81 v80 fun h => addK x67 (.int .i64 1) fun v83 => B48 x2 x3 x65 x66 v83 h) (p148_61 call n x2 x3 h K)
noncomputable def l148_48 (call : CallFn) (n : Nat) : Nat → AV → AV → AV → AV → AV → AHeap → Kont → Bool :=
  @Nat.rec (fun _ => AV → AV → AV → AV → AV → AHeap → Kont → Bool) (fun _ _ _ _ _ _ _ => false) (fun _ ih x2 x3 x65 x66 x67 h K => b148_48 call n (fun x2 x3 x65 x66 x67 h => ih x2 x3 x65 x66 x67 h K) x2 x3 x65 x66 x67 h K)
noncomputable def p148_44 (call : CallFn) (n : Nat) (x1 x2 x3 : AV) (h : AHeap) (K : Kont) : Bool :=
  fadrK 7 x1 fun v70 => loadK h v70 fun v71 => lenK v71 fun v72 => l148_48 call n n x2 x3 v71 v72 (.int .i64 0) h K
noncomputable def b148_31 (call : CallFn) (n : Nat) (B31 : F6) (x1 x2 x3 x46 x47 x48 : AV) (h : AHeap) (K : Kont) : Bool :=
  lssK x48 x47 fun v52 => condK v52 (iadrK h 9 x46 x48 fun v53 => loadGK h 9 v53 fun v54 => allocK h [.str [], .int .i64 0, .str [], .int .i64 0, .bool false, .int .i64 0, .str [], .nilSlc, .nilSlc] 9 fun v55 h => storeNK h 9 v55 v54 fun h => fadrK 18 x3 fun v57 => loadK h v57 fun v58 => fadrK 0 v55 fun v59 => loadK h v59 fun v60 => fadrK 1 v55 fun v61 => loadGK h 8 v61 fun v62 => call (.func 201) [v62] h <| pz K fun v63 h => loadK h v57 <| sameK v58 <| loadK h v59 <| sameK v60 <| buildK [.str [], .int .i64 0, .str [], .int .i64 0, .bool false, .int .i64 0, .str [], .nilSlc, .nilSlc] [(0, 1, v60), (1, 8, v63)] fun v64 => optPK (bsliceV h 1 9 [.str [], .int .i64 0, .str [], .int .i64 0, .bool false, .int .i64 0, .str [], .nilSlc, .nilSlc] [(0, v64)]) fun v65 h => loadK h v57 <| sameK v58 <| loadK h v59 <| sameK v60 <| loadGK h 8 v61 <| sameK v62 <| appK h 9 128 v58 v65 fun v66 h => fadrK 18 x3 fun v67 => storeK h v67 v66 fun h => addK x48 (.int .i64 1) fun v69 => B31 x1 x2 x3 x46 x47 v69 h) (p148_44 call n x1 x2 x3 h K)
noncomputable def l148_31 (call : CallFn) (n : Nat) : Nat → AV → AV → AV → AV → AV → AV → AHeap → Kont → Bool :=
  @Nat.rec (fun _ => AV → AV → AV → AV → AV → AV → AHeap → Kont → Bool) (fun _ _ _ _ _ _ _ _ => false) (fun _ ih x1 x2 x3 x46 x47 x48 h K => b148_31 call n (fun x1 x2 x3 x46 x47 x48 h => ih x1 x2 x3 x46 x47 x48 h K) x1 x2 x3 x46 x47 x48 h K)
noncomputable def p148_27 (call : CallFn) (n : Nat) (x1 x2 x3 : AV) (h : AHeap) (K : Kont) : Bool :=
  fadrK 18 x1 fun v49 => loadK h v49 fun v50 => lenK v50 fun v51 => l148_31 call n n x1 x2 x3 v50 v51 (.int .i64 0) h K
noncomputable def b148_14 (call : CallFn) (n : Nat) (B14 : F6) (x1 x2 x3 x31 x32 x33 : AV) (h : AHeap) (K : Kont) : Bool :=
  lssK x33 x32 fun v35 => condK v35 (iadrK h 8 x31 x33 fun v36 => loadGK h 8 v36 fun v37 => allocK h [.int .i64 0, .str [], .int .i64 0, .bool false, .int .i64 0, .str [], .nilSlc, .nilSlc] 8 fun v38 h => storeNK h 8 v38 v37 fun h => fadrK 4 x3 fun v40 => loadK h v40 fun v41 => loadGK h 8 v38 fun v42 => call (.func 201) [v42] h <| pz K fun v43 h => loadK h v40 <| sameK v41 <| optPK (bsliceV h 1 8 [.int .i64 0, .str [], .int .i64 0, .bool false, .int .i64 0, .str [], .nilSlc, .nilSlc] [(0, v43)]) fun v44 h => loadK h v40 <| sameK v41 <| loadGK h 8 v38 <| sameK v42 <| appK h 8 112 v41 v44 fun v45 h => fadrK 4 x3 fun v46 => storeK h v46 v45 fun h => addK x33 (.int .i64 1) fun v48 => B14 x1 x2 x3 x31 x32 v48 h) (p148_27 call n x1 x2 x3 h K)
noncomputable def l148_14 (call : CallFn) (n : Nat) : Nat → AV → AV → AV → AV → AV → AV → AHeap → Kont → Bool :=
  @Nat.rec (fun _ => AV → AV → AV → AV → AV → AV → AHeap → Kont → Bool) (fun _ _ _ _ _ _ _ _ => false) (fun _ ih x1 x2 x3 x31 x32 x33 h K => b148_14 call n (fun x1 x2 x3 x31 x32 x33 h => ih x1 x2 x3 x31 x32 x33 h K) x1 x2 x3 x31 x32 x33 h K)
set_option maxRecDepth 100000 in
noncomputable def s148 (call : CallFn) (n : Nat) (x0 : AV) (h : AHeap) (K : Kont) : Bool :=
  optPK (boxA h (none) 19 x0) fun v1 h => allocK h [.int .i64 0, .str [], .str [], .nilSlc, .nilSlc, .nilSlc, .nilSlc, .nilSlc, .int .i64 0, .str [], .int .i64 0, .bool false, .int .i64 0, .str [], .nilSlc, .nilSlc, .str [], .str [], .nilSlc] 19 fun v2 h => loadGK h 19 v1 fun v3 => allocK h [.int .i64 0, .str [], .str [], .nilSlc, .nilSlc, .nilSlc, .nilSlc, .nilSlc, .int .i64 0, .str [], .int .i64 0, .bool false, .int .i64 0, .str [], .nilSlc, .nilSlc, .str [], .str [], .nilSlc] 19 fun v4 h => storeNK h 19 v4 v3 fun h => fadrK 3 v1 fun v6 => loadK h v6 fun v7 => fadrK 8 v1 fun v8 => loadGK h 8 v8 fun v9 => call (.func 200) [v7] h <| pz K fun v10 h => loadGK h 8 v8 <| sameK v9 <| fadrK 3 v4 fun v11 => call (.func 201) [v9] h <| pz K fun v12 h => storeK h v11 v10 fun h => fadrK 8 v4 fun v14 => storeNK h 8 v14 v12 fun h => fadrK 4 v4 fun v16 => storeK h v16 .nilSlc fun h => fadrK 18 v4 fun v18 => storeK h v18 .nilSlc fun h => fadrK 7 v4 fun v20 => storeK h v20 .nilSlc fun h => fadrK 5 v1 fun v22 => loadK h v22 fun v23 => fadrK 6 v1 fun v24 => loadK h v24 fun v25 => call (.func 73) [v23] h <| pz K fun v26 h => loadK h v24 <| sameK v25 <| fadrK 5 v4 fun v27 => call (.func 73) [v25] h <| pz K fun v28 h => storeK h v27 v26 fun h => fadrK 6 v4 fun v30 => storeK h v30 v28 fun h => fadrK 4 v1 fun v32 => loadK h v32 fun v33 => lenK v33 fun v34 => l148_14 call n n v1 v2 v4 v33 v34 (.int .i64 0) h K

/-! ### 149 proctor/class.name -/
noncomputable def p149_31001 (call : CallFn) (n : Nat) (x55 x57 : AV) (h : AHeap) (K : Kont) : Bool :=
  gK x55 true (notK x57) fun v40 => pickK x55 v40 (.bool false) fun v41 => K v41 h
noncomputable def p149_29 (call : CallFn) (n : Nat) (x0 : AV) (h : AHeap) (K : Kont) : Bool :=
  lenSK x0 fun v32 => geqK v32 (.int .i64 1) fun v33 => gK v33 true (optK (some x0)) fun v34 => gK v33 true (lenSK v34) fun v35 => gK v33 true (leqK v35 (.int .i64 64)) fun v36 => pickK v33 v36 (.bool false) fun v37 => gK v37 true (optK (some x0)) fun v38 => gP v37 true (fun k => call (.func 202) [v38] h (pz K k)) h fun v39 h => p149_31001 call n v37 v39 h K
noncomputable def b149_6 (call : CallFn) (n : Nat) (B6 : F3) (x0 x7 x8 : AV) (h : AHeap) (K : Kont) : Bool :=
  lssK x8 x7 fun v2 => condK v2 (idxsK x0 x8 fun v3 => geqK v3 (.int .u8 97) fun v4 => gK v4 true (optK (some v3)) fun v5 => gK v4 true (leqK v5 (.int .u8 122)) fun v6 => pickK v4 v6 (.bool false) fun v7 => gK v7 false (optK (some v3)) fun v8 => gK v7 false (geqK v8 (.int .u8 65)) fun v9 => gK v7 false (optK (some v9)) fun v10 => gK v10 true (optK (some v3)) fun v11 => gK v10 true (leqK v11 (.int .u8 90)) fun v12 => gK v7 false (pickK v10 v12 (.bool false)) fun v13 => pickK v7 (.bool true) v13 fun v14 => notK v14 fun v15 => gK v15 true (optK (some x8)) fun v16 => gK v15 true (eqlK v16 (.int .i64 0)) fun v17 => gK v15 true (optK (some v17)) fun v18 => gK v18 false (optK (some v3)) fun v19 => gK v18 false (neqK v19 (.int .u8 95)) fun v20 => gK v18 false (optK (some v20)) fun v21 => gK v21 true (optK (some v3)) fun v22 => gK v21 true (lssK v22 (.int .u8 48)) fun v23 => gK v21 true (optK (some v23)) fun v24 => gK v24 false (optK (some v3)) fun v25 => gK v24 false (gtrK v25 (.int .u8 57)) fun v26 => gK v21 true (pickK v24 (.bool true) v26) fun v27 => gK v18 false (pickK v21 v27 (.bool false)) fun v28 => gK v15 true (pickK v18 (.bool true) v28) fun v29 => pickK v15 v29 (.bool false) fun v30 => condK v30 (K (.bool false) h) (addK x8 (.int .i64 1) fun v31 => B6 x0 x7 v31 h)) (p149_29 call n x0 h K)
noncomputable def l149_6 (call : CallFn) (n : Nat) : Nat → AV → AV → AV → AHeap → Kont → Bool :=
  @Nat.rec (fun _ => AV → AV → AV → AHeap → Kont → Bool) (fun _ _ _ _ _ => false) (fun _ ih x0 x7 x8 h K => b149_6 call n (fun x0 x7 x8 h => ih x0 x7 x8 h K) x0 x7 x8 h K)
noncomputable def s149 (call : CallFn) (n : Nat) (x0 : AV) (h : AHeap) (K : Kont) : Bool :=
  lenSK x0 fun v1 => l149_6 call n n x0 v1 (.int .i64 0) h K

/-! ### 150 (*proctor/class.Table).Has -/
noncomputable def s150 (call : CallFn) (n : Nat) (x0 x1 : AV) (h : AHeap) (K : Kont) : Bool :=
  nilckK x0 fun v1 => fadrK 1 v1 fun v2 => loadK h v2 fun v3 => optK (lookA h (.leaf .str) true (.int .i64 0) v3 x1) fun v4 => extK 0 v4 fun v5 => extK 1 v4 fun v6 => K v6 h

/-! ### 151 (*proctor/class.Table).up -/
noncomputable def s151 (call : CallFn) (n : Nat) (x0 x1 : AV) (h : AHeap) (K : Kont) : Bool :=
  boxK h x0 fun v1 h => boxK h x1 fun v2 h => optK (some (.fn (.func 203) [] [v1, v2])) fun v3 => K v3 h

/-! ### 154 proctor/network.own -/
noncomputable def p154_28 (call : CallFn) (n : Nat) (B8 : F4) (x3 x8 x9 x10 : AV) (h : AHeap) (K : Kont) : Bool :=
  addK x10 (.int .i64 1) fun v19 => B8 x3 x8 x9 v19 h
noncomputable def b154_8 (call : CallFn) (n : Nat) (B8 : F4) (x3 x8 x9 x10 : AV) (h : AHeap) (K : Kont) : Bool :=
  lssK x10 x9 fun v5 => condK v5 (iadrK h 8 x8 x10 fun v6 => loadGK h 8 v6 fun v7 => allocK h [.int .i64 0, .str [], .int .i64 0, .bool false, .int .i64 0, .str [], .nilSlc, .nilSlc] 8 fun v8 h => storeNK h 8 v8 v7 fun h => allocK h [.bool false] 1 fun v10 h => storeK h v10 (.bool true) fun h => loadGK h 8 v8 fun v12 => optK (some (.fn (.func 206) [] [v10])) fun v13 => call (.func 205) [v12, v13] h <| pz K fun v14 h => loadK h v10 fun v15 => condK v15 (loadGK h 8 v8 fun v16 => optPK (bsliceV h 1 8 [.int .i64 0, .str [], .int .i64 0, .bool false, .int .i64 0, .str [], .nilSlc, .nilSlc] [(0, v16)]) fun v17 h => appK h 8 112 x3 v17 fun v18 h => p154_28 call n B8 v18 x8 x9 x10 h K) (p154_28 call n B8 x3 x8 x9 x10 h K)) (K x3 h)
noncomputable def l154_8 (call : CallFn) (n : Nat) : Nat → AV → AV → AV → AV → AHeap → Kont → Bool :=
  @Nat.rec (fun _ => AV → AV → AV → AV → AHeap → Kont → Bool) (fun _ _ _ _ _ _ => false) (fun _ ih x3 x8 x9 x10 h K => b154_8 call n (fun x3 x8 x9 x10 h => ih x3 x8 x9 x10 h K) x3 x8 x9 x10 h K)
noncomputable def s154 (call : CallFn) (n : Nat) (x0 : AV) (h : AHeap) (K : Kont) : Bool :=
  optPK (boxA h (none) 19 x0) fun v1 h => fadrK 4 v1 fun v2 => loadK h v2 fun v3 => lenK v3 fun v4 => l154_8 call n n .nilSlc v3 v4 (.int .i64 0) h K

/-! ### 155 (*proctor/network.speller).exprs -/
noncomputable def b155_5 (call : CallFn) (n : Nat) (B5 : F4) (x0 x11 x12 x13 : AV) (h : AHeap) (K : Kont) : Bool :=
  lssK x13 x12 fun v5 => condK v5 (iadrK h 8 x11 x13 fun v6 => loadGK h 8 v6 fun v7 => allocK h [.int .i64 0, .str [], .int .i64 0, .bool false, .int .i64 0, .str [], .nilSlc, .nilSlc] 8 fun v8 h => storeNK h 8 v8 v7 fun h => loadGK h 8 v8 fun v10 => call (.func 159) [x0, v10] h <| pz K fun v11 h => addK x13 (.int .i64 1) fun v12 => B5 x0 x11 x12 v12 h) (K (.tup []) h)
noncomputable def l155_5 (call : CallFn) (n : Nat) : Nat → AV → AV → AV → AV → AHeap → Kont → Bool :=
  @Nat.rec (fun _ => AV → AV → AV → AV → AHeap → Kont → Bool) (fun _ _ _ _ _ _ => false) (fun _ ih x0 x11 x12 x13 h K => b155_5 call n (fun x0 x11 x12 x13 h => ih x0 x11 x12 x13 h K) x0 x11 x12 x13 h K)
noncomputable def s155 (call : CallFn) (n : Nat) (x0 x1 : AV) (h : AHeap) (K : Kont) : Bool :=
  lenK x1 fun v1 => optPK (bsliceV h 1 1 [.int .i64 0] [(0, v1)]) fun v2 h => call (.func 156) [x0, v2] h <| pz K fun v3 h => lenK x1 fun v4 => l155_5 call n n x0 x1 v4 (.int .i64 0) h K

/-! ### 156 (*proctor/network.speller).num -/
noncomputable def p156_15001 (call : CallFn) (n : Nat) (B3 : F4) (x0 x6 x7 x8 x12 x14 : AV) (h : AHeap) (K : Kont) : Bool :=
  optPK (bsliceV h 1 1 [.str []] [(0, x14)]) fun v6 h => call (.func 158) [x12, v6] h <| pz K fun v7 h => addK x8 (.int .i64 1) fun v8 => B3 x0 x6 x7 v8 h
noncomputable def b156_3 (call : CallFn) (n : Nat) (B3 : F4) (x0 x6 x7 x8 : AV) (h : AHeap) (K : Kont) : Bool :=
  lssK x8 x7 fun v2 => condK v2 (iadrK h 1 x6 x8 fun v3 => loadK h v3 fun v4 => call (.func 207) [v4] h <| pz K fun v5 h => p156_15001 call n B3 x0 x6 x7 x8 x0 v5 h K) (K (.tup []) h)
noncomputable def l156_3 (call : CallFn) (n : Nat) : Nat → AV → AV → AV → AV → AHeap → Kont → Bool :=
  @Nat.rec (fun _ => AV → AV → AV → AV → AHeap → Kont → Bool) (fun _ _ _ _ _ _ => false) (fun _ ih x0 x6 x7 x8 h K => b156_3 call n (fun x0 x6 x7 x8 h => ih x0 x6 x7 x8 h K) x0 x6 x7 x8 h K)
noncomputable def s156 (call : CallFn) (n : Nat) (x0 x1 : AV) (h : AHeap) (K : Kont) : Bool :=
  lenK x1 fun v1 => l156_3 call n n x0 x1 v1 (.int .i64 0) h K

/-! ### 157 (*proctor/network.speller).name -/
noncomputable def p157_14 (call : CallFn) (n : Nat) (x0 x1 : AV) (h : AHeap) (K : Kont) : Bool :=
  nilckK x0 fun v18 => fadrK 2 v18 fun v19 => loadK h v19 fun v20 => optK (lookA h (.leaf .str) false (.int .i64 0) v20 x1) fun v21 => optPK (bsliceV h 1 1 [.int .i64 0] [(0, v21)]) fun v22 h => call (.func 156) [x0, v22] h <| pz K fun v23 h => K (.tup []) h
noncomputable def s157 (call : CallFn) (n : Nat) (x0 x1 : AV) (h : AHeap) (K : Kont) : Bool :=
  eqlK x1 (.str []) fun v1 => condK v1 (optPK (bsliceV h 1 1 [.int .i64 0] [(0, (.int .i64 0))]) fun v2 h => call (.func 156) [x0, v2] h <| pz K fun v3 h => K (.tup []) h) (nilckK x0 fun v4 => fadrK 2 v4 fun v5 => loadK h v5 fun v6 => optK (lookA h (.leaf .str) false (.int .i64 0) v6 x1) fun v7 => eqlK v7 (.int .i64 0) fun v8 => condK v8 (nilckK x0 fun v9 => fadrK 2 v9 fun v10 => loadK h v10 fun v11 => nilckK x0 fun v12 => fadrK 2 v12 fun v13 => loadK h v13 fun v14 => optK (lenA h 2 v14) fun v15 => addK v15 (.int .i64 1) fun v16 => optPK (unit (mupdA h (.leaf .str) v11 x1 v16)) fun _ h => p157_14 call n x0 x1 h K) (p157_14 call n x0 x1 h K))

/-! ### 158 (*proctor/network.speller).put -/
noncomputable def b158_3 (call : CallFn) (n : Nat) (B3 : F4) (x0 x6 x7 x8 : AV) (h : AHeap) (K : Kont) : Bool :=
  lssK x8 x7 fun v2 => condK v2 (iadrK h 1 x6 x8 fun v3 => loadK h v3 fun v4 => nilckK x0 fun v5 => fadrK 0 v5 fun v6 => lenSK v4 fun v7 => call (.func 207) [v7] h <| pz K fun v8 h => addK v8 (.str [58]) fun v9 => addK v9 v4 fun v10 => call (.func 208) [v6, v10] h <| pz K fun v11 h => addK x8 (.int .i64 1) fun v12 => B3 x0 x6 x7 v12 h) (K (.tup []) h)
noncomputable def l158_3 (call : CallFn) (n : Nat) : Nat → AV → AV → AV → AV → AHeap → Kont → Bool :=
  @Nat.rec (fun _ => AV → AV → AV → AV → AHeap → Kont → Bool) (fun _ _ _ _ _ _ => false) (fun _ ih x0 x6 x7 x8 h K => b158_3 call n (fun x0 x6 x7 x8 h => ih x0 x6 x7 x8 h K) x0 x6 x7 x8 h K)
noncomputable def s158 (call : CallFn) (n : Nat) (x0 x1 : AV) (h : AHeap) (K : Kont) : Bool :=
  lenK x1 fun v1 => l158_3 call n n x0 x1 v1 (.int .i64 0) h K

/-! ### 159 (*proctor/network.speller).expr -/
noncomputable def p159_12001 (call : CallFn) (n : Nat) (x0 x3 x26 : AV) (h : AHeap) (K : Kont) : Bool :=
  extK 0 x26 fun v15 => extK 1 x26 fun v16 => optK (b2sA h v15) fun v17 => optPK (bsliceV h 1 1 [.str []] [(0, v17)]) fun v18 h => call (.func 158) [x0, v18] h <| pz K fun v19 h => fadrK 7 x3 fun v20 => loadK h v20 fun v21 => call (.func 155) [x0, v21] h <| pz K fun v22 h => K (.tup []) h
noncomputable def p159_10 (call : CallFn) (n : Nat) (x0 x3 : AV) (h : AHeap) (K : Kont) : Bool :=
  fadrK 2 x3 fun v12 => loadGK h 5 v12 fun v13 => call (.func 209) [v13] h <| pz K fun v14 h => p159_12001 call n x0 x3 v14 h K
noncomputable def s159 (call : CallFn) (n : Nat) (x0 x1 : AV) (h : AHeap) (K : Kont) : Bool :=
  optPK (boxA h (none) 8 x1) fun v1 h => fadrK 0 v1 fun v2 => loadK h v2 fun v3 => optPK (bsliceV h 1 1 [.int .i64 0] [(0, v3)]) fun v4 h => call (.func 156) [x0, v4] h <| pz K fun v5 h => fadrK 0 v1 fun v6 => loadK h v6 fun v7 => eqlK v7 (.int .i64 2) fun v8 => condK v8 (fadrK 1 v1 fun v9 => loadK h v9 fun v10 => call (.func 157) [x0, v10] h <| pz K fun v11 h => p159_10 call n x0 v1 h K) (fadrK 1 v1 fun v23 => loadK h v23 fun v24 => optPK (bsliceV h 1 1 [.str []] [(0, v24)]) fun v25 h => call (.func 158) [x0, v25] h <| pz K fun v26 h => p159_10 call n x0 v1 h K)

/-! ### 160 (*proctor/lex.lexer).all$1 -/
noncomputable def p160_27001 (call : CallFn) (n : Nat) (B1 : F2) (x0 x1 x49 : AV) (h : AHeap) (K : Kont) : Bool :=
  notK x49 fun v47 => condK v47 (K (.tup []) h) (B1 x0 x1 h)
noncomputable def p160_13001 (call : CallFn) (n : Nat) (B1 : F2) (x0 x1 x19 : AV) (h : AHeap) (K : Kont) : Bool :=
  extK 0 x19 fun v15 => extK 1 x19 fun v16 => allocK h [.int .i64 0, .str [], .int .i64 0, .int .i64 0] 4 fun v17 h => storeNK h 4 v17 v15 fun h => eqlK v16 (.int .i64 0) fun v19 => condK v19 (loadK h x1 fun v20 => nilckK v20 fun v21 => fadrK 2 v21 fun v22 => storeK h v22 (.bool true) fun h => K (.tup []) h) (loadK h x1 fun v24 => nilckK v24 fun v25 => fadrK 1 v25 fun v26 => loadK h v26 fun v27 => loadK h x1 fun v28 => nilckK v28 fun v29 => fadrK 1 v29 fun v30 => loadK h v30 fun v31 => addK v31 v16 fun v32 => fadrK 2 v17 fun v33 => storeK h v33 v27 fun h => loadK h x1 <| sameK v28 <| loadK h v30 <| sameK v31 <| fadrK 3 v17 fun v35 => storeK h v35 v32 fun h => loadK h x1 fun v37 => nilckK v37 fun v38 => fadrK 1 v38 fun v39 => loadK h v39 fun v40 => addK v40 v16 fun v41 => nilckK v37 fun v42 => fadrK 1 v42 fun v43 => storeK h v43 v41 fun h => loadGK h 4 v17 fun v45 => callV call x0 [v45] h <| pz K fun v46 h => p160_27001 call n B1 x0 x1 v46 h K)
noncomputable def b160_1 (call : CallFn) (n : Nat) (B1 : F2) (x0 x1 : AV) (h : AHeap) (K : Kont) : Bool :=
  loadK h x1 fun v1 => call (.func 161) [v1] h <| pz K fun v2 h => loadK h x1 fun v3 => nilckK v3 fun v4 => fadrK 1 v4 fun v5 => loadK h v5 fun v6 => loadK h x1 fun v7 => nilckK v7 fun v8 => fadrK 0 v8 fun v9 => loadK h v9 fun v10 => lenSK v10 fun v11 => geqK v6 v11 fun v12 => condK v12 (K (.tup []) h) (loadK h x1 fun v13 => call (.func 162) [v13] h <| pz K fun v14 h => p160_13001 call n B1 x0 x1 v14 h K)
noncomputable def l160_1 (call : CallFn) (n : Nat) : Nat → AV → AV → AHeap → Kont → Bool :=
  @Nat.rec (fun _ => AV → AV → AHeap → Kont → Bool) (fun _ _ _ _ => false) (fun _ ih x0 x1 h K => b160_1 call n (fun x0 x1 h => ih x0 x1 h K) x0 x1 h K)
noncomputable def s160 (call : CallFn) (n : Nat) (x0 x1 : AV) (h : AHeap) (K : Kont) : Bool :=
  l160_1 call n n x0 x1 h K

/-! ### 161 (*proctor/lex.lexer).blank -/
noncomputable def p161_49 (call : CallFn) (n : Nat) (B0 : F1) (x0 x3 : AV) (h : AHeap) (K : Kont) : Bool :=
  nilckK x0 fun v41 => fadrK 1 v41 fun v42 => loadK h v42 fun v43 => addK v43 x3 fun v44 => nilckK x0 fun v45 => fadrK 1 v45 fun v46 => storeK h v46 v44 fun h => B0 x0 h
noncomputable def p161_40001 (call : CallFn) (n : Nat) (B0 : F1) (x0 x31 x33 : AV) (h : AHeap) (K : Kont) : Bool :=
  gK x31 true (eqlK x33 (.int .u8 47)) fun v22 => pickK x31 v22 (.bool false) fun v23 => condK v23 (nilckK x0 fun v24 => fadrK 0 v24 fun v25 => loadK h v25 fun v26 => nilckK x0 fun v27 => fadrK 1 v27 fun v28 => loadK h v28 fun v29 => slsK v26 (some v29) none fun v30 => call (.func 211) [v30, (.int .u8 10)] h <| pz K fun v31 h => lssK v31 (.int .i64 0) fun v32 => condK v32 (nilckK x0 fun v33 => fadrK 0 v33 fun v34 => loadK h v34 fun v35 => lenSK v35 fun v36 => nilckK x0 fun v37 => fadrK 1 v37 fun v38 => loadK h v38 fun v39 => subK v36 v39 fun v40 => p161_49 call n B0 x0 v40 h K) (p161_49 call n B0 x0 v31 h K)) (K (.tup []) h)
noncomputable def j161_0 (call : CallFn) (n : Nat) (B0 : F1) (x0 : AV) (h : AHeap) (K : Kont) : Bool :=
  call (.func 210) [x0, (.int .i64 0)] h <| pz K fun v1 h => eqlK v1 (.int .u8 32) fun v2 => gK v2 false (optK (some v1)) fun v3 => gK v2 false (eqlK v3 (.int .u8 9)) fun v4 => pickK v2 (.bool true) v4 fun v5 => gK v5 false (optK (some v1)) fun v6 => gK v5 false (eqlK v6 (.int .u8 13)) fun v7 => pickK v5 (.bool true) v7 fun v8 => gK v8 false (optK (some v1)) fun v9 => gK v8 false (eqlK v9 (.int .u8 10)) fun v10 => pickK v8 (.bool true) v10 fun v11 => condK v11 (nilckK x0 fun v12 => fadrK 1 v12 fun v13 => loadK h v13 fun v14 => addK v14 (.int .i64 1) fun v15 => nilckK x0 fun v16 => fadrK 1 v16 fun v17 => storeK h v17 v15 fun h => B0 x0 h) (eqlK v1 (.int .u8 47) fun v19 => gK v19 true (optK (some x0)) fun v20 => gP v19 true (fun k => call (.func 210) [v20, (.int .i64 1)] h (pz K k)) h fun v21 h => p161_40001 call n B0 x0 v19 v21 h K)
noncomputable def g161_0 (call : CallFn) (n : Nat) : Nat → AV → AHeap → Kont → Bool :=
  @Nat.rec (fun _ => AV → AHeap → Kont → Bool) (fun _ _ _ => false) (fun _ ih x0 h K => j161_0 call n (fun x0 h => ih x0 h K) x0 h K)
noncomputable def p161_23 (call : CallFn) (n : Nat) (B0 : F1) (x0 x3 : AV) (h : AHeap) (K : Kont) : Bool :=
  nilckK x0 fun v88 => fadrK 1 v88 fun v89 => loadK h v89 fun v90 => addK v90 x3 fun v91 => nilckK x0 fun v92 => fadrK 1 v92 fun v93 => storeK h v93 v91 fun h => B0 x0 h
noncomputable def p161_14001 (call : CallFn) (n : Nat) (B0 : F1) (x0 x31 x33 : AV) (h : AHeap) (K : Kont) : Bool :=
  gK x31 true (eqlK x33 (.int .u8 47)) fun v69 => pickK x31 v69 (.bool false) fun v70 => condK v70 (nilckK x0 fun v71 => fadrK 0 v71 fun v72 => loadK h v72 fun v73 => nilckK x0 fun v74 => fadrK 1 v74 fun v75 => loadK h v75 fun v76 => slsK v73 (some v76) none fun v77 => call (.func 211) [v77, (.int .u8 10)] h <| pz K fun v78 h => lssK v78 (.int .i64 0) fun v79 => condK v79 (nilckK x0 fun v80 => fadrK 0 v80 fun v81 => loadK h v81 fun v82 => lenSK v82 fun v83 => nilckK x0 fun v84 => fadrK 1 v84 fun v85 => loadK h v85 fun v86 => subK v83 v86 fun v87 => p161_23 call n B0 x0 v87 h K) (p161_23 call n B0 x0 v78 h K)) (K (.tup []) h)
noncomputable def f161_0 (call : CallFn) (n : Nat) (B0 : F1) (x0 : AV) (h : AHeap) (K : Kont) : Bool :=
  call (.func 210) [x0, (.int .i64 0)] h <| pz K fun v48 h => eqlK v48 (.int .u8 32) fun v49 => gK v49 false (optK (some v48)) fun v50 => gK v49 false (eqlK v50 (.int .u8 9)) fun v51 => pickK v49 (.bool true) v51 fun v52 => gK v52 false (optK (some v48)) fun v53 => gK v52 false (eqlK v53 (.int .u8 13)) fun v54 => pickK v52 (.bool true) v54 fun v55 => gK v55 false (optK (some v48)) fun v56 => gK v55 false (eqlK v56 (.int .u8 10)) fun v57 => pickK v55 (.bool true) v57 fun v58 => condK v58 (nilckK x0 fun v59 => fadrK 1 v59 fun v60 => loadK h v60 fun v61 => addK v61 (.int .i64 1) fun v62 => nilckK x0 fun v63 => fadrK 1 v63 fun v64 => storeK h v64 v62 fun h => B0 x0 h) (eqlK v48 (.int .u8 47) fun v66 => gK v66 true (optK (some x0)) fun v67 => gP v66 true (fun k => call (.func 210) [v67, (.int .i64 1)] h (pz K k)) h fun v68 h => p161_14001 call n B0 x0 v66 v68 h K)
noncomputable def s161 (call : CallFn) (n : Nat) (x0 : AV) (h : AHeap) (K : Kont) : Bool :=
  f161_0 call n (pF1 (pC1 (g161_0 call n n) K)) x0 h K

/-! ### 162 (*proctor/lex.lexer).next -/
noncomputable def p162_15001 (call : CallFn) (n : Nat) (x2 x3 x18 : AV) (h : AHeap) (K : Kont) : Bool :=
  buildK [.int .i64 0, .str [], .int .i64 0, .int .i64 0] [(0, 1, (.int .i64 0)), (1, 1, x18)] fun v10 => storeNK h 4 x2 v10 fun h => optR (resV h [(x2, some (true, 4)), (x3, none)]) h K
noncomputable def p162_27001 (call : CallFn) (n : Nat) (x2 x3 x30 : AV) (h : AHeap) (K : Kont) : Bool :=
  buildK [.int .i64 0, .str [], .int .i64 0, .int .i64 0] [(0, 1, (.int .i64 1)), (1, 1, x30)] fun v17 => addK x3 (.int .i64 1) fun v18 => storeNK h 4 x2 v17 fun h => optR (resV h [(x2, some (true, 4)), (v18, none)]) h K
noncomputable def p162_39001 (call : CallFn) (n : Nat) (x2 x3 x42 : AV) (h : AHeap) (K : Kont) : Bool :=
  buildK [.int .i64 0, .str [], .int .i64 0, .int .i64 0] [(0, 1, (.int .i64 2)), (1, 1, x42)] fun v26 => storeNK h 4 x2 v26 fun h => optR (resV h [(x2, some (true, 4)), (x3, none)]) h K
noncomputable def p162_45001 (call : CallFn) (n : Nat) (x2 x50 : AV) (h : AHeap) (K : Kont) : Bool :=
  extK 0 x50 fun v31 => extK 1 x50 fun v32 => buildK [.int .i64 0, .str [], .int .i64 0, .int .i64 0] [(0, 1, (.int .i64 3)), (1, 1, v31)] fun v33 => storeNK h 4 x2 v33 fun h => optR (resV h [(x2, some (true, 4)), (v32, none)]) h K
noncomputable def p162_53001 (call : CallFn) (n : Nat) (x2 x3 x60 : AV) (h : AHeap) (K : Kont) : Bool :=
  buildK [.int .i64 0, .str [], .int .i64 0, .int .i64 0] [(0, 1, (.int .i64 4)), (1, 1, x60)] fun v38 => storeNK h 4 x2 v38 fun h => optR (resV h [(x2, some (true, 4)), (x3, none)]) h K
noncomputable def s162 (call : CallFn) (n : Nat) (x0 : AV) (h : AHeap) (K : Kont) : Bool :=
  boxK h x0 fun v1 h => allocK h [.int .i64 0, .str [], .int .i64 0, .int .i64 0] 4 fun v2 h => optK (some (.fn (.func 212) [] [v1])) fun v3 => loadK h v1 fun v4 => call (.func 210) [v4, (.int .i64 0)] h <| pz K fun v5 h => call (.func 213) [v5] h <| pz K fun v6 h => condK v6 (loadK h v1 fun v7 => call (.func 214) [v7, (.int .i64 0)] h <| pz K fun v8 h => callV call v3 [(.int .i64 0), v8] h <| pz K fun v9 h => p162_15001 call n v2 v8 v9 h K) (eqlK v5 (.int .u8 36) fun v12 => condK v12 (loadK h v1 fun v13 => call (.func 214) [v13, (.int .i64 1)] h <| pz K fun v14 h => gtrK v14 (.int .i64 0) fun v15 => condK v15 (callV call v3 [(.int .i64 1), v14] h <| pz K fun v16 h => p162_27001 call n v2 v14 v16 h K) (loadGK h 4 v2 fun v20 => storeNK h 4 v2 v20 fun h => optR (resV h [(v2, some (true, 4)), ((.int .i64 0), none)]) h K)) (call (.func 215) [v5] h <| pz K fun v22 h => condK v22 (loadK h v1 fun v23 => call (.func 216) [v23, (.int .i64 0), (.fn (.func 215) [] [])] h <| pz K fun v24 h => callV call v3 [(.int .i64 0), v24] h <| pz K fun v25 h => p162_39001 call n v2 v24 v25 h K) (eqlK v5 (.int .u8 34) fun v28 => condK v28 (loadK h v1 fun v29 => call (.func 217) [v29] h <| pz K fun v30 h => p162_45001 call n v2 v30 h K) (loadK h v1 fun v35 => call (.func 218) [v35] h <| pz K fun v36 h => callV call v3 [(.int .i64 0), v36] h <| pz K fun v37 h => p162_53001 call n v2 v36 v37 h K))))

/-! ### 165 (*proctor/parse.parser).block -/
noncomputable def s165 (call : CallFn) (n : Nat) (x0 : AV) (h : AHeap) (K : Kont) : Bool :=
  call (.func 52) [x0, (.str [40])] h <| pz K fun v1 h => optPK (bsliceV h 1 1 [.str []] [(0, (.str [41]))]) fun v2 h => call (.func 166) [x0, v2] h <| pz K fun v3 h => call (.func 55) [x0, (.str [41])] h <| pz K fun v4 h => K v3 h

/-! ### 166 (*proctor/parse.parser).some -/
noncomputable def p166_4001 (call : CallFn) (n : Nat) (x0 x1 x7 : AV) (h : AHeap) (K : Kont) : Bool :=
  allocK h [.int .i64 0, .str [], .str [], .nilSlc, .nilSlc, .nilSlc, .nilSlc, .nilSlc, .int .i64 0, .str [], .int .i64 0, .bool false, .int .i64 0, .str [], .nilSlc, .nilSlc, .str [], .str [], .nilSlc] 19 fun v2 h => storeNK h 19 v2 x7 fun h => loadGK h 19 v2 fun v4 => optPK (bsliceV h 1 19 [.int .i64 0, .str [], .str [], .nilSlc, .nilSlc, .nilSlc, .nilSlc, .nilSlc, .int .i64 0, .str [], .int .i64 0, .bool false, .int .i64 0, .str [], .nilSlc, .nilSlc, .str [], .str [], .nilSlc] [(0, v4)]) fun v5 h => loadGK h 19 v2 <| sameK v4 <| call (.func 58) [x0, x1] h <| pz (goneQ [v5] K) fun v6 h => loadGK h 19 v2 <| sameK v4 <| appK h 19 328 v5 v6 fun v7 h => K v7 h
noncomputable def s166 (call : CallFn) (n : Nat) (x0 x1 : AV) (h : AHeap) (K : Kont) : Bool :=
  call (.func 96) [x0] h <| pz K fun v1 h => p166_4001 call n x0 x1 v1 h K

/-! ### 170 (*proctor/parse.parser).pattern -/
noncomputable def p170_14001 (call : CallFn) (n : Nat) (x1 x2 x3 x14 : AV) (h : AHeap) (K : Kont) : Bool :=
  fadrK 2 x3 fun v17 => storeK h v17 x14 fun h => loadK h x1 fun v19 => call (.func 52) [v19, (.str [40])] h <| pz K fun v20 h => loadK h x1 fun v21 => optK (some (.fn (.func 225) [] [x1, x3])) fun v22 => call (.func 60) [v21, (.str [41]), v22] h <| pz K fun v23 h => loadGK h 19 x3 fun v24 => storeNK h 19 x2 v24 fun h => optR (resV h [(x2, some (true, 19))]) h K
noncomputable def p170_12 (call : CallFn) (n : Nat) (x1 x2 x3 : AV) (h : AHeap) (K : Kont) : Bool :=
  loadK h x1 fun v15 => call (.func 51) [v15] h <| pz K fun v16 h => p170_14001 call n x1 x2 x3 v16 h K
noncomputable def p170_10001 (call : CallFn) (n : Nat) (x1 x2 x3 x8 : AV) (h : AHeap) (K : Kont) : Bool :=
  fadrK 1 x3 fun v10 => storeK h v10 x8 fun h => loadK h x1 fun v12 => optPK (bsliceV h 1 1 [.str []] [(0, (.str [58]))]) fun v13 h => call (.func 31) [v12, v13] h <| pz K fun v14 h => p170_12 call n x1 x2 x3 h K
noncomputable def s170 (call : CallFn) (n : Nat) (x0 : AV) (h : AHeap) (K : Kont) : Bool :=
  boxK h x0 fun v1 h => allocK h [.int .i64 0, .str [], .str [], .nilSlc, .nilSlc, .nilSlc, .nilSlc, .nilSlc, .int .i64 0, .str [], .int .i64 0, .bool false, .int .i64 0, .str [], .nilSlc, .nilSlc, .str [], .str [], .nilSlc] 19 fun v2 h => buildK [.int .i64 0, .str [], .str [], .nilSlc, .nilSlc, .nilSlc, .nilSlc, .nilSlc, .int .i64 0, .str [], .int .i64 0, .bool false, .int .i64 0, .str [], .nilSlc, .nilSlc, .str [], .str [], .nilSlc] [(0, 1, (.int .i64 1))] fun v3 => allocK h [.int .i64 0, .str [], .str [], .nilSlc, .nilSlc, .nilSlc, .nilSlc, .nilSlc, .int .i64 0, .str [], .int .i64 0, .bool false, .int .i64 0, .str [], .nilSlc, .nilSlc, .str [], .str [], .nilSlc] 19 fun v4 h => storeNK h 19 v4 v3 fun h => loadK h v1 fun v6 => call (.func 94) [v6, (.int .i64 1)] h <| pz K fun v7 h => condK v7 (loadK h v1 fun v8 => call (.func 62) [v8] h <| pz K fun v9 h => p170_10001 call n v1 v2 v4 v9 h K) (p170_12 call n v1 v2 v4 h K)

/-! ### 174 (*proctor/print.writer).class -/
noncomputable def p174_57 (call : CallFn) (n : Nat) (B16 : F4) (x0 x23 x24 x25 : AV) (h : AHeap) (K : Kont) : Bool :=
  addK x25 (.int .i64 1) fun v37 => B16 x0 x23 x24 v37 h
noncomputable def p174_50 (call : CallFn) (n : Nat) (B16 : F4) (x0 x5 x23 x24 x25 x35 x38 : AV) (h : AHeap) (K : Kont) : Bool :=
  condK x38 (optPK (bsliceV h 5 1 [.str []] [(0, (.str [97, 110, 121])), (1, (.str [98, 111, 111, 108])), (2, (.str [105, 110, 116])), (3, (.str [116, 101, 120, 116])), (4, (.str [108, 105, 115, 116]))]) fun v30 h => fadrK 1 x5 fun v31 => loadK h v31 fun v32 => iadrK h 1 v30 v32 fun v33 => loadK h v33 fun v34 => optPK (bsliceV h 1 1 [.str []] [(0, v34)]) fun v35 h => call (.func 228) [x0, v35] h <| pz K fun v36 h => p174_57 call n B16 x0 x23 x24 x25 h K) (eqlK x35 (.int .i64 5) fun v38 => condK v38 (fadrK 2 x5 fun v39 => loadK h v39 fun v40 => optPK (bsliceV h 2 1 [.str []] [(0, (.str [114, 101, 102])), (1, v40)]) fun v41 h => call (.func 228) [x0, v41] h <| pz K fun v42 h => p174_57 call n B16 x0 x23 x24 x25 h K) (buildK [] [] fun v43 => optK (mkifA 275 v43) fun v44 => pncK K v44 h))
noncomputable def p174_58 (call : CallFn) (n : Nat) (x0 : AV) (h : AHeap) (K : Kont) : Bool :=
  optPK (bsliceV h 1 1 [.str []] [(0, (.str [125]))]) fun v50 h => call (.func 228) [x0, v50] h <| pz K fun v51 h => K (.tup []) h
noncomputable def b174_16 (call : CallFn) (n : Nat) (B16 : F4) (x0 x23 x24 x25 : AV) (h : AHeap) (K : Kont) : Bool :=
  lssK x25 x24 fun v18 => condK v18 (iadrK h 3 x23 x25 fun v19 => loadGK h 3 v19 fun v20 => allocK h [.str [], .int .i64 0, .str []] 3 fun v21 h => storeNK h 3 v21 v20 fun h => fadrK 0 v21 fun v23 => loadK h v23 fun v24 => optPK (bsliceV h 2 1 [.str []] [(0, v24), (1, (.str [58]))]) fun v25 h => call (.func 228) [x0, v25] h <| pz K fun v26 h => fadrK 1 v21 fun v27 => loadK h v27 fun v28 => eqlK v28 (.int .i64 0) fun v29 => condK v29 (p174_50 call n B16 x0 v21 x23 x24 x25 v28 v29 h K) (eqlK v28 (.int .i64 1) fun v46 => condK v46 (p174_50 call n B16 x0 v21 x23 x24 x25 v28 v46 h K) (eqlK v28 (.int .i64 2) fun v47 => condK v47 (p174_50 call n B16 x0 v21 x23 x24 x25 v28 v47 h K) (eqlK v28 (.int .i64 3) fun v48 => condK v48 (p174_50 call n B16 x0 v21 x23 x24 x25 v28 v48 h K) (eqlK v28 (.int .i64 4) fun v49 => p174_50 call n B16 x0 v21 x23 x24 x25 v28 v49 h K))))) (p174_58 call n x0 h K)
noncomputable def l174_16 (call : CallFn) (n : Nat) : Nat → AV → AV → AV → AV → AHeap → Kont → Bool :=
  @Nat.rec (fun _ => AV → AV → AV → AV → AHeap → Kont → Bool) (fun _ _ _ _ _ _ => false) (fun _ ih x0 x23 x24 x25 h K => b174_16 call n (fun x0 x23 x24 x25 h => ih x0 x23 x24 x25 h K) x0 x23 x24 x25 h K)
noncomputable def p174_10 (call : CallFn) (n : Nat) (x0 x3 : AV) (h : AHeap) (K : Kont) : Bool :=
  optPK (bsliceV h 1 1 [.str []] [(0, (.str [123]))]) fun v13 h => call (.func 228) [x0, v13] h <| pz K fun v14 h => fadrK 2 x3 fun v15 => loadK h v15 fun v16 => lenK v16 fun v17 => l174_16 call n n x0 v16 v17 (.int .i64 0) h K
noncomputable def s174 (call : CallFn) (n : Nat) (x0 x1 : AV) (h : AHeap) (K : Kont) : Bool :=
  optPK (boxA h (none) 3 x1) fun v1 h => fadrK 0 v1 fun v2 => loadK h v2 fun v3 => optPK (bsliceV h 2 1 [.str []] [(0, (.str [99, 108, 97, 115, 115])), (1, v3)]) fun v4 h => call (.func 228) [x0, v4] h <| pz K fun v5 h => fadrK 1 v1 fun v6 => loadK h v6 fun v7 => neqK v7 (.str []) fun v8 => condK v8 (fadrK 1 v1 fun v9 => loadK h v9 fun v10 => optPK (bsliceV h 2 1 [.str []] [(0, (.str [101, 120, 116, 101, 110, 100, 115])), (1, v10)]) fun v11 h => call (.func 228) [x0, v11] h <| pz K fun v12 h => p174_10 call n x0 v1 h K) (p174_10 call n x0 v1 h K)

/-! ### 175 (*proctor/print.writer).rule -/
noncomputable def p175_71 (call : CallFn) (n : Nat) (x0 : AV) (h : AHeap) (K : Kont) : Bool :=
  optPK (bsliceV h 1 1 [.str []] [(0, (.str [101, 110, 100]))]) fun v68 h => call (.func 228) [x0, v68] h <| pz K fun v69 h => K (.tup []) h
noncomputable def b175_58 (call : CallFn) (n : Nat) (B58 : F4) (x0 x79 x80 x81 : AV) (h : AHeap) (K : Kont) : Bool :=
  lssK x81 x80 fun v60 => condK v60 (iadrK h 12 x79 x81 fun v61 => loadGK h 12 v61 fun v62 => allocK h [.int .i64 0, .str [], .nilSlc, .int .i64 0, .str [], .int .i64 0, .bool false, .int .i64 0, .str [], .nilSlc, .nilSlc, .str []] 12 fun v63 h => storeNK h 12 v63 v62 fun h => loadGK h 12 v63 fun v65 => call (.func 233) [x0, v65] h <| pz K fun v66 h => addK x81 (.int .i64 1) fun v67 => B58 x0 x79 x80 v67 h) (p175_71 call n x0 h K)
noncomputable def l175_58 (call : CallFn) (n : Nat) : Nat → AV → AV → AV → AV → AHeap → Kont → Bool :=
  @Nat.rec (fun _ => AV → AV → AV → AV → AHeap → Kont → Bool) (fun _ _ _ _ _ _ => false) (fun _ ih x0 x79 x80 x81 h K => b175_58 call n (fun x0 x79 x80 x81 h => ih x0 x79 x80 x81 h K) x0 x79 x80 x81 h K)
noncomputable def p175_48 (call : CallFn) (n : Nat) (x0 x3 : AV) (h : AHeap) (K : Kont) : Bool :=
  optPK (bsliceV h 1 1 [.str []] [(0, (.str [119, 104, 101, 110]))]) fun v50 h => call (.func 228) [x0, v50] h <| pz K fun v51 h => fadrK 6 x3 fun v52 => loadK h v52 fun v53 => call (.func 232) [x0, v53] h <| pz K fun v54 h => optPK (bsliceV h 1 1 [.str []] [(0, (.str [116, 104, 101, 110]))]) fun v55 h => call (.func 228) [x0, v55] h <| pz K fun v56 h => fadrK 7 x3 fun v57 => loadK h v57 fun v58 => lenK v58 fun v59 => l175_58 call n n x0 v58 v59 (.int .i64 0) h K
noncomputable def p175_42 (call : CallFn) (n : Nat) (x0 x3 : AV) (h : AHeap) (K : Kont) : Bool :=
  fadrK 5 x3 fun v46 => loadK h v46 fun v47 => condK v47 (optPK (bsliceV h 1 1 [.str []] [(0, (.str [108, 111, 99, 107]))]) fun v48 h => call (.func 228) [x0, v48] h <| pz K fun v49 h => p175_48 call n x0 x3 h K) (p175_48 call n x0 x3 h K)
noncomputable def p175_36 (call : CallFn) (n : Nat) (x0 x3 : AV) (h : AHeap) (K : Kont) : Bool :=
  fadrK 4 x3 fun v42 => loadK h v42 fun v43 => condK v43 (optPK (bsliceV h 1 1 [.str []] [(0, (.str [110, 111, 108, 111, 111, 112]))]) fun v44 h => call (.func 228) [x0, v44] h <| pz K fun v45 h => p175_42 call n x0 x3 h K) (p175_42 call n x0 x3 h K)
noncomputable def p175_35001 (call : CallFn) (n : Nat) (x0 x3 x52 x55 : AV) (h : AHeap) (K : Kont) : Bool :=
  optPK (bsliceV h 2 1 [.str []] [(0, (.str [102, 108, 111, 119])), (1, x55)]) fun v40 h => call (.func 228) [x52, v40] h <| pz K fun v41 h => p175_36 call n x0 x3 h K
noncomputable def p175_30 (call : CallFn) (n : Nat) (x0 x3 : AV) (h : AHeap) (K : Kont) : Bool :=
  fadrK 3 x3 fun v34 => loadK h v34 fun v35 => neqK v35 (.str []) fun v36 => condK v36 (fadrK 3 x3 fun v37 => loadK h v37 fun v38 => call (.func 229) [v38] h <| pz K fun v39 h => p175_35001 call n x0 x3 x0 v39 h K) (p175_36 call n x0 x3 h K)
noncomputable def p175_29001 (call : CallFn) (n : Nat) (x0 x3 x43 x46 : AV) (h : AHeap) (K : Kont) : Bool :=
  optPK (bsliceV h 2 1 [.str []] [(0, (.str [103, 114, 111, 117, 112])), (1, x46)]) fun v32 h => call (.func 228) [x43, v32] h <| pz K fun v33 h => p175_30 call n x0 x3 h K
noncomputable def p175_24 (call : CallFn) (n : Nat) (x0 x3 : AV) (h : AHeap) (K : Kont) : Bool :=
  fadrK 2 x3 fun v26 => loadK h v26 fun v27 => neqK v27 (.str []) fun v28 => condK v28 (fadrK 2 x3 fun v29 => loadK h v29 fun v30 => call (.func 229) [v30] h <| pz K fun v31 h => p175_29001 call n x0 x3 x0 v31 h K) (p175_30 call n x0 x3 h K)
noncomputable def p175_23001 (call : CallFn) (n : Nat) (x0 x3 x35 x37 : AV) (h : AHeap) (K : Kont) : Bool :=
  optPK (bsliceV h 1 1 [.str []] [(0, x37)]) fun v24 h => call (.func 228) [x35, v24] h <| pz K fun v25 h => p175_24 call n x0 x3 h K
noncomputable def p175_22 (call : CallFn) (n : Nat) (x0 x3 x4 : AV) (h : AHeap) (K : Kont) : Bool :=
  call (.func 231) [x4, (.int .i64 10)] h <| pz K fun v23 h => p175_23001 call n x0 x3 x0 v23 h K
noncomputable def p175_4001 (call : CallFn) (n : Nat) (x0 x3 x7 x10 : AV) (h : AHeap) (K : Kont) : Bool :=
  optPK (bsliceV h 2 1 [.str []] [(0, (.str [114, 117, 108, 101])), (1, x10)]) fun v5 h => call (.func 228) [x7, v5] h <| pz K fun v6 h => fadrK 1 x3 fun v7 => loadK h v7 fun v8 => neqK v8 (.int .i64 0) fun v9 => condK v9 (optPK (bsliceV h 1 1 [.str []] [(0, (.str [115, 97, 108, 105, 101, 110, 99, 101]))]) fun v10 h => call (.func 228) [x0, v10] h <| pz K fun v11 h => fadrK 1 x3 fun v12 => loadK h v12 fun v13 => geqK v13 (.int .i64 (-2147483648)) fun v14 => gK v14 true (optK (some v13)) fun v15 => gK v14 true (leqK v15 (.int .i64 2147483648)) fun v16 => pickK v14 v16 (.bool false) fun v17 => call (.func 230) [v17] h <| pz K fun v18 h => lssK v13 (.int .i64 0) fun v19 => condK v19 (optPK (bsliceV h 1 1 [.str []] [(0, (.str [45]))]) fun v20 h => call (.func 228) [x0, v20] h <| pz K fun v21 h => optK (negA v13) fun v22 => p175_22 call n x0 x3 v22 h K) (p175_22 call n x0 x3 v13 h K)) (p175_24 call n x0 x3 h K)
noncomputable def s175 (call : CallFn) (n : Nat) (x0 x1 : AV) (h : AHeap) (K : Kont) : Bool :=
  optPK (boxA h (none) 8 x1) fun v1 h => fadrK 0 v1 fun v2 => loadK h v2 fun v3 => call (.func 229) [v3] h <| pz K fun v4 h => p175_4001 call n x0 v1 x0 v4 h K

/-! ### 177 proctor/parse.Long$1 -/
noncomputable def p177_1001 (call : CallFn) (n : Nat) (x1 x4 : AV) (h : AHeap) (K : Kont) : Bool :=
  storeNK h 3 x1 x4 fun h => K (.tup []) h
noncomputable def s177 (call : CallFn) (n : Nat) (x0 x1 : AV) (h : AHeap) (K : Kont) : Bool :=
  call (.func 14) [x0] h <| pz K fun v1 h => p177_1001 call n x1 v1 h K

/-! ### 178 slices.EqualFunc[[]proctor/api.Class,[]proctor/api.Class,proctor/api.Class,proctor/api.Class] -/
noncomputable def p178_29001 (call : CallFn) (n : Nat) (B14 : F5) (x1 x2 x15 x16 x17 x29 : AV) (h : AHeap) (K : Kont) : Bool :=
  notK x29 fun v17 => condK v17 (K (.bool false) h) (addK x17 (.int .i64 1) fun v18 => B14 x1 x2 x15 x16 v18 h)
noncomputable def b178_14 (call : CallFn) (n : Nat) (B14 : F5) (x1 x2 x15 x16 x17 : AV) (h : AHeap) (K : Kont) : Bool :=
  lssK x17 x16 fun v5 => condK v5 (iadrK h 3 x15 x17 fun v6 => loadGK h 3 v6 fun v7 => allocK h [.str [], .str [], .nilSlc] 3 fun v8 h => storeNK h 3 v8 v7 fun h => iadrK h 3 x1 x17 fun v10 => loadGK h 3 v10 fun v11 => allocK h [.str [], .str [], .nilSlc] 3 fun v12 h => storeNK h 3 v12 v11 fun h => loadGK h 3 v8 fun v14 => loadGK h 3 v12 fun v15 => callV call x2 [v14, v15] h <| pz K fun v16 h => p178_29001 call n B14 x1 x2 x15 x16 x17 v16 h K) (K (.bool true) h)
noncomputable def l178_14 (call : CallFn) (n : Nat) : Nat → AV → AV → AV → AV → AV → AHeap → Kont → Bool :=
  @Nat.rec (fun _ => AV → AV → AV → AV → AV → AHeap → Kont → Bool) (fun _ _ _ _ _ _ _ => false) (fun _ ih x1 x2 x15 x16 x17 h K => b178_14 call n (fun x1 x2 x15 x16 x17 h => ih x1 x2 x15 x16 x17 h K) x1 x2 x15 x16 x17 h K)
noncomputable def p178_10 (call : CallFn) (n : Nat) (x0 x1 x2 : AV) (h : AHeap) (K : Kont) : Bool :=
  lenK x0 fun v4 => l178_14 call n n x1 x2 x0 v4 (.int .i64 0) h K
noncomputable def s178 (call : CallFn) (n : Nat) (x0 x1 x2 : AV) (h : AHeap) (K : Kont) : Bool :=
  lenK x0 fun v1 => lenK x1 fun v2 => neqK v1 v2 fun v3 => condK v3 (K (.bool false) h) (p178_10 call n x0 x1 x2 h K)

/-! ### 179 proctor/print.sameClass -/
noncomputable def p179_4001 (call : CallFn) (n : Nat) (x17 x22 : AV) (h : AHeap) (K : Kont) : Bool :=
  pickK x17 x22 (.bool false) fun v19 => K v19 h
noncomputable def s179 (call : CallFn) (n : Nat) (x0 x1 : AV) (h : AHeap) (K : Kont) : Bool :=
  optPK (boxA h (none) 3 x0) fun v1 h => optPK (boxA h (none) 3 x1) fun v2 h => fadrK 0 v1 fun v3 => loadK h v3 fun v4 => fadrK 0 v2 fun v5 => loadK h v5 fun v6 => eqlK v4 v6 fun v7 => gK v7 true (fadrK 1 v1) fun v8 => gK v7 true (loadK h v8) fun v9 => gK v7 true (fadrK 1 v2) fun v10 => gK v7 true (loadK h v10) fun v11 => gK v7 true (eqlK v9 v11) fun v12 => pickK v7 v12 (.bool false) fun v13 => gK v13 true (fadrK 2 v1) fun v14 => gK v13 true (loadK h v14) fun v15 => gK v13 true (fadrK 2 v2) fun v16 => gK v13 true (loadK h v16) fun v17 => gP v13 true (fun k => call (.func 236) [v15, v17] h (pz K k)) h fun v18 h => p179_4001 call n v13 v18 h K

/-! ### 180 slices.EqualFunc[[]proctor/api.Rule,[]proctor/api.Rule,proctor/api.Rule,proctor/api.Rule] -/
noncomputable def p180_29001 (call : CallFn) (n : Nat) (B14 : F5) (x1 x2 x15 x16 x17 x29 : AV) (h : AHeap) (K : Kont) : Bool :=
  notK x29 fun v17 => condK v17 (K (.bool false) h) (addK x17 (.int .i64 1) fun v18 => B14 x1 x2 x15 x16 v18 h)
noncomputable def b180_14 (call : CallFn) (n : Nat) (B14 : F5) (x1 x2 x15 x16 x17 : AV) (h : AHeap) (K : Kont) : Bool :=
  lssK x17 x16 fun v5 => condK v5 (iadrK h 8 x15 x17 fun v6 => loadGK h 8 v6 fun v7 => allocK h [.str [], .int .i64 0, .str [], .str [], .bool false, .bool false, .nilSlc, .nilSlc] 8 fun v8 h => storeNK h 8 v8 v7 fun h => iadrK h 8 x1 x17 fun v10 => loadGK h 8 v10 fun v11 => allocK h [.str [], .int .i64 0, .str [], .str [], .bool false, .bool false, .nilSlc, .nilSlc] 8 fun v12 h => storeNK h 8 v12 v11 fun h => loadGK h 8 v8 fun v14 => loadGK h 8 v12 fun v15 => callV call x2 [v14, v15] h <| pz K fun v16 h => p180_29001 call n B14 x1 x2 x15 x16 x17 v16 h K) (K (.bool true) h)
noncomputable def l180_14 (call : CallFn) (n : Nat) : Nat → AV → AV → AV → AV → AV → AHeap → Kont → Bool :=
  @Nat.rec (fun _ => AV → AV → AV → AV → AV → AHeap → Kont → Bool) (fun _ _ _ _ _ _ _ => false) (fun _ ih x1 x2 x15 x16 x17 h K => b180_14 call n (fun x1 x2 x15 x16 x17 h => ih x1 x2 x15 x16 x17 h K) x1 x2 x15 x16 x17 h K)
noncomputable def p180_10 (call : CallFn) (n : Nat) (x0 x1 x2 : AV) (h : AHeap) (K : Kont) : Bool :=
  lenK x0 fun v4 => l180_14 call n n x1 x2 x0 v4 (.int .i64 0) h K
noncomputable def s180 (call : CallFn) (n : Nat) (x0 x1 x2 : AV) (h : AHeap) (K : Kont) : Bool :=
  lenK x0 fun v1 => lenK x1 fun v2 => neqK v1 v2 fun v3 => condK v3 (K (.bool false) h) (p180_10 call n x0 x1 x2 h K)

end Go.Proofs.YtnddpaeagljnbaaGreatDoor
