/-
  The functions as functions of Lean (printed by wip/tools/gen2.py).
-/
import Derived.Test.YtjkllaaepilihaaGreatDoorAbDn
namespace Go.Proofs.YtjkllaaepilihaaGreatDoor
open Go.Ab
set_option linter.unusedVariables false

/-! ### 3 proctor/proctorlaw5.ParseLevels -/
noncomputable def p3_23001 (call : CallFn) (n : Nat) (B8 : F2) (x1 x2 x46 x49 : AV) (h : AHeap) (K : Kont) : Bool :=
  gK x46 false (notK x49) fun v28 => pickK x46 (.bool true) v28 fun v29 => condK v29 (K (.bool false) h) (addK x2 (.int .i64 2) fun v30 => B8 x1 v30 h)
noncomputable def p3_21001 (call : CallFn) (n : Nat) (B8 : F2) (x1 x2 x3 x5 x36 : AV) (h : AHeap) (K : Kont) : Bool :=
  extK 0 x36 fun v16 => extK 1 x36 fun v17 => extK 2 x36 fun v18 => allocK h [.int .i64 0, .str [], .int .i64 0, .bool false, .int .i64 0, .str [], .nilSlc, .nilSlc] 8 fun v19 h => optPK (unit (storeA h 8 v19 v16)) fun _ h => neqK x5 (.int .i64 0) fun v21 => gK v21 false (optK (some v18)) fun v22 => gK v21 false (neqK v22 (.int .i64 0)) fun v23 => pickK v21 (.bool true) v23 fun v24 => gK v24 false (loadGK h 8 x3) fun v25 => gK v24 false (loadGK h 8 v19) fun v26 => gP v24 false (fun k => call (.func 6) [v25, v26] h (pz K k)) h fun v27 h => p3_23001 call n B8 x1 x2 v24 v27 h K
noncomputable def p3_19001 (call : CallFn) (n : Nat) (B8 : F2) (x1 x2 x26 : AV) (h : AHeap) (K : Kont) : Bool :=
  extK 0 x26 fun v7 => extK 1 x26 fun v8 => extK 2 x26 fun v9 => allocK h [.int .i64 0, .str [], .int .i64 0, .bool false, .int .i64 0, .str [], .nilSlc, .nilSlc] 8 fun v10 h => optPK (unit (storeA h 8 v10 v7)) fun _ h => addK x2 (.int .i64 1) fun v12 => iadrK h 1 x1 v12 fun v13 => loadK h v13 fun v14 => call (.func 5) [v14] h <| pz K fun v15 h => p3_21001 call n B8 x1 x2 v10 v9 v15 h K
noncomputable def p3_46001 (call : CallFn) (n : Nat) (B35 : F2) (x9 x10 x64 : AV) (h : AHeap) (K : Kont) : Bool :=
  extK 0 x64 fun v37 => extK 1 x64 fun v38 => extK 2 x64 fun v39 => allocK h [.int .i64 0, .str [], .int .i64 0, .bool false, .int .i64 0, .str [], .nilSlc, .nilSlc] 8 fun v40 h => optPK (unit (storeA h 8 v40 v37)) fun _ h => neqK v39 (.int .i64 20) fun v42 => condK v42 (K (.bool false) h) (addK x10 (.int .i64 1) fun v43 => B35 x9 v43 h)
noncomputable def p3_54 (call : CallFn) (n : Nat) (h : AHeap) (K : Kont) : Bool :=
  call (.func 7) [] h <| pz K fun v44 h => K v44 h
noncomputable def b3_35 (call : CallFn) (n : Nat) (B35 : F2) (x9 x10 : AV) (h : AHeap) (K : Kont) : Bool :=
  lenK x9 fun v32 => lssK x10 v32 fun v33 => condK v33 (iadrK h 1 x9 x10 fun v34 => loadK h v34 fun v35 => call (.func 5) [v35] h <| pz K fun v36 h => p3_46001 call n B35 x9 x10 v36 h K) (p3_54 call n  h K)
noncomputable def l3_35 (call : CallFn) (n : Nat) : Nat → AV → AV → AHeap → Kont → Bool :=
  @Nat.rec (fun _ => AV → AV → AHeap → Kont → Bool) (fun _ _ _ _ => false) (fun _ ih x9 x10 h K => b3_35 call n (fun x9 x10 h => ih x9 x10 h K) x9 x10 h K)
noncomputable def p3_29 (call : CallFn) (n : Nat) (h : AHeap) (K : Kont) : Bool :=
  optPK (bsliceV h 17 1 [.str []] [(0, (.str [])), (1, (.str [49, 32, 43])), (2, (.str [49, 32, 61, 61, 32, 50, 32, 61, 61, 32, 51])), (3, (.str [40, 49])), (4, (.str [91, 49, 44, 93])), (5, (.str [115, 105, 122, 101, 32, 49])), (6, (.str [104, 97, 115, 40, 49, 41])), (7, (.str [36])), (8, (.str [97, 46, 49])), (9, (.str [49, 32, 50])), (10, (.str [114, 117, 108, 101])), (11, (.str [57, 50, 50, 51, 51, 55, 50, 48, 51, 54, 56, 53, 52, 55, 55, 53, 56, 48, 56])), (12, (.str [45, 32, 45])), (13, (.str [97, 46, 119, 104, 101, 110])), (14, (.str [36, 120, 32, 58, 32, 49])), (15, (.str [91, 49, 32, 50, 93])), (16, (.str [115, 105, 122, 101, 40, 41]))]) fun v31 h => l3_35 call n n v31 (.int .i64 0) h K
noncomputable def b3_8 (call : CallFn) (n : Nat) (B8 : F2) (x1 x2 : AV) (h : AHeap) (K : Kont) : Bool :=
  lenK x1 fun v2 => lssK x2 v2 fun v3 => condK v3 (iadrK h 1 x1 x2 fun v4 => loadK h v4 fun v5 => call (.func 5) [v5] h <| pz K fun v6 h => p3_19001 call n B8 x1 x2 v6 h K) (p3_29 call n  h K)
noncomputable def l3_8 (call : CallFn) (n : Nat) : Nat → AV → AV → AHeap → Kont → Bool :=
  @Nat.rec (fun _ => AV → AV → AHeap → Kont → Bool) (fun _ _ _ _ => false) (fun _ ih x1 x2 h K => b3_8 call n (fun x1 x2 h => ih x1 x2 h K) x1 x2 h K)
set_option maxRecDepth 100000 in
noncomputable def s3 (call : CallFn) (n : Nat) (h : AHeap) (K : Kont) : Bool :=
  optPK (bsliceV h 26 1 [.str []] [(0, (.str [49, 32, 43, 32, 50, 32, 42, 32, 51])), (1, (.str [49, 32, 43, 32, 40, 50, 32, 42, 32, 51, 41])), (2, (.str [49, 32, 45, 32, 50, 32, 45, 32, 51])), (3, (.str [40, 49, 32, 45, 32, 50, 41, 32, 45, 32, 51])), (4, (.str [36, 97, 32, 124, 124, 32, 36, 98, 32, 38, 38, 32, 36, 99])), (5, (.str [36, 97, 32, 124, 124, 32, 40, 36, 98, 32, 38, 38, 32, 36, 99, 41])), (6, (.str [36, 97, 32, 38, 38, 32, 36, 98, 32, 38, 38, 32, 36, 99])), (7, (.str [40, 36, 97, 32, 38, 38, 32, 36, 98, 41, 32, 38, 38, 32, 36, 99])), (8, (.str [45, 32, 49, 32, 42, 32, 50])), (9, (.str [40, 45, 32, 49, 41, 32, 42, 32, 50])), (10, (.str [33, 32, 36, 97, 32, 61, 61, 32, 36, 98])), (11, (.str [40, 33, 32, 36, 97, 41, 32, 61, 61, 32, 36, 98])), (12, (.str [33, 32, 45, 32, 36, 97, 32, 46, 32, 120])), (13, (.str [33, 32, 40, 45, 32, 40, 36, 97, 46, 120, 41, 41])), (14, (.str [49, 32, 43, 32, 50, 32, 61, 61, 32, 51, 32, 45, 32, 48])), (15, (.str [40, 49, 32, 43, 32, 50, 41, 32, 61, 61, 32, 40, 51, 32, 45, 32, 48, 41])), (16, (.str [36, 97, 46, 120, 46, 121])), (17, (.str [40, 36, 97, 46, 120, 41, 46, 121])), (18, (.str [49, 32, 37, 32, 50, 32, 47, 32, 51, 32, 42, 32, 52])), (19, (.str [40, 40, 49, 32, 37, 32, 50, 41, 32, 47, 32, 51, 41, 32, 42, 32, 52])), (20, (.str [91, 49, 44, 32, 91, 50, 93, 93])), (21, (.str [91, 40, 49, 41, 44, 32, 91, 40, 50, 41, 93, 93])), (22, (.str [115, 105, 122, 101, 40, 36, 97, 41, 32, 43, 32, 49])), (23, (.str [40, 115, 105, 122, 101, 40, 36, 97, 41, 41, 32, 43, 32, 49])), (24, (.str [104, 97, 115, 40, 91, 49, 93, 44, 32, 120, 41, 32, 61, 61, 32, 116, 114, 117, 101])), (25, (.str [40, 104, 97, 115, 40, 91, 49, 93, 44, 32, 120, 41, 41, 32, 61, 61, 32, 116, 114, 117, 101]))]) fun v1 h => l3_8 call n n v1 (.int .i64 0) h K

/-! ### 4 proctor/proctorlaw5.ParseLimits -/
noncomputable def p4_56001 (call : CallFn) (n : Nat) (x163 x164 : AV) (h : AHeap) (K : Kont) : Bool :=
  pickK x163 x164 (.bool false) fun v118 => K v118 h
set_option maxRecDepth 100000 in
noncomputable def p4_54001 (call : CallFn) (n : Nat) (x6 x8 x9 x10 x14 x16 x17 x18 x20 x23 x84 : AV) (h : AHeap) (K : Kont) : Bool :=
  extK 0 x84 fun v51 => extK 1 x84 fun v52 => extK 2 x84 fun v53 => allocK h [.nilSlc, .nilSlc, .nilSlc] 3 fun v54 h => optPK (unit (storeA h 3 v54 v51)) fun _ h => eqlK x6 (.int .i64 0) fun v56 => gK v56 true (optK (some x9)) fun v57 => gK v56 true (eqlK v57 (.int .i64 20)) fun v58 => pickK v56 v58 (.bool false) fun v59 => gK v59 true (optK (some x8)) fun v60 => gK v59 true (eqlK v60 (.int .i64 30)) fun v61 => pickK v59 v61 (.bool false) fun v62 => gK v62 true (optK (some x14)) fun v63 => gK v62 true (eqlK v63 (.int .i64 0)) fun v64 => pickK v62 v64 (.bool false) fun v65 => gK v65 true (optK (some x17)) fun v66 => gK v65 true (eqlK v66 (.int .i64 20)) fun v67 => pickK v65 v67 (.bool false) fun v68 => gK v68 true (optK (some x16)) fun v69 => gK v68 true (optK (some x10)) fun v70 => gK v68 true (lenSK v70) fun v71 => gK v68 true (addK v71 (.int .i64 2)) fun v72 => gK v68 true (eqlK v69 v72) fun v73 => pickK v68 v73 (.bool false) fun v74 => gK v74 true (optK (some x20)) fun v75 => gK v74 true (eqlK v75 (.int .i64 0)) fun v76 => pickK v74 v76 (.bool false) fun v77 => gK v77 true (fadrK 1 x18) fun v78 => gK v77 true (loadK h v78) fun v79 => gK v77 true (iadrK h 8 v79 (.int .i64 0)) fun v80 => gK v77 true (fadrK 1 v80) fun v81 => gK v77 true (loadK h v81) fun v82 => gK v77 true (eqlK v82 (.int .i64 (-2147483648))) fun v83 => pickK v77 v83 (.bool false) fun v84 => gK v84 true (fadrK 1 x18) fun v85 => gK v84 true (loadK h v85) fun v86 => gK v84 true (iadrK h 8 v86 (.int .i64 1)) fun v87 => gK v84 true (fadrK 1 v87) fun v88 => gK v84 true (loadK h v88) fun v89 => gK v84 true (eqlK v89 (.int .i64 3)) fun v90 => pickK v84 v90 (.bool false) fun v91 => gK v91 true (fadrK 1 x18) fun v92 => gK v91 true (loadK h v92) fun v93 => gK v91 true (iadrK h 8 v93 (.int .i64 1)) fun v94 => gK v91 true (fadrK 4 v94) fun v95 => gK v91 true (loadK h v95) fun v96 => pickK v91 v96 (.bool false) fun v97 => gK v97 true (fadrK 1 x18) fun v98 => gK v97 true (loadK h v98) fun v99 => gK v97 true (iadrK h 8 v99 (.int .i64 1)) fun v100 => gK v97 true (fadrK 5 v100) fun v101 => gK v97 true (loadK h v101) fun v102 => pickK v97 v102 (.bool false) fun v103 => gK v103 true (fadrK 1 x18) fun v104 => gK v103 true (loadK h v104) fun v105 => gK v103 true (iadrK h 8 v105 (.int .i64 1)) fun v106 => gK v103 true (fadrK 2 v106) fun v107 => gK v103 true (loadK h v107) fun v108 => gK v103 true (eqlK v108 (.str [103])) fun v109 => pickK v103 v109 (.bool false) fun v110 => gK v110 true (optK (some x23)) fun v111 => gK v110 true (eqlK v111 (.int .i64 20)) fun v112 => pickK v110 v112 (.bool false) fun v113 => gK v113 true (optK (some v53)) fun v114 => gK v113 true (eqlK v114 (.int .i64 20)) fun v115 => pickK v113 v115 (.bool false) fun v116 => gP v116 true (fun k => call (.func 7) [] h (pz K k)) h fun v117 h => p4_56001 call n v116 v117 h K
noncomputable def p4_52001 (call : CallFn) (n : Nat) (x6 x8 x9 x10 x14 x16 x17 x18 x20 x79 : AV) (h : AHeap) (K : Kont) : Bool :=
  extK 0 x79 fun v45 => extK 1 x79 fun v46 => extK 2 x79 fun v47 => allocK h [.nilSlc, .nilSlc, .nilSlc] 3 fun v48 h => optPK (unit (storeA h 3 v48 v45)) fun _ h => call (.func 8) [(.str [114, 117, 108, 101, 32, 34, 34, 32, 119, 104, 101, 110, 32, 116, 104, 101, 110, 32, 117, 112, 100, 97, 116, 101, 32, 36, 120, 32, 123, 32, 125, 59, 32, 101, 110, 100])] h <| pz K fun v50 h => p4_54001 call n x6 x8 x9 x10 x14 x16 x17 x18 x20 v47 v50 h K
noncomputable def p4_50001 (call : CallFn) (n : Nat) (x6 x8 x9 x10 x14 x16 x17 x74 : AV) (h : AHeap) (K : Kont) : Bool :=
  extK 0 x74 fun v39 => extK 1 x74 fun v40 => extK 2 x74 fun v41 => allocK h [.nilSlc, .nilSlc, .nilSlc] 3 fun v42 h => optPK (unit (storeA h 3 v42 v39)) fun _ h => call (.func 8) [(.str [114, 117, 108, 101, 32, 34, 34, 32, 115, 97, 108, 105, 101, 110, 99, 101, 32, 50, 49, 52, 55, 52, 56, 51, 54, 52, 57, 32, 119, 104, 101, 110, 32, 116, 104, 101, 110, 32, 101, 110, 100])] h <| pz K fun v44 h => p4_52001 call n x6 x8 x9 x10 x14 x16 x17 v42 v41 v44 h K
noncomputable def p4_48001 (call : CallFn) (n : Nat) (x6 x8 x9 x10 x14 x69 : AV) (h : AHeap) (K : Kont) : Bool :=
  extK 0 x69 fun v33 => extK 1 x69 fun v34 => extK 2 x69 fun v35 => allocK h [.int .i64 0, .str [], .int .i64 0, .bool false, .int .i64 0, .str [], .nilSlc, .nilSlc] 8 fun v36 h => optPK (unit (storeA h 8 v36 v33)) fun _ h => call (.func 8) [(.str [114, 117, 108, 101, 32, 34, 34, 32, 115, 97, 108, 105, 101, 110, 99, 101, 32, 45, 50, 49, 52, 55, 52, 56, 51, 54, 52, 56, 32, 119, 104, 101, 110, 32, 116, 104, 101, 110, 32, 101, 110, 100, 32, 114, 117, 108, 101, 32, 34, 120, 34, 32, 115, 97, 108, 105, 101, 110, 99, 101, 32, 50, 49, 52, 55, 52, 56, 51, 54, 52, 56, 32, 110, 111, 108, 111, 111, 112, 32, 108, 111, 99, 107, 32, 103, 114, 111, 117, 112, 32, 34, 103, 34, 32, 102, 108, 111, 119, 32, 34, 102, 34, 32, 115, 97, 108, 105, 101, 110, 99, 101, 32, 51, 32, 119, 104, 101, 110, 32, 116, 104, 101, 110, 32, 104, 97, 108, 116, 59, 32, 101, 110, 100])] h <| pz K fun v38 h => p4_50001 call n x6 x8 x9 x10 x14 v34 v35 v38 h K
noncomputable def p4_46001 (call : CallFn) (n : Nat) (x6 x8 x9 x10 x62 : AV) (h : AHeap) (K : Kont) : Bool :=
  extK 0 x62 fun v26 => extK 1 x62 fun v27 => extK 2 x62 fun v28 => allocK h [.int .i64 0, .str [], .int .i64 0, .bool false, .int .i64 0, .str [], .nilSlc, .nilSlc] 8 fun v29 h => optPK (unit (storeA h 8 v29 v26)) fun _ h => addK x10 (.str [43, 49, 43, 49]) fun v31 => call (.func 5) [v31] h <| pz K fun v32 h => p4_48001 call n x6 x8 x9 x10 v28 v32 h K
noncomputable def p4_44 (call : CallFn) (n : Nat) (x6 x8 x9 x10 : AV) (h : AHeap) (K : Kont) : Bool :=
  addK x10 (.str [43, 49]) fun v24 => call (.func 5) [v24] h <| pz K fun v25 h => p4_46001 call n x6 x8 x9 x10 v25 h K
noncomputable def b4_33 (call : CallFn) (n : Nat) (B33 : F5) (x6 x8 x9 x10 x11 : AV) (h : AHeap) (K : Kont) : Bool :=
  lssK x11 (.int .i64 30) fun v21 => condK v21 (addK x10 (.str [43, 49]) fun v22 => addK x11 (.int .i64 1) fun v23 => B33 x6 x8 x9 v22 v23 h) (p4_44 call n x6 x8 x9 x10 h K)
noncomputable def l4_33 (call : CallFn) (n : Nat) : Nat → AV → AV → AV → AV → AV → AHeap → Kont → Bool :=
  @Nat.rec (fun _ => AV → AV → AV → AV → AV → AHeap → Kont → Bool) (fun _ _ _ _ _ _ _ => false) (fun _ ih x6 x8 x9 x10 x11 h K => b4_33 call n (fun x6 x8 x9 x10 x11 h => ih x6 x8 x9 x10 x11 h K) x6 x8 x9 x10 x11 h K)
noncomputable def p4_27001 (call : CallFn) (n : Nat) (x6 x49 : AV) (h : AHeap) (K : Kont) : Bool :=
  extK 0 x49 fun v16 => extK 1 x49 fun v17 => extK 2 x49 fun v18 => allocK h [.int .i64 0, .str [], .int .i64 0, .bool false, .int .i64 0, .str [], .nilSlc, .nilSlc] 8 fun v19 h => optPK (unit (storeA h 8 v19 v16)) fun _ h => l4_33 call n n x6 v17 v18 (.str [49]) (.int .i64 2) h K
noncomputable def p4_25001 (call : CallFn) (n : Nat) (x1 x2 x40 : AV) (h : AHeap) (K : Kont) : Bool :=
  extK 0 x40 fun v8 => extK 1 x40 fun v9 => extK 2 x40 fun v10 => allocK h [.int .i64 0, .str [], .int .i64 0, .bool false, .int .i64 0, .str [], .nilSlc, .nilSlc] 8 fun v11 h => optPK (unit (storeA h 8 v11 v8)) fun _ h => addK x1 (.str [40, 49, 41]) fun v13 => addK v13 x2 fun v14 => call (.func 5) [v14] h <| pz K fun v15 h => p4_27001 call n v10 v15 h K
noncomputable def p4_23 (call : CallFn) (n : Nat) (x1 x2 : AV) (h : AHeap) (K : Kont) : Bool :=
  addK x1 (.str [49]) fun v5 => addK v5 x2 fun v6 => call (.func 5) [v6] h <| pz K fun v7 h => p4_25001 call n x1 x2 v7 h K
noncomputable def b4_10 (call : CallFn) (n : Nat) (B10 : F3) (x1 x2 x3 : AV) (h : AHeap) (K : Kont) : Bool :=
  lssK x3 (.int .i64 30) fun v1 => condK v1 (addK x1 (.str [40]) fun v2 => addK x2 (.str [41]) fun v3 => addK x3 (.int .i64 1) fun v4 => B10 v2 v3 v4 h) (p4_23 call n x1 x2 h K)
noncomputable def l4_10 (call : CallFn) (n : Nat) : Nat → AV → AV → AV → AHeap → Kont → Bool :=
  @Nat.rec (fun _ => AV → AV → AV → AHeap → Kont → Bool) (fun _ _ _ _ _ => false) (fun _ ih x1 x2 x3 h K => b4_10 call n (fun x1 x2 x3 h => ih x1 x2 x3 h K) x1 x2 x3 h K)
noncomputable def s4 (call : CallFn) (n : Nat) (h : AHeap) (K : Kont) : Bool :=
  l4_10 call n n (.str []) (.str []) (.int .i64 0) h K

/-! ### 5 proctor/parse.Expr -/
noncomputable def p5_6001 (call : CallFn) (n : Nat) (x2 x5 x11 : AV) (h : AHeap) (K : Kont) : Bool :=
  extK 0 x11 fun v5 => extK 1 x11 fun v6 => neqK v6 (.int .i64 0) fun v7 => condK v7 (optK (buildV [.int .i64 0, .str [], .int .i64 0, .bool false, .int .i64 0, .str [], .nilSlc, .nilSlc] []) fun v8 => optPK (unit (storeA h 8 x2 v8)) fun _ h => optR (resV h [(x2, some (true, 8)), (v5, none), (v6, none)]) h K) (loadGK h 8 x5 fun v10 => optPK (unit (storeA h 8 x2 v10)) fun _ h => optR (resV h [(x2, some (true, 8)), ((.int .i64 0), none), ((.int .i64 0), none)]) h K)
noncomputable def s5 (call : CallFn) (n : Nat) (x0 : AV) (h : AHeap) (K : Kont) : Bool :=
  allocK h [.int .i64 0, .str [], .int .i64 0, .bool false, .int .i64 0, .str [], .nilSlc, .nilSlc] 8 fun v1 h => allocK h [.int .i64 0, .str [], .int .i64 0, .bool false, .int .i64 0, .str [], .nilSlc, .nilSlc] 8 fun v2 h => optK (some (.fn (.func 10) [] [v2])) fun v3 => call (.func 9) [x0, v3] h <| pz K fun v4 h => p5_6001 call n v1 v2 v4 h K

/-! ### 6 proctor/proctorref0.EqExpr -/
noncomputable def p6_4002 (call : CallFn) (n : Nat) (x24 x29 : AV) (h : AHeap) (K : Kont) : Bool :=
  pickK x24 x29 (.bool false) fun v25 => K v25 h
noncomputable def p6_4001 (call : CallFn) (n : Nat) (x2 x3 x17 x22 : AV) (h : AHeap) (K : Kont) : Bool :=
  pickK x17 x22 (.bool false) fun v19 => gK v19 true (fadrK 7 x2) fun v20 => gK v19 true (loadK h v20) fun v21 => gK v19 true (fadrK 7 x3) fun v22 => gK v19 true (loadK h v22) fun v23 => gP v19 true (fun k => call (.func 13) [v21, v23] h (pz K k)) h fun v24 h => p6_4002 call n v19 v24 h K
noncomputable def s6 (call : CallFn) (n : Nat) (x0 x1 : AV) (h : AHeap) (K : Kont) : Bool :=
  optPK (boxA h 8 x0) fun v1 h => optPK (boxA h 8 x1) fun v2 h => fadrK 0 v1 fun v3 => loadK h v3 fun v4 => fadrK 0 v2 fun v5 => loadK h v5 fun v6 => eqlK v4 v6 fun v7 => gK v7 true (fadrK 1 v1) fun v8 => gK v7 true (loadK h v8) fun v9 => gK v7 true (fadrK 1 v2) fun v10 => gK v7 true (loadK h v10) fun v11 => gK v7 true (eqlK v9 v11) fun v12 => pickK v7 v12 (.bool false) fun v13 => gK v13 true (fadrK 2 v1) fun v14 => gK v13 true (loadGK h 5 v14) fun v15 => gK v13 true (fadrK 2 v2) fun v16 => gK v13 true (loadGK h 5 v16) fun v17 => gP v13 true (fun k => call (.func 12) [v15, v17] h (pz K k)) h fun v18 h => p6_4001 call n v1 v2 v13 v18 h K

/-! ### 7 proctor/proctorlaw5.wakes -/
noncomputable def p7_6001 (call : CallFn) (n : Nat) (x1 x3 x13 : AV) (h : AHeap) (K : Kont) : Bool :=
  extK 0 x13 fun v8 => extK 1 x13 fun v9 => extK 2 x13 fun v10 => allocK h [.nilSlc, .nilSlc, .nilSlc] 3 fun v11 h => optPK (unit (storeA h 3 v11 v8)) fun _ h => eqlK x3 (.int .i64 0) fun v13 => gK v13 true (fadrK 1 x1) fun v14 => gK v13 true (loadK h v14) fun v15 => gK v13 true (lenK v15) fun v16 => gK v13 true (eqlK v16 (.int .i64 1)) fun v17 => pickK v13 v17 (.bool false) fun v18 => gK v18 true (fadrK 1 x1) fun v19 => gK v18 true (loadK h v19) fun v20 => gK v18 true (iadrK h 8 v20 (.int .i64 0)) fun v21 => gK v18 true (fadrK 1 v21) fun v22 => gK v18 true (loadK h v22) fun v23 => gK v18 true (eqlK v23 (.int .i64 (-2))) fun v24 => pickK v18 v24 (.bool false) fun v25 => gK v25 true (fadrK 1 x1) fun v26 => gK v25 true (loadK h v26) fun v27 => gK v25 true (iadrK h 8 v27 (.int .i64 0)) fun v28 => gK v25 true (fadrK 6 v28) fun v29 => gK v25 true (loadK h v29) fun v30 => gK v25 true (lenK v30) fun v31 => gK v25 true (eqlK v31 (.int .i64 2)) fun v32 => pickK v25 v32 (.bool false) fun v33 => gK v33 true (optK (some v10)) fun v34 => gK v33 true (eqlK v34 (.int .i64 20)) fun v35 => pickK v33 v35 (.bool false) fun v36 => gK v36 true (optK (some v9)) fun v37 => gK v36 true (eqlK v37 (.int .i64 4)) fun v38 => pickK v36 v38 (.bool false) fun v39 => K v39 h
noncomputable def p7_4001 (call : CallFn) (n : Nat) (x8 : AV) (h : AHeap) (K : Kont) : Bool :=
  extK 0 x8 fun v2 => extK 1 x8 fun v3 => extK 2 x8 fun v4 => allocK h [.nilSlc, .nilSlc, .nilSlc] 3 fun v5 h => optPK (unit (storeA h 3 v5 v2)) fun _ h => call (.func 8) [(.str [114, 117, 108, 101])] h <| pz K fun v7 h => p7_6001 call n v5 v4 v7 h K
noncomputable def s7 (call : CallFn) (n : Nat) (h : AHeap) (K : Kont) : Bool :=
  call (.func 8) [(.str [114, 117, 108, 101, 32, 34, 114, 34, 32, 115, 97, 108, 105, 101, 110, 99, 101, 32, 45, 50, 32, 119, 104, 101, 110, 32, 36, 112, 32, 58, 32, 80, 40, 120, 32, 62, 32, 49, 44, 32, 36, 121, 32, 58, 32, 121, 41, 32, 110, 111, 116, 32, 40, 81, 40, 122, 32, 61, 61, 32, 36, 121, 41, 41, 32, 116, 104, 101, 110, 32, 105, 110, 115, 101, 114, 116, 32, 82, 32, 123, 32, 97, 32, 61, 32, 36, 121, 32, 43, 32, 49, 32, 125, 59, 32, 101, 110, 100])] h <| pz K fun v1 h => p7_4001 call n v1 h K

/-! ### 8 proctor/parse.Parse -/
noncomputable def p8_6001 (call : CallFn) (n : Nat) (x2 x5 x11 : AV) (h : AHeap) (K : Kont) : Bool :=
  extK 0 x11 fun v5 => extK 1 x11 fun v6 => neqK v6 (.int .i64 0) fun v7 => condK v7 (optK (buildV [.nilSlc, .nilSlc, .nilSlc] []) fun v8 => optPK (unit (storeA h 3 x2 v8)) fun _ h => optR (resV h [(x2, some (true, 3)), (v5, none), (v6, none)]) h K) (loadGK h 3 x5 fun v10 => optPK (unit (storeA h 3 x2 v10)) fun _ h => optR (resV h [(x2, some (true, 3)), ((.int .i64 0), none), ((.int .i64 0), none)]) h K)
noncomputable def s8 (call : CallFn) (n : Nat) (x0 : AV) (h : AHeap) (K : Kont) : Bool :=
  allocK h [.nilSlc, .nilSlc, .nilSlc] 3 fun v1 h => allocK h [.nilSlc, .nilSlc, .nilSlc] 3 fun v2 h => optK (some (.fn (.func 14) [] [v2])) fun v3 => call (.func 9) [x0, v3] h <| pz K fun v4 h => p8_6001 call n v1 v2 v4 h K

/-! ### 9 proctor/parse.caught -/
noncomputable def p9_14001 (call : CallFn) (n : Nat) (x21 : AV) (h : AHeap) (K : Kont) : Bool :=
  extK 0 x21 fun v8 => extK 1 x21 fun v9 => K (.tup [v8, v9]) h
noncomputable def p9_4001 (call : CallFn) (n : Nat) (x0 x1 x9 : AV) (h : AHeap) (K : Kont) : Bool :=
  extK 0 x9 fun v2 => extK 1 x9 fun v3 => extK 2 x9 fun v4 => neqK v4 (.int .i64 0) fun v5 => condK v5 (K (.tup [v3, v4]) h) (lenSK x0 fun v6 => call (.func 17) [v2, v6, x1] h <| pz K fun v7 h => p9_14001 call n v7 h K)
noncomputable def s9 (call : CallFn) (n : Nat) (x0 x1 : AV) (h : AHeap) (K : Kont) : Bool :=
  call (.func 16) [x0] h <| pz K fun v1 h => p9_4001 call n x0 x1 v1 h K

/-! ### 10 proctor/parse.Expr$1 -/
noncomputable def p10_1001 (call : CallFn) (n : Nat) (x1 x4 : AV) (h : AHeap) (K : Kont) : Bool :=
  optPK (unit (storeA h 8 x1 x4)) fun _ h => K (.tup []) h
noncomputable def s10 (call : CallFn) (n : Nat) (x0 x1 : AV) (h : AHeap) (K : Kont) : Bool :=
  call (.func 11) [x0] h <| pz K fun v1 h => p10_1001 call n x1 v1 h K

/-! ### 11 (*proctor/parse.parser).expr -/
noncomputable def p11_4001 (call : CallFn) (n : Nat) (x2 x4 : AV) (h : AHeap) (K : Kont) : Bool :=
  optK (fldA true 0 8 x4) fun v3 => optPK (unit (storeA h 8 x2 v3)) fun _ h => optR (resV h [(x2, some (true, 8))]) h K
noncomputable def s11 (call : CallFn) (n : Nat) (x0 : AV) (h : AHeap) (K : Kont) : Bool :=
  allocK h [.int .i64 0, .str [], .int .i64 0, .bool false, .int .i64 0, .str [], .nilSlc, .nilSlc] 8 fun v1 h => call (.func 18) [x0, (.int .i64 0)] h <| pz K fun v2 h => p11_4001 call n v1 v2 h K

/-! ### 12 proctor/proctorref0.Same -/
noncomputable def p12_4001 (call : CallFn) (n : Nat) (x31 x36 : AV) (h : AHeap) (K : Kont) : Bool :=
  pickK x31 x36 (.bool false) fun v31 => K v31 h
noncomputable def s12 (call : CallFn) (n : Nat) (x0 x1 : AV) (h : AHeap) (K : Kont) : Bool :=
  optPK (boxA h 5 x0) fun v1 h => optPK (boxA h 5 x1) fun v2 h => fadrK 0 v1 fun v3 => loadK h v3 fun v4 => fadrK 0 v2 fun v5 => loadK h v5 fun v6 => eqlK v4 v6 fun v7 => gK v7 true (fadrK 1 v1) fun v8 => gK v7 true (loadK h v8) fun v9 => gK v7 true (fadrK 1 v2) fun v10 => gK v7 true (loadK h v10) fun v11 => gK v7 true (optK (eqV h false .bool v9 v11)) fun v12 => pickK v7 v12 (.bool false) fun v13 => gK v13 true (fadrK 2 v1) fun v14 => gK v13 true (loadK h v14) fun v15 => gK v13 true (fadrK 2 v2) fun v16 => gK v13 true (loadK h v16) fun v17 => gK v13 true (eqlK v15 v17) fun v18 => pickK v13 v18 (.bool false) fun v19 => gK v19 true (fadrK 3 v1) fun v20 => gK v19 true (loadK h v20) fun v21 => gK v19 true (fadrK 3 v2) fun v22 => gK v19 true (loadK h v22) fun v23 => gK v19 true (eqlK v21 v23) fun v24 => pickK v19 v24 (.bool false) fun v25 => gK v25 true (fadrK 4 v1) fun v26 => gK v25 true (loadK h v26) fun v27 => gK v25 true (fadrK 4 v2) fun v28 => gK v25 true (loadK h v28) fun v29 => gP v25 true (fun k => call (.func 19) [v27, v29] h (pz K k)) h fun v30 h => p12_4001 call n v25 v30 h K

/-! ### 13 proctor/proctorref0.EqExprs -/
noncomputable def b13_14 (call : CallFn) (n : Nat) (B14 : F3) (x0 x1 x5 : AV) (h : AHeap) (K : Kont) : Bool :=
  lenK x0 fun v4 => lssK x5 v4 fun v5 => condK v5 (iadrK h 8 x0 x5 fun v6 => loadGK h 8 v6 fun v7 => iadrK h 8 x1 x5 fun v8 => loadGK h 8 v8 fun v9 => call (.func 6) [v7, v9] h <| pz K fun v10 h => notK v10 fun v11 => condK v11 (K (.bool false) h) (addK x5 (.int .i64 1) fun v12 => B14 x0 x1 v12 h)) (K (.bool true) h)
noncomputable def l13_14 (call : CallFn) (n : Nat) : Nat → AV → AV → AV → AHeap → Kont → Bool :=
  @Nat.rec (fun _ => AV → AV → AV → AHeap → Kont → Bool) (fun _ _ _ _ _ => false) (fun _ ih x0 x1 x5 h K => b13_14 call n (fun x0 x1 x5 h => ih x0 x1 x5 h K) x0 x1 x5 h K)
noncomputable def p13_10 (call : CallFn) (n : Nat) (x0 x1 : AV) (h : AHeap) (K : Kont) : Bool :=
  l13_14 call n n x0 x1 (.int .i64 0) h K
noncomputable def s13 (call : CallFn) (n : Nat) (x0 x1 : AV) (h : AHeap) (K : Kont) : Bool :=
  lenK x0 fun v1 => lenK x1 fun v2 => neqK v1 v2 fun v3 => condK v3 (K (.bool false) h) (p13_10 call n x0 x1 h K)

/-! ### 14 proctor/parse.Parse$1 -/
noncomputable def p14_1001 (call : CallFn) (n : Nat) (x1 x4 : AV) (h : AHeap) (K : Kont) : Bool :=
  optPK (unit (storeA h 3 x1 x4)) fun _ h => K (.tup []) h
noncomputable def s14 (call : CallFn) (n : Nat) (x0 x1 : AV) (h : AHeap) (K : Kont) : Bool :=
  call (.func 15) [x0] h <| pz K fun v1 h => p14_1001 call n x1 v1 h K

/-! ### 15 (*proctor/parse.parser).base -/
noncomputable def p15_26 (call : CallFn) (n : Nat) (x2 x3 : AV) (h : AHeap) (K : Kont) : Bool :=
  loadGK h 3 x3 fun v36 => optPK (unit (storeA h 3 x2 v36)) fun _ h => optR (resV h [(x2, some (true, 3))]) h K
set_option maxRecDepth 100000 in
noncomputable def b15_6 (call : CallFn) (n : Nat) (B6 : F3) (x0 x2 x3 : AV) (h : AHeap) (K : Kont) : Bool :=
  nilckK x0 fun v3 => fadrK 1 v3 fun v4 => loadK h v4 fun v5 => nilckK x0 fun v6 => fadrK 0 v6 fun v7 => loadK h v7 fun v8 => lenK v8 fun v9 => lssK v5 v9 fun v10 => condK v10 (call (.func 20) [x0, (.str [99, 108, 97, 115, 115])] h <| pz K fun v11 h => condK v11 (fadrK 0 x3 fun v12 => loadK h v12 fun v13 => call (.func 21) [x0] h <| pz K fun v14 h => loadK h v12 <| sameK v13 <| optPK (bsliceV h 1 3 [.str [], .str [], .nilSlc] [(0, v14)]) fun v15 h => loadK h v12 <| sameK v13 <| optPK (appendA h 3 56 v13 v15) fun v16 h => fadrK 0 x3 fun v17 => storeK h v17 v16 fun h => B6 x0 x2 x3 h) (call (.func 20) [x0, (.str [114, 117, 108, 101])] h <| pz K fun v19 h => condK v19 (fadrK 1 x3 fun v20 => loadK h v20 fun v21 => call (.func 22) [x0] h <| pz K fun v22 h => loadK h v20 <| sameK v21 <| optPK (bsliceV h 1 8 [.str [], .int .i64 0, .str [], .str [], .bool false, .bool false, .nilSlc, .nilSlc] [(0, v22)]) fun v23 h => loadK h v20 <| sameK v21 <| optPK (appendA h 8 112 v21 v23) fun v24 h => fadrK 1 x3 fun v25 => storeK h v25 v24 fun h => B6 x0 x2 x3 h) (optPK (bsliceV h 1 1 [.str []] [(0, (.str [113, 117, 101, 114, 121]))]) fun v27 h => call (.func 23) [x0, v27] h <| pz K fun v28 h => fadrK 2 x3 fun v29 => loadK h v29 fun v30 => call (.func 24) [x0] h <| pz K fun v31 h => loadK h v29 <| sameK v30 <| optPK (bsliceV h 1 3 [.str [], .nilSlc, .nilSlc] [(0, v31)]) fun v32 h => loadK h v29 <| sameK v30 <| optPK (appendA h 3 64 v30 v32) fun v33 h => fadrK 2 x3 fun v34 => storeK h v34 v33 fun h => B6 x0 x2 x3 h))) (p15_26 call n x2 x3 h K)
noncomputable def l15_6 (call : CallFn) (n : Nat) : Nat → AV → AV → AV → AHeap → Kont → Bool :=
  @Nat.rec (fun _ => AV → AV → AV → AHeap → Kont → Bool) (fun _ _ _ _ _ => false) (fun _ ih x0 x2 x3 h K => b15_6 call n (fun x0 x2 x3 h => ih x0 x2 x3 h K) x0 x2 x3 h K)
noncomputable def s15 (call : CallFn) (n : Nat) (x0 : AV) (h : AHeap) (K : Kont) : Bool :=
  allocK h [.nilSlc, .nilSlc, .nilSlc] 3 fun v1 h => allocK h [.nilSlc, .nilSlc, .nilSlc] 3 fun v2 h => l15_6 call n n x0 v1 v2 h K

/-! ### 16 proctor/lex.Lex -/
noncomputable def p16_12001 (call : CallFn) (n : Nat) (x9 : AV) (h : AHeap) (K : Kont) : Bool :=
  extK 0 x9 fun v4 => extK 1 x9 fun v5 => extK 2 x9 fun v6 => K (.tup [v4, v5, v6]) h
noncomputable def s16 (call : CallFn) (n : Nat) (x0 : AV) (h : AHeap) (K : Kont) : Bool :=
  lenSK x0 fun v1 => gtrK v1 (.int .i64 65536) fun v2 => condK v2 (K (.tup [.nilSlc, (.int .i64 0), (.int .i64 21)]) h) (call (.func 25) [x0] h <| pz K fun v3 h => p16_12001 call n v3 h K)

/-! ### 18 (*proctor/parse.parser).level -/
noncomputable def p18_8001 (call : CallFn) (n : Nat) (x4 x13 : AV) (h : AHeap) (K : Kont) : Bool :=
  optPK (unit (storeA h 9 x4 x13)) fun _ h => optR (resV h [(x4, some (true, 9))]) h K
set_option maxRecDepth 100000 in
noncomputable def p18_17002 (call : CallFn) (n : Nat) (B13 : F4) (x0 x1 x4 x5 x19 x21 : AV) (h : AHeap) (K : Kont) : Bool :=
  allocK h [.int .i64 0, .str [], .int .i64 0, .int .i64 0] 4 fun v11 h => optPK (unit (storeA h 4 v11 x21)) fun _ h => nilckK x0 fun v13 => fadrK 4 v13 fun v14 => loadK h v14 fun v15 => optK (lookA h (.leaf .int) false .nilMap v15 x1) fun v16 => fadrK 1 v11 fun v17 => loadK h v17 fun v18 => optK (lookA h (.leaf .str) true (.int .i64 0) v16 v18) fun v19 => extK 0 v19 fun v20 => extK 1 v19 fun v21 => notK v21 fun v22 => gK v22 false (fadrK 0 v11) fun v23 => gK v22 false (loadK h v23) fun v24 => gK v22 false (neqK v24 (.int .i64 4)) fun v25 => pickK v22 (.bool true) v25 fun v26 => condK v26 (loadGK h 9 x5 fun v27 => optPK (unit (storeA h 9 x4 v27)) fun _ h => optR (resV h [(x4, some (true, 9))]) h K) (nilckK x0 fun v29 => fadrK 1 v29 fun v30 => loadK h v30 fun v31 => addK v31 (.int .i64 1) fun v32 => nilckK x0 fun v33 => fadrK 1 v33 fun v34 => storeK h v34 v32 fun h => optK (buildV [.int .i64 0, .str [], .int .i64 0, .bool false, .int .i64 0, .str [], .nilSlc, .nilSlc] [(0, 1, v20)]) fun v36 => loadGK h 9 x5 fun v37 => addK x1 (.int .i64 1) fun v38 => call (.func 18) [x0, v38] h <| pz K fun v39 h => loadGK h 9 x5 <| sameK v37 <| optPK (bsliceV h 2 9 [.int .i64 0, .str [], .int .i64 0, .bool false, .int .i64 0, .str [], .nilSlc, .nilSlc, .int .i64 0] [(0, v37), (1, v39)]) fun v40 h => loadGK h 9 x5 <| sameK v37 <| call (.func 32) [x19, v36, v40] h <| pz (goneQ [v40] K) fun v41 h => optPK (unit (storeA h 9 x5 v41)) fun _ h => eqlK x1 (.int .i64 2) fun v43 => condK v43 (loadGK h 9 x5 fun v44 => optPK (unit (storeA h 9 x4 v44)) fun _ h => optR (resV h [(x4, some (true, 9))]) h K) (B13 x0 x1 x4 x5 h))
noncomputable def p18_17001 (call : CallFn) (n : Nat) (B13 : F4) (x0 x1 x4 x5 x19 : AV) (h : AHeap) (K : Kont) : Bool :=
  call (.func 31) [x0, (.int .i64 0)] h <| pz K fun v10 h => p18_17002 call n B13 x0 x1 x4 x5 x19 v10 h K
noncomputable def b18_13 (call : CallFn) (n : Nat) (B13 : F4) (x0 x1 x4 x5 : AV) (h : AHeap) (K : Kont) : Bool :=
  call (.func 30) [x0] h <| pz K fun v9 h => p18_17001 call n B13 x0 x1 x4 x5 v9 h K
noncomputable def l18_13 (call : CallFn) (n : Nat) : Nat → AV → AV → AV → AV → AHeap → Kont → Bool :=
  @Nat.rec (fun _ => AV → AV → AV → AV → AHeap → Kont → Bool) (fun _ _ _ _ _ _ => false) (fun _ ih x0 x1 x4 x5 h K => b18_13 call n (fun x0 x1 x4 x5 h => ih x0 x1 x4 x5 h K) x0 x1 x4 x5 h K)
noncomputable def p18_12001 (call : CallFn) (n : Nat) (x0 x1 x4 x17 : AV) (h : AHeap) (K : Kont) : Bool :=
  allocK h [.int .i64 0, .str [], .int .i64 0, .bool false, .int .i64 0, .str [], .nilSlc, .nilSlc, .int .i64 0] 9 fun v7 h => optPK (unit (storeA h 9 v7 x17)) fun _ h => l18_13 call n n x0 x1 x4 v7 h K
noncomputable def p18_10 (call : CallFn) (n : Nat) (x0 x1 x4 : AV) (h : AHeap) (K : Kont) : Bool :=
  addK x1 (.int .i64 1) fun v5 => call (.func 18) [x0, v5] h <| pz K fun v6 h => p18_12001 call n x0 x1 x4 v6 h K
noncomputable def s18 (call : CallFn) (n : Nat) (x0 x1 : AV) (h : AHeap) (K : Kont) : Bool :=
  allocK h [.int .i64 0, .str [], .int .i64 0, .bool false, .int .i64 0, .str [], .nilSlc, .nilSlc, .int .i64 0] 9 fun v1 h => eqlK x1 (.int .i64 5) fun v2 => condK v2 (call (.func 29) [x0] h <| pz K fun v3 h => p18_8001 call n v1 v3 h K) (p18_10 call n x0 x1 v1 h K)

/-! ### 19 proctor/proctorref0.EqVals -/
noncomputable def b19_14 (call : CallFn) (n : Nat) (B14 : F3) (x0 x1 x5 : AV) (h : AHeap) (K : Kont) : Bool :=
  lenK x0 fun v4 => lssK x5 v4 fun v5 => condK v5 (iadrK h 5 x0 x5 fun v6 => loadGK h 5 v6 fun v7 => iadrK h 5 x1 x5 fun v8 => loadGK h 5 v8 fun v9 => call (.func 12) [v7, v9] h <| pz K fun v10 h => notK v10 fun v11 => condK v11 (K (.bool false) h) (addK x5 (.int .i64 1) fun v12 => B14 x0 x1 v12 h)) (K (.bool true) h)
noncomputable def l19_14 (call : CallFn) (n : Nat) : Nat → AV → AV → AV → AHeap → Kont → Bool :=
  @Nat.rec (fun _ => AV → AV → AV → AHeap → Kont → Bool) (fun _ _ _ _ _ => false) (fun _ ih x0 x1 x5 h K => b19_14 call n (fun x0 x1 x5 h => ih x0 x1 x5 h K) x0 x1 x5 h K)
noncomputable def p19_10 (call : CallFn) (n : Nat) (x0 x1 : AV) (h : AHeap) (K : Kont) : Bool :=
  l19_14 call n n x0 x1 (.int .i64 0) h K
noncomputable def s19 (call : CallFn) (n : Nat) (x0 x1 : AV) (h : AHeap) (K : Kont) : Bool :=
  lenK x0 fun v1 => lenK x1 fun v2 => neqK v1 v2 fun v3 => condK v3 (K (.bool false) h) (p19_10 call n x0 x1 h K)

/-! ### 20 (*proctor/parse.parser).take -/
noncomputable def p20_5001 (call : CallFn) (n : Nat) (x0 x7 : AV) (h : AHeap) (K : Kont) : Bool :=
  notK x7 fun v2 => condK v2 (K (.bool false) h) (nilckK x0 fun v3 => fadrK 1 v3 fun v4 => loadK h v4 fun v5 => addK v5 (.int .i64 1) fun v6 => nilckK x0 fun v7 => fadrK 1 v7 fun v8 => storeK h v8 v6 fun h => K (.bool true) h)
noncomputable def s20 (call : CallFn) (n : Nat) (x0 x1 : AV) (h : AHeap) (K : Kont) : Bool :=
  call (.func 33) [x0, (.int .i64 0), x1] h <| pz K fun v1 h => p20_5001 call n x0 v1 h K

/-! ### 21 (*proctor/parse.parser).class -/
noncomputable def p21_27 (call : CallFn) (n : Nat) (x0 x2 x3 : AV) (h : AHeap) (K : Kont) : Bool :=
  call (.func 38) [x0, (.str [125])] h <| pz K fun v33 h => loadGK h 3 x3 fun v34 => optPK (unit (storeA h 3 x2 v34)) fun _ h => optR (resV h [(x2, some (true, 3))]) h K
noncomputable def p21_20003 (call : CallFn) (n : Nat) (B16 : F4) (x0 x2 x3 x21 x24 x27 x29 : AV) (h : AHeap) (K : Kont) : Bool :=
  gK x24 true (pickK x27 (.bool true) x29) fun v23 => gK x21 false (pickK x24 v23 (.bool false)) fun v24 => pickK x21 (.bool true) v24 fun v25 => condK v25 (fadrK 2 x3 fun v26 => loadK h v26 fun v27 => call (.func 37) [x0] h <| pz K fun v28 h => loadK h v26 <| sameK v27 <| optPK (bsliceV h 1 3 [.str [], .int .i64 0, .str []] [(0, v28)]) fun v29 h => loadK h v26 <| sameK v27 <| optPK (appendA h 3 40 v27 v29) fun v30 h => fadrK 2 x3 fun v31 => storeK h v31 v30 fun h => B16 x0 x2 x3 (.bool false) h) (p21_27 call n x0 x2 x3 h K)
noncomputable def p21_20002 (call : CallFn) (n : Nat) (B16 : F4) (x0 x2 x3 x21 x24 x26 : AV) (h : AHeap) (K : Kont) : Bool :=
  gK x24 true (optK (some x26)) fun v20 => gK v20 false (optK (some x0)) fun v21 => gP v20 false (fun k => call (.func 36) [v21, (.int .i64 0)] h (pz K k)) h fun v22 h => p21_20003 call n B16 x0 x2 x3 x21 x24 v20 v22 h K
noncomputable def p21_20001 (call : CallFn) (n : Nat) (B16 : F4) (x0 x2 x3 x4 x16 x18 : AV) (h : AHeap) (K : Kont) : Bool :=
  gK x16 true (notK x18) fun v13 => pickK x16 v13 (.bool false) fun v14 => gK v14 false (optK (some x4)) fun v15 => gK v14 false (notK v15) fun v16 => gK v14 false (optK (some v16)) fun v17 => gK v17 true (optK (some x0)) fun v18 => gP v17 true (fun k => call (.func 20) [v18, (.str [44])] h (pz K k)) h fun v19 h => p21_20002 call n B16 x0 x2 x3 v14 v17 v19 h K
noncomputable def b21_16 (call : CallFn) (n : Nat) (B16 : F4) (x0 x2 x3 x4 : AV) (h : AHeap) (K : Kont) : Bool :=
  gK x4 true (optK (some x0)) fun v11 => gP x4 true (fun k => call (.func 33) [v11, (.int .i64 0), (.str [125])] h (pz K k)) h fun v12 h => p21_20001 call n B16 x0 x2 x3 x4 x4 v12 h K
noncomputable def l21_16 (call : CallFn) (n : Nat) : Nat → AV → AV → AV → AV → AHeap → Kont → Bool :=
  @Nat.rec (fun _ => AV → AV → AV → AV → AHeap → Kont → Bool) (fun _ _ _ _ _ _ => false) (fun _ ih x0 x2 x3 x4 h K => b21_16 call n (fun x0 x2 x3 x4 h => ih x0 x2 x3 x4 h K) x0 x2 x3 x4 h K)
noncomputable def p21_10 (call : CallFn) (n : Nat) (x0 x2 x3 : AV) (h : AHeap) (K : Kont) : Bool :=
  call (.func 35) [x0, (.str [123])] h <| pz K fun v10 h => l21_16 call n n x0 x2 x3 (.bool true) h K
noncomputable def p21_9001 (call : CallFn) (n : Nat) (x0 x2 x3 x11 : AV) (h : AHeap) (K : Kont) : Bool :=
  fadrK 1 x3 fun v8 => storeK h v8 x11 fun h => p21_10 call n x0 x2 x3 h K
noncomputable def p21_4001 (call : CallFn) (n : Nat) (x0 x2 x6 : AV) (h : AHeap) (K : Kont) : Bool :=
  optK (buildV [.str [], .str [], .nilSlc] [(0, 1, x6)]) fun v3 => allocK h [.str [], .str [], .nilSlc] 3 fun v4 h => optPK (unit (storeA h 3 v4 v3)) fun _ h => call (.func 20) [x0, (.str [101, 120, 116, 101, 110, 100, 115])] h <| pz K fun v6 h => condK v6 (call (.func 34) [x0] h <| pz K fun v7 h => p21_9001 call n x0 x2 v4 v7 h K) (p21_10 call n x0 x2 v4 h K)
noncomputable def s21 (call : CallFn) (n : Nat) (x0 : AV) (h : AHeap) (K : Kont) : Bool :=
  allocK h [.str [], .str [], .nilSlc] 3 fun v1 h => call (.func 34) [x0] h <| pz K fun v2 h => p21_4001 call n x0 v1 v2 h K

/-! ### 22 (*proctor/parse.parser).rule -/
noncomputable def p22_19001 (call : CallFn) (n : Nat) (B6 : F3) (x0 x2 x3 x18 : AV) (h : AHeap) (K : Kont) : Bool :=
  fadrK 1 x3 fun v10 => storeK h v10 x18 fun h => B6 x0 x2 x3 h
noncomputable def p22_23001 (call : CallFn) (n : Nat) (B6 : F3) (x0 x2 x3 x24 : AV) (h : AHeap) (K : Kont) : Bool :=
  fadrK 2 x3 fun v14 => storeK h v14 x24 fun h => B6 x0 x2 x3 h
noncomputable def p22_27001 (call : CallFn) (n : Nat) (B6 : F3) (x0 x2 x3 x30 : AV) (h : AHeap) (K : Kont) : Bool :=
  fadrK 3 x3 fun v18 => storeK h v18 x30 fun h => B6 x0 x2 x3 h
noncomputable def p22_49 (call : CallFn) (n : Nat) (x2 x3 : AV) (h : AHeap) (K : Kont) : Bool :=
  loadGK h 8 x3 fun v42 => optPK (unit (storeA h 8 x2 v42)) fun _ h => optR (resV h [(x2, some (true, 8))]) h K
noncomputable def p22_44001 (call : CallFn) (n : Nat) (B40 : F3) (x0 x2 x3 x44 : AV) (h : AHeap) (K : Kont) : Bool :=
  notK x44 fun v34 => condK v34 (fadrK 7 x3 fun v35 => loadK h v35 fun v36 => call (.func 42) [x0] h <| pz K fun v37 h => loadK h v35 <| sameK v36 <| optPK (bsliceV h 1 12 [.int .i64 0, .str [], .nilSlc, .int .i64 0, .str [], .int .i64 0, .bool false, .int .i64 0, .str [], .nilSlc, .nilSlc, .str []] [(0, v37)]) fun v38 h => loadK h v35 <| sameK v36 <| optPK (appendA h 12 176 v36 v38) fun v39 h => fadrK 7 x3 fun v40 => storeK h v40 v39 fun h => B40 x0 x2 x3 h) (p22_49 call n x2 x3 h K)
noncomputable def b22_40 (call : CallFn) (n : Nat) (B40 : F3) (x0 x2 x3 : AV) (h : AHeap) (K : Kont) : Bool :=
  call (.func 20) [x0, (.str [101, 110, 100])] h <| pz K fun v33 h => p22_44001 call n B40 x0 x2 x3 v33 h K
noncomputable def l22_40 (call : CallFn) (n : Nat) : Nat → AV → AV → AV → AHeap → Kont → Bool :=
  @Nat.rec (fun _ => AV → AV → AV → AHeap → Kont → Bool) (fun _ _ _ _ _ => false) (fun _ ih x0 x2 x3 h K => b22_40 call n (fun x0 x2 x3 h => ih x0 x2 x3 h K) x0 x2 x3 h K)
noncomputable def p22_36001 (call : CallFn) (n : Nat) (x0 x2 x3 x38 : AV) (h : AHeap) (K : Kont) : Bool :=
  fadrK 6 x3 fun v29 => storeK h v29 x38 fun h => optPK (bsliceV h 1 1 [.str []] [(0, (.str [116, 104, 101, 110]))]) fun v31 h => call (.func 23) [x0, v31] h <| pz K fun v32 h => l22_40 call n n x0 x2 x3 h K
noncomputable def p22_34 (call : CallFn) (n : Nat) (x0 x2 x3 : AV) (h : AHeap) (K : Kont) : Bool :=
  optPK (bsliceV h 1 1 [.str []] [(0, (.str [116, 104, 101, 110]))]) fun v27 h => call (.func 41) [x0, v27] h <| pz K fun v28 h => p22_36001 call n x0 x2 x3 v28 h K
noncomputable def p22_10001 (call : CallFn) (n : Nat) (B6 : F3) (x0 x2 x3 x8 : AV) (h : AHeap) (K : Kont) : Bool :=
  notK x8 fun v7 => condK v7 (call (.func 20) [x0, (.str [115, 97, 108, 105, 101, 110, 99, 101])] h <| pz K fun v8 h => condK v8 (call (.func 40) [x0] h <| pz K fun v9 h => p22_19001 call n B6 x0 x2 x3 v9 h K) (call (.func 20) [x0, (.str [103, 114, 111, 117, 112])] h <| pz K fun v12 h => condK v12 (call (.func 39) [x0] h <| pz K fun v13 h => p22_23001 call n B6 x0 x2 x3 v13 h K) (call (.func 20) [x0, (.str [102, 108, 111, 119])] h <| pz K fun v16 h => condK v16 (call (.func 39) [x0] h <| pz K fun v17 h => p22_27001 call n B6 x0 x2 x3 v17 h K) (call (.func 20) [x0, (.str [110, 111, 108, 111, 111, 112])] h <| pz K fun v20 h => condK v20 (fadrK 4 x3 fun v21 => storeK h v21 (.bool true) fun h => B6 x0 x2 x3 h) (optPK (bsliceV h 1 1 [.str []] [(0, (.str [108, 111, 99, 107]))]) fun v23 h => call (.func 23) [x0, v23] h <| pz K fun v24 h => fadrK 5 x3 fun v25 => storeK h v25 (.bool true) fun h => B6 x0 x2 x3 h))))) (p22_34 call n x0 x2 x3 h K)
noncomputable def b22_6 (call : CallFn) (n : Nat) (B6 : F3) (x0 x2 x3 : AV) (h : AHeap) (K : Kont) : Bool :=
  call (.func 20) [x0, (.str [119, 104, 101, 110])] h <| pz K fun v6 h => p22_10001 call n B6 x0 x2 x3 v6 h K
noncomputable def l22_6 (call : CallFn) (n : Nat) : Nat → AV → AV → AV → AHeap → Kont → Bool :=
  @Nat.rec (fun _ => AV → AV → AV → AHeap → Kont → Bool) (fun _ _ _ _ _ => false) (fun _ ih x0 x2 x3 h K => b22_6 call n (fun x0 x2 x3 h => ih x0 x2 x3 h K) x0 x2 x3 h K)
noncomputable def p22_4001 (call : CallFn) (n : Nat) (x0 x2 x5 : AV) (h : AHeap) (K : Kont) : Bool :=
  optK (buildV [.str [], .int .i64 0, .str [], .str [], .bool false, .bool false, .nilSlc, .nilSlc] [(0, 1, x5)]) fun v3 => allocK h [.str [], .int .i64 0, .str [], .str [], .bool false, .bool false, .nilSlc, .nilSlc] 8 fun v4 h => optPK (unit (storeA h 8 v4 v3)) fun _ h => l22_6 call n n x0 x2 v4 h K
noncomputable def s22 (call : CallFn) (n : Nat) (x0 : AV) (h : AHeap) (K : Kont) : Bool :=
  allocK h [.str [], .int .i64 0, .str [], .str [], .bool false, .bool false, .nilSlc, .nilSlc] 8 fun v1 h => call (.func 39) [x0] h <| pz K fun v2 h => p22_4001 call n x0 v1 v2 h K

/-! ### 23 (*proctor/parse.parser).must -/
noncomputable def p23_15001 (call : CallFn) (n : Nat) (B3 : F4) (x0 x6 x7 x8 x12 x15 : AV) (h : AHeap) (K : Kont) : Bool :=
  call (.func 28) [x12, x15] h <| pz K fun v6 h => addK x8 (.int .i64 1) fun v7 => B3 x0 x6 x7 v7 h
noncomputable def b23_3 (call : CallFn) (n : Nat) (B3 : F4) (x0 x6 x7 x8 : AV) (h : AHeap) (K : Kont) : Bool :=
  lssK x8 x7 fun v2 => condK v2 (iadrK h 1 x6 x8 fun v3 => loadK h v3 fun v4 => call (.func 20) [x0, v4] h <| pz K fun v5 h => p23_15001 call n B3 x0 x6 x7 x8 x0 v5 h K) (K (.tup []) h)
noncomputable def l23_3 (call : CallFn) (n : Nat) : Nat → AV → AV → AV → AV → AHeap → Kont → Bool :=
  @Nat.rec (fun _ => AV → AV → AV → AV → AHeap → Kont → Bool) (fun _ _ _ _ _ _ => false) (fun _ ih x0 x6 x7 x8 h K => b23_3 call n (fun x0 x6 x7 x8 h => ih x0 x6 x7 x8 h K) x0 x6 x7 x8 h K)
noncomputable def s23 (call : CallFn) (n : Nat) (x0 x1 : AV) (h : AHeap) (K : Kont) : Bool :=
  lenK x1 fun v1 => l23_3 call n n x0 x1 v1 (.int .i64 0) h K

/-! ### 24 (*proctor/parse.parser).query -/
noncomputable def p24_10001 (call : CallFn) (n : Nat) (x1 x2 x3 x14 : AV) (h : AHeap) (K : Kont) : Bool :=
  fadrK 2 x3 fun v16 => storeK h v16 x14 fun h => loadK h x1 fun v18 => optPK (bsliceV h 1 1 [.str []] [(0, (.str [101, 110, 100]))]) fun v19 h => call (.func 23) [v18, v19] h <| pz K fun v20 h => loadGK h 3 x3 fun v21 => optPK (unit (storeA h 3 x2 v21)) fun _ h => optR (resV h [(x2, some (true, 3))]) h K
noncomputable def p24_4001 (call : CallFn) (n : Nat) (x1 x2 x5 : AV) (h : AHeap) (K : Kont) : Bool :=
  optK (buildV [.str [], .nilSlc, .nilSlc] [(0, 1, x5)]) fun v5 => allocK h [.str [], .nilSlc, .nilSlc] 3 fun v6 h => optPK (unit (storeA h 3 v6 v5)) fun _ h => loadK h x1 fun v8 => call (.func 35) [v8, (.str [40])] h <| pz K fun v9 h => loadK h x1 fun v10 => optK (some (.fn (.func 44) [] [v6, x1])) fun v11 => call (.func 43) [v10, (.str [41]), v11] h <| pz K fun v12 h => loadK h x1 fun v13 => optPK (bsliceV h 1 1 [.str []] [(0, (.str [101, 110, 100]))]) fun v14 h => call (.func 41) [v13, v14] h <| pz K fun v15 h => p24_10001 call n x1 x2 v6 v15 h K
noncomputable def s24 (call : CallFn) (n : Nat) (x0 : AV) (h : AHeap) (K : Kont) : Bool :=
  boxK h x0 fun v1 h => allocK h [.str [], .nilSlc, .nilSlc] 3 fun v2 h => loadK h v1 fun v3 => call (.func 34) [v3] h <| pz K fun v4 h => p24_4001 call n v1 v2 v4 h K

/-! ### 27 proctor/parse.operators -/
set_option maxRecDepth 100000 in
noncomputable def s27 (call : CallFn) (n : Nat) (h : AHeap) (K : Kont) : Bool :=
  optPK (mkmapV h) fun v1 h => optPK (mkmapV h) fun v2 h => optPK (unit (mupdA h (.leaf .str) v2 (.str [124, 124]) (.int .i64 9))) fun _ h => optPK (unit (mupdA h (.leaf .int) v1 (.int .i64 0) v2)) fun _ h => optPK (mkmapV h) fun v5 h => optPK (unit (mupdA h (.leaf .str) v5 (.str [38, 38]) (.int .i64 8))) fun _ h => optPK (unit (mupdA h (.leaf .int) v1 (.int .i64 1) v5)) fun _ h => optPK (mkmapV h) fun v8 h => optPK (unit (mupdA h (.leaf .str) v8 (.str [61, 61]) (.int .i64 10))) fun _ h => optPK (unit (mupdA h (.leaf .str) v8 (.str [33, 61]) (.int .i64 11))) fun _ h => optPK (unit (mupdA h (.leaf .str) v8 (.str [60]) (.int .i64 12))) fun _ h => optPK (unit (mupdA h (.leaf .str) v8 (.str [60, 61]) (.int .i64 13))) fun _ h => optPK (unit (mupdA h (.leaf .str) v8 (.str [62]) (.int .i64 14))) fun _ h => optPK (unit (mupdA h (.leaf .str) v8 (.str [62, 61]) (.int .i64 15))) fun _ h => optPK (unit (mupdA h (.leaf .int) v1 (.int .i64 2) v8)) fun _ h => optPK (mkmapV h) fun v16 h => optPK (unit (mupdA h (.leaf .str) v16 (.str [43]) (.int .i64 16))) fun _ h => optPK (unit (mupdA h (.leaf .str) v16 (.str [45]) (.int .i64 17))) fun _ h => optPK (unit (mupdA h (.leaf .int) v1 (.int .i64 3) v16)) fun _ h => optPK (mkmapV h) fun v20 h => optPK (unit (mupdA h (.leaf .str) v20 (.str [42]) (.int .i64 18))) fun _ h => optPK (unit (mupdA h (.leaf .str) v20 (.str [47]) (.int .i64 19))) fun _ h => optPK (unit (mupdA h (.leaf .str) v20 (.str [37]) (.int .i64 20))) fun _ h => optPK (unit (mupdA h (.leaf .int) v1 (.int .i64 4) v20)) fun _ h => K v1 h

/-! ### 28 (*proctor/parse.parser).need -/
noncomputable def p28_4001 (call : CallFn) (n : Nat) (x7 : AV) (h : AHeap) (K : Kont) : Bool :=
  call (.func 47) [x7] h <| pz K fun v3 h => K (.tup []) h
noncomputable def s28 (call : CallFn) (n : Nat) (x0 x1 : AV) (h : AHeap) (K : Kont) : Bool :=
  notK x1 fun v1 => condK v1 (call (.func 30) [x0] h <| pz K fun v2 h => p28_4001 call n v2 h K) (K (.tup []) h)

/-! ### 29 (*proctor/parse.parser).sign -/
noncomputable def p29_18001 (call : CallFn) (n : Nat) (x2 x19 : AV) (h : AHeap) (K : Kont) : Bool :=
  optPK (unit (storeA h 9 x2 x19)) fun _ h => optR (resV h [(x2, some (true, 9))]) h K
noncomputable def p29_28001 (call : CallFn) (n : Nat) (x2 x37 : AV) (h : AHeap) (K : Kont) : Bool :=
  optPK (unit (storeA h 9 x2 x37)) fun _ h => optR (resV h [(x2, some (true, 9))]) h K
noncomputable def p29_24001 (call : CallFn) (n : Nat) (x0 x2 x3 x4 x24 : AV) (h : AHeap) (K : Kont) : Bool :=
  allocK h [.int .i64 0, .str [], .int .i64 0, .bool false, .int .i64 0, .str [], .nilSlc, .nilSlc, .int .i64 0] 9 fun v14 h => optPK (unit (storeA h 9 v14 x24)) fun _ h => nilckK x0 fun v16 => fadrK 3 v16 fun v17 => loadK h v17 fun v18 => subK v18 (.int .i64 1) fun v19 => nilckK x0 fun v20 => fadrK 3 v20 fun v21 => storeK h v21 v19 fun h => optK (buildV [.int .i64 0, .str [], .int .i64 0, .bool false, .int .i64 0, .str [], .nilSlc, .nilSlc] [(0, 1, x4)]) fun v23 => loadGK h 9 v14 fun v24 => optPK (bsliceV h 1 9 [.int .i64 0, .str [], .int .i64 0, .bool false, .int .i64 0, .str [], .nilSlc, .nilSlc, .int .i64 0] [(0, v24)]) fun v25 h => call (.func 32) [x3, v23, v25] h <| pz K fun v26 h => p29_28001 call n x2 v26 h K
noncomputable def p29_15002 (call : CallFn) (n : Nat) (x0 x2 x3 x4 x13 x15 : AV) (h : AHeap) (K : Kont) : Bool :=
  gK x13 true (notK x15) fun v8 => pickK x13 v8 (.bool false) fun v9 => condK v9 (call (.func 48) [x0] h <| pz K fun v10 h => p29_18001 call n x2 v10 h K) (call (.func 49) [x0, x3] h <| pz K fun v12 h => call (.func 29) [x0] h <| pz K fun v13 h => p29_24001 call n x0 x2 x3 x4 v13 h K)
noncomputable def p29_15001 (call : CallFn) (n : Nat) (x0 x2 x3 x4 x11 : AV) (h : AHeap) (K : Kont) : Bool :=
  notK x11 fun v5 => gK v5 true (optK (some x0)) fun v6 => gP v5 true (fun k => call (.func 20) [v6, (.str [33])] h (pz K k)) h fun v7 h => p29_15002 call n x0 x2 x3 x4 v5 v7 h K
noncomputable def p29_12 (call : CallFn) (n : Nat) (x0 x2 x3 x4 : AV) (h : AHeap) (K : Kont) : Bool :=
  call (.func 20) [x0, (.str [45])] h <| pz K fun v4 h => p29_15001 call n x0 x2 x3 x4 v4 h K
noncomputable def s29 (call : CallFn) (n : Nat) (x0 : AV) (h : AHeap) (K : Kont) : Bool :=
  allocK h [.int .i64 0, .str [], .int .i64 0, .bool false, .int .i64 0, .str [], .nilSlc, .nilSlc, .int .i64 0] 9 fun v1 h => call (.func 30) [x0] h <| pz K fun v2 h => call (.func 33) [x0, (.int .i64 0), (.str [33])] h <| pz K fun v3 h => condK v3 (p29_12 call n x0 v1 v2 (.int .i64 7) h K) (p29_12 call n x0 v1 v2 (.int .i64 6) h K)

/-! ### 30 (*proctor/parse.parser).place -/
noncomputable def s30 (call : CallFn) (n : Nat) (x0 : AV) (h : AHeap) (K : Kont) : Bool :=
  nilckK x0 fun v1 => fadrK 1 v1 fun v2 => loadK h v2 fun v3 => nilckK x0 fun v4 => fadrK 0 v4 fun v5 => loadK h v5 fun v6 => lenK v6 fun v7 => lssK v3 v7 fun v8 => condK v8 (nilckK x0 fun v9 => fadrK 0 v9 fun v10 => loadK h v10 fun v11 => nilckK x0 fun v12 => fadrK 1 v12 fun v13 => loadK h v13 fun v14 => iadrK h 4 v11 v14 fun v15 => fadrK 2 v15 fun v16 => loadK h v16 fun v17 => K v17 h) (nilckK x0 fun v18 => fadrK 2 v18 fun v19 => loadK h v19 fun v20 => K v20 h)

/-! ### 31 (*proctor/parse.parser).ahead -/
noncomputable def s31 (call : CallFn) (n : Nat) (x0 x1 : AV) (h : AHeap) (K : Kont) : Bool :=
  allocK h [.int .i64 0, .str [], .int .i64 0, .int .i64 0] 4 fun v1 h => nilckK x0 fun v2 => fadrK 1 v2 fun v3 => loadK h v3 fun v4 => addK v4 x1 fun v5 => nilckK x0 fun v6 => fadrK 0 v6 fun v7 => loadK h v7 fun v8 => lenK v8 fun v9 => lssK v5 v9 fun v10 => condK v10 (nilckK x0 fun v11 => fadrK 0 v11 fun v12 => loadK h v12 fun v13 => nilckK x0 fun v14 => fadrK 1 v14 fun v15 => loadK h v15 fun v16 => addK v16 x1 fun v17 => iadrK h 4 v13 v17 fun v18 => loadGK h 4 v18 fun v19 => optPK (unit (storeA h 4 v1 v19)) fun _ h => optR (resV h [(v1, some (true, 4))]) h K) (optK (buildV [.int .i64 0, .str [], .int .i64 0, .int .i64 0] [(0, 1, (.int .i64 (-1)))]) fun v21 => optPK (unit (storeA h 4 v1 v21)) fun _ h => optR (resV h [(v1, some (true, 4))]) h K)

/-! ### 32 proctor/parse.made -/
noncomputable def p32_29 (call : CallFn) (n : Nat) (x6 x7 : AV) (h : AHeap) (K : Kont) : Bool :=
  loadGK h 9 x7 fun v36 => optPK (unit (storeA h 9 x6 v36)) fun _ h => optR (resV h [(x6, some (true, 9))]) h K
noncomputable def p32_23 (call : CallFn) (n : Nat) (x0 x6 x7 : AV) (h : AHeap) (K : Kont) : Bool :=
  fadrK 8 x7 fun v32 => loadK h v32 fun v33 => gtrK v33 (.int .i64 30) fun v34 => condK v34 (call (.func 47) [x0] h <| pz K fun v35 h => p32_29 call n x6 x7 h K) (p32_29 call n x6 x7 h K)
noncomputable def b32_8 (call : CallFn) (n : Nat) (B8 : F6) (x0 x6 x7 x12 x13 x14 : AV) (h : AHeap) (K : Kont) : Bool :=
  lssK x14 x13 fun v8 => condK v8 (iadrK h 9 x12 x14 fun v9 => loadGK h 9 v9 fun v10 => allocK h [.int .i64 0, .str [], .int .i64 0, .bool false, .int .i64 0, .str [], .nilSlc, .nilSlc, .int .i64 0] 9 fun v11 h => optPK (unit (storeA h 9 v11 v10)) fun _ h => fadrK 0 x7 fun v13 => fadrK 7 v13 fun v14 => loadK h v14 fun v15 => fadrK 0 v11 fun v16 => loadGK h 8 v16 fun v17 => optPK (bsliceV h 1 8 [.int .i64 0, .str [], .int .i64 0, .bool false, .int .i64 0, .str [], .nilSlc, .nilSlc] [(0, v17)]) fun v18 h => optPK (appendA h 8 112 v15 v18) fun v19 h => fadrK 0 x7 fun v20 => fadrK 7 v20 fun v21 => storeK h v21 v19 fun h => fadrK 8 x7 fun v23 => loadK h v23 fun v24 => fadrK 8 v11 fun v25 => loadK h v25 fun v26 => addK v26 (.int .i64 1) fun v27 => optK (mmV true [v24, v27]) fun v28 => fadrK 8 x7 fun v29 => storeK h v29 v28 fun h => addK x14 (.int .i64 1) fun v31 => B8 x0 x6 x7 x12 x13 v31 h) (p32_23 call n x0 x6 x7 h K)
noncomputable def l32_8 (call : CallFn) (n : Nat) : Nat → AV → AV → AV → AV → AV → AV → AHeap → Kont → Bool :=
  @Nat.rec (fun _ => AV → AV → AV → AV → AV → AV → AHeap → Kont → Bool) (fun _ _ _ _ _ _ _ _ => false) (fun _ ih x0 x6 x7 x12 x13 x14 h K => b32_8 call n (fun x0 x6 x7 x12 x13 x14 h => ih x0 x6 x7 x12 x13 x14 h K) x0 x6 x7 x12 x13 x14 h K)
noncomputable def s32 (call : CallFn) (n : Nat) (x0 x1 x2 : AV) (h : AHeap) (K : Kont) : Bool :=
  optPK (boxA h 8 x1) fun v1 h => allocK h [.int .i64 0, .str [], .int .i64 0, .bool false, .int .i64 0, .str [], .nilSlc, .nilSlc, .int .i64 0] 9 fun v2 h => loadGK h 8 v1 fun v3 => optK (buildV [.int .i64 0, .str [], .int .i64 0, .bool false, .int .i64 0, .str [], .nilSlc, .nilSlc, .int .i64 0] [(0, 8, v3), (8, 1, (.int .i64 1))]) fun v4 => allocK h [.int .i64 0, .str [], .int .i64 0, .bool false, .int .i64 0, .str [], .nilSlc, .nilSlc, .int .i64 0] 9 fun v5 h => optPK (unit (storeA h 9 v5 v4)) fun _ h => lenK x2 fun v7 => l32_8 call n n x0 v2 v5 x2 v7 (.int .i64 0) h K

/-! ### 33 (*proctor/parse.parser).is -/
noncomputable def p33_6001 (call : CallFn) (n : Nat) (x15 x19 x23 x25 : AV) (h : AHeap) (K : Kont) : Bool :=
  gK x19 false (pickK x23 x25 (.bool false)) fun v17 => gK x15 true (pickK x19 (.bool true) v17) fun v18 => pickK x15 v18 (.bool false) fun v19 => K v19 h
noncomputable def p33_4001 (call : CallFn) (n : Nat) (x2 x10 : AV) (h : AHeap) (K : Kont) : Bool :=
  allocK h [.int .i64 0, .str [], .int .i64 0, .int .i64 0] 4 fun v2 h => optPK (unit (storeA h 4 v2 x10)) fun _ h => fadrK 1 v2 fun v4 => loadK h v4 fun v5 => eqlK v5 x2 fun v6 => gK v6 true (fadrK 0 v2) fun v7 => gK v6 true (loadK h v7) fun v8 => gK v6 true (eqlK v8 (.int .i64 4)) fun v9 => gK v6 true (optK (some v9)) fun v10 => gK v10 false (fadrK 0 v2) fun v11 => gK v10 false (loadK h v11) fun v12 => gK v10 false (eqlK v12 (.int .i64 0)) fun v13 => gK v10 false (optK (some v13)) fun v14 => gK v14 true (optK (some x2)) fun v15 => gP v14 true (fun k => call (.func 50) [v15] h (pz K k)) h fun v16 h => p33_6001 call n v6 v10 v14 v16 h K
noncomputable def s33 (call : CallFn) (n : Nat) (x0 x1 x2 : AV) (h : AHeap) (K : Kont) : Bool :=
  call (.func 31) [x0, x1] h <| pz K fun v1 h => p33_4001 call n x2 v1 h K

/-! ### 34 (*proctor/parse.parser).name -/
noncomputable def p34_4002 (call : CallFn) (n : Nat) (x0 x3 x6 x8 : AV) (h : AHeap) (K : Kont) : Bool :=
  gK x6 true (fldK 1 x8) fun v4 => gK x6 true (lenSK v4) fun v5 => gK x6 true (leqK v5 (.int .i64 64)) fun v6 => pickK x6 v6 (.bool false) fun v7 => call (.func 28) [x3, v7] h <| pz K fun v8 h => call (.func 51) [x0] h <| pz K fun v9 h => K v9 h
noncomputable def p34_4001 (call : CallFn) (n : Nat) (x0 x3 x5 : AV) (h : AHeap) (K : Kont) : Bool :=
  gK x5 true (optK (some x0)) fun v2 => gP x5 true (fun k => call (.func 31) [v2, (.int .i64 0)] h (pz K k)) h fun v3 h => p34_4002 call n x0 x3 x5 v3 h K
noncomputable def s34 (call : CallFn) (n : Nat) (x0 : AV) (h : AHeap) (K : Kont) : Bool :=
  call (.func 36) [x0, (.int .i64 0)] h <| pz K fun v1 h => p34_4001 call n x0 x0 v1 h K

/-! ### 35 (*proctor/parse.parser).opens -/
noncomputable def s35 (call : CallFn) (n : Nat) (x0 x1 : AV) (h : AHeap) (K : Kont) : Bool :=
  call (.func 30) [x0] h <| pz K fun v1 h => optPK (bsliceV h 1 1 [.str []] [(0, x1)]) fun v2 h => call (.func 23) [x0, v2] h <| pz K fun v3 h => call (.func 49) [x0, v1] h <| pz K fun v4 h => K (.tup []) h

/-! ### 36 (*proctor/parse.parser).named -/
noncomputable def p36_6001 (call : CallFn) (n : Nat) (x12 x15 : AV) (h : AHeap) (K : Kont) : Bool :=
  gK x12 true (notK x15) fun v10 => pickK x12 v10 (.bool false) fun v11 => K v11 h
noncomputable def p36_4001 (call : CallFn) (n : Nat) (x8 : AV) (h : AHeap) (K : Kont) : Bool :=
  allocK h [.int .i64 0, .str [], .int .i64 0, .int .i64 0] 4 fun v2 h => optPK (unit (storeA h 4 v2 x8)) fun _ h => fadrK 0 v2 fun v4 => loadK h v4 fun v5 => eqlK v5 (.int .i64 0) fun v6 => gK v6 true (fadrK 1 v2) fun v7 => gK v6 true (loadK h v7) fun v8 => gP v6 true (fun k => call (.func 50) [v8] h (pz K k)) h fun v9 h => p36_6001 call n v6 v9 h K
noncomputable def s36 (call : CallFn) (n : Nat) (x0 x1 : AV) (h : AHeap) (K : Kont) : Bool :=
  call (.func 31) [x0, x1] h <| pz K fun v1 h => p36_4001 call n v1 h K

/-! ### 37 (*proctor/parse.parser).field -/
noncomputable def p37_31 (call : CallFn) (n : Nat) (x2 x3 : AV) (h : AHeap) (K : Kont) : Bool :=
  loadGK h 3 x3 fun v11 => optPK (unit (storeA h 3 x2 v11)) fun _ h => optR (resV h [(x2, some (true, 3))]) h K
noncomputable def p37_31001 (call : CallFn) (n : Nat) (x2 x3 x14 : AV) (h : AHeap) (K : Kont) : Bool :=
  fadrK 1 x3 fun v28 => storeK h v28 (.int .i64 5) fun h => fadrK 2 x3 fun v30 => storeK h v30 x14 fun h => p37_31 call n x2 x3 h K
noncomputable def p37_4001 (call : CallFn) (n : Nat) (x0 x2 x5 : AV) (h : AHeap) (K : Kont) : Bool :=
  optK (buildV [.str [], .int .i64 0, .str []] [(0, 1, x5)]) fun v3 => allocK h [.str [], .int .i64 0, .str []] 3 fun v4 h => optPK (unit (storeA h 3 v4 v3)) fun _ h => optPK (bsliceV h 1 1 [.str []] [(0, (.str [58]))]) fun v6 h => call (.func 23) [x0, v6] h <| pz K fun v7 h => call (.func 20) [x0, (.str [105, 110, 116])] h <| pz K fun v8 h => condK v8 (fadrK 1 v4 fun v9 => storeK h v9 (.int .i64 2) fun h => p37_31 call n x2 v4 h K) (call (.func 20) [x0, (.str [98, 111, 111, 108])] h <| pz K fun v13 h => condK v13 (fadrK 1 v4 fun v14 => storeK h v14 (.int .i64 1) fun h => p37_31 call n x2 v4 h K) (call (.func 20) [x0, (.str [116, 101, 120, 116])] h <| pz K fun v16 h => condK v16 (fadrK 1 v4 fun v17 => storeK h v17 (.int .i64 3) fun h => p37_31 call n x2 v4 h K) (call (.func 20) [x0, (.str [108, 105, 115, 116])] h <| pz K fun v19 h => condK v19 (fadrK 1 v4 fun v20 => storeK h v20 (.int .i64 4) fun h => p37_31 call n x2 v4 h K) (call (.func 20) [x0, (.str [97, 110, 121])] h <| pz K fun v22 h => condK v22 (fadrK 1 v4 fun v23 => storeK h v23 (.int .i64 0) fun h => p37_31 call n x2 v4 h K) (optPK (bsliceV h 1 1 [.str []] [(0, (.str [114, 101, 102]))]) fun v25 h => call (.func 23) [x0, v25] h <| pz K fun v26 h => call (.func 34) [x0] h <| pz K fun v27 h => p37_31001 call n x2 v4 v27 h K)))))
noncomputable def s37 (call : CallFn) (n : Nat) (x0 : AV) (h : AHeap) (K : Kont) : Bool :=
  allocK h [.str [], .int .i64 0, .str []] 3 fun v1 h => call (.func 34) [x0] h <| pz K fun v2 h => p37_4001 call n x0 v1 v2 h K

/-! ### 38 (*proctor/parse.parser).closes -/
noncomputable def s38 (call : CallFn) (n : Nat) (x0 x1 : AV) (h : AHeap) (K : Kont) : Bool :=
  optPK (bsliceV h 1 1 [.str []] [(0, x1)]) fun v1 h => call (.func 23) [x0, v1] h <| pz K fun v2 h => nilckK x0 fun v3 => fadrK 3 v3 fun v4 => loadK h v4 fun v5 => subK v5 (.int .i64 1) fun v6 => nilckK x0 fun v7 => fadrK 3 v7 fun v8 => storeK h v8 v6 fun h => K (.tup []) h

/-! ### 39 (*proctor/parse.parser).quoted -/
noncomputable def p39_4001 (call : CallFn) (n : Nat) (x0 x3 x5 : AV) (h : AHeap) (K : Kont) : Bool :=
  call (.func 28) [x3, x5] h <| pz K fun v2 h => call (.func 51) [x0] h <| pz K fun v3 h => K v3 h
noncomputable def s39 (call : CallFn) (n : Nat) (x0 : AV) (h : AHeap) (K : Kont) : Bool :=
  call (.func 52) [x0, (.int .i64 3)] h <| pz K fun v1 h => p39_4001 call n x0 x0 v1 h K

/-! ### 40 (*proctor/parse.parser).salience -/
noncomputable def p40_8002 (call : CallFn) (n : Nat) (x0 x3 x16 : AV) (h : AHeap) (K : Kont) : Bool :=
  extK 0 x16 fun v7 => extK 1 x16 fun v8 => optK (eqV h false .ifn v8 .nilIf) fun v9 => gK v9 true (optK (some v7)) fun v10 => gK v9 true (leqK v10 (.int .i64 2147483648)) fun v11 => pickK v9 v11 (.bool false) fun v12 => call (.func 28) [x0, v12] h <| pz K fun v13 h => nilckK x0 fun v14 => fadrK 1 v14 fun v15 => loadK h v15 fun v16 => addK v16 (.int .i64 1) fun v17 => nilckK x0 fun v18 => fadrK 1 v18 fun v19 => storeK h v19 v17 fun h => condK x3 (optK (negA v7) fun v21 => K v21 h) (K v7 h)
noncomputable def p40_8001 (call : CallFn) (n : Nat) (x0 x3 x14 : AV) (h : AHeap) (K : Kont) : Bool :=
  fldK 1 x14 fun v5 => call (.func 53) [v5, (.int .i64 10), (.int .i64 64)] h <| pz K fun v6 h => p40_8002 call n x0 x3 v6 h K
noncomputable def p40_6001 (call : CallFn) (n : Nat) (x0 x3 x8 x10 : AV) (h : AHeap) (K : Kont) : Bool :=
  call (.func 28) [x8, x10] h <| pz K fun v3 h => call (.func 31) [x0, (.int .i64 0)] h <| pz K fun v4 h => p40_8001 call n x0 x3 v4 h K
noncomputable def s40 (call : CallFn) (n : Nat) (x0 : AV) (h : AHeap) (K : Kont) : Bool :=
  call (.func 20) [x0, (.str [45])] h <| pz K fun v1 h => call (.func 52) [x0, (.int .i64 2)] h <| pz K fun v2 h => p40_6001 call n x0 v1 x0 v2 h K

/-! ### 41 (*proctor/parse.parser).conds -/
noncomputable def p41_31001 (call : CallFn) (n : Nat) (B5 : F3) (x0 x1 x19 x21 : AV) (h : AHeap) (K : Kont) : Bool :=
  optPK (bsliceV h 1 19 [.int .i64 0, .str [], .str [], .nilSlc, .nilSlc, .nilSlc, .nilSlc, .nilSlc, .int .i64 0, .str [], .int .i64 0, .bool false, .int .i64 0, .str [], .nilSlc, .nilSlc, .str [], .str [], .nilSlc] [(0, x21)]) fun v8 h => optPK (appendA h 19 328 x19 v8) fun v9 h => B5 x0 x1 v9 h
noncomputable def p41_30 (call : CallFn) (n : Nat) (B5 : F3) (x0 x1 x5 : AV) (h : AHeap) (K : Kont) : Bool :=
  call (.func 54) [x0] h <| pz K fun v7 h => p41_31001 call n B5 x0 x1 x5 v7 h K
noncomputable def b41_11 (call : CallFn) (n : Nat) (B5 : F3) (B11 : F6) (x0 x1 x5 x8 x9 x10 : AV) (h : AHeap) (K : Kont) : Bool :=
  lssK x10 x9 fun v2 => condK v2 (iadrK h 1 x8 x10 fun v3 => loadK h v3 fun v4 => call (.func 33) [x0, (.int .i64 0), v4] h <| pz K fun v5 h => condK v5 (K x5 h) (addK x10 (.int .i64 1) fun v6 => B11 x0 x1 x5 x8 x9 v6 h)) (p41_30 call n B5 x0 x1 x5 h K)
noncomputable def l41_11 (call : CallFn) (n : Nat) (B5 : F3) : Nat → AV → AV → AV → AV → AV → AV → AHeap → Kont → Bool :=
  @Nat.rec (fun _ => AV → AV → AV → AV → AV → AV → AHeap → Kont → Bool) (fun _ _ _ _ _ _ _ _ => false) (fun _ ih x0 x1 x5 x8 x9 x10 h K => b41_11 call n B5 (fun x0 x1 x5 x8 x9 x10 h => ih x0 x1 x5 x8 x9 x10 h K) x0 x1 x5 x8 x9 x10 h K)
noncomputable def b41_5 (call : CallFn) (n : Nat) (B5 : F3) (x0 x1 x5 : AV) (h : AHeap) (K : Kont) : Bool :=
  lenK x1 fun v1 => l41_11 call n B5 n x0 x1 x5 x1 v1 (.int .i64 0) h K
noncomputable def l41_5 (call : CallFn) (n : Nat) : Nat → AV → AV → AV → AHeap → Kont → Bool :=
  @Nat.rec (fun _ => AV → AV → AV → AHeap → Kont → Bool) (fun _ _ _ _ _ => false) (fun _ ih x0 x1 x5 h K => b41_5 call n (fun x0 x1 x5 h => ih x0 x1 x5 h K) x0 x1 x5 h K)
noncomputable def s41 (call : CallFn) (n : Nat) (x0 x1 : AV) (h : AHeap) (K : Kont) : Bool :=
  l41_5 call n n x0 x1 .nilSlc h K

/-! ### 42 (*proctor/parse.parser).action -/
noncomputable def p42_45 (call : CallFn) (n : Nat) (x0 x2 x3 : AV) (h : AHeap) (K : Kont) : Bool :=
  optPK (bsliceV h 1 1 [.str []] [(0, (.str [59]))]) fun v16 h => call (.func 23) [x0, v16] h <| pz K fun v17 h => loadGK h 12 x3 fun v18 => optPK (unit (storeA h 12 x2 v18)) fun _ h => optR (resV h [(x2, some (true, 12))]) h K
noncomputable def p42_24001 (call : CallFn) (n : Nat) (x0 x2 x3 x22 : AV) (h : AHeap) (K : Kont) : Bool :=
  fadrK 2 x3 fun v14 => storeK h v14 x22 fun h => p42_45 call n x0 x2 x3 h K
noncomputable def p42_23001 (call : CallFn) (n : Nat) (x0 x2 x3 x19 : AV) (h : AHeap) (K : Kont) : Bool :=
  fadrK 1 x3 fun v11 => storeK h v11 x19 fun h => call (.func 55) [x0, (.int .i64 0)] h <| pz K fun v13 h => p42_24001 call n x0 x2 x3 v13 h K
noncomputable def p42_21 (call : CallFn) (n : Nat) (x0 x2 x3 : AV) (h : AHeap) (K : Kont) : Bool :=
  call (.func 34) [x0] h <| pz K fun v10 h => p42_23001 call n x0 x2 x3 v10 h K
noncomputable def p42_18001 (call : CallFn) (n : Nat) (x0 x2 x3 x15 : AV) (h : AHeap) (K : Kont) : Bool :=
  eqlK x15 (.str [108, 111, 103, 105, 99, 97, 108]) fun v7 => condK v7 (fadrK 0 x3 fun v8 => storeK h v8 (.int .i64 2) fun h => p42_21 call n x0 x2 x3 h K) (p42_21 call n x0 x2 x3 h K)
noncomputable def p42_30001 (call : CallFn) (n : Nat) (x0 x2 x3 x32 : AV) (h : AHeap) (K : Kont) : Bool :=
  fadrK 2 x3 fun v27 => storeK h v27 x32 fun h => p42_45 call n x0 x2 x3 h K
noncomputable def p42_29001 (call : CallFn) (n : Nat) (x0 x2 x3 x28 : AV) (h : AHeap) (K : Kont) : Bool :=
  fadrK 0 x3 fun v22 => storeK h v22 (.int .i64 3) fun h => fadrK 3 x3 fun v24 => optPK (unit (storeA h 8 v24 x28)) fun _ h => call (.func 55) [x0, (.int .i64 1)] h <| pz K fun v26 h => p42_30001 call n x0 x2 x3 v26 h K
noncomputable def p42_34001 (call : CallFn) (n : Nat) (x0 x2 x3 x38 : AV) (h : AHeap) (K : Kont) : Bool :=
  fadrK 0 x3 fun v31 => storeK h v31 (.int .i64 4) fun h => fadrK 3 x3 fun v33 => optPK (unit (storeA h 8 v33 x38)) fun _ h => p42_45 call n x0 x2 x3 h K
noncomputable def p42_38001 (call : CallFn) (n : Nat) (x0 x2 x3 x45 : AV) (h : AHeap) (K : Kont) : Bool :=
  fadrK 0 x3 fun v37 => storeK h v37 (.int .i64 5) fun h => fadrK 11 x3 fun v39 => storeK h v39 x45 fun h => p42_45 call n x0 x2 x3 h K
noncomputable def p42_42001 (call : CallFn) (n : Nat) (x0 x2 x3 x52 : AV) (h : AHeap) (K : Kont) : Bool :=
  fadrK 0 x3 fun v43 => storeK h v43 (.int .i64 6) fun h => fadrK 3 x3 fun v45 => optPK (unit (storeA h 8 v45 x52)) fun _ h => p42_45 call n x0 x2 x3 h K
noncomputable def p42_12 (call : CallFn) (n : Nat) (x0 x2 x3 x8 : AV) (h : AHeap) (K : Kont) : Bool :=
  condK x8 (fadrK 0 x3 fun v4 => storeK h v4 (.int .i64 1) fun h => call (.func 51) [x0] h <| pz K fun v6 h => p42_18001 call n x0 x2 x3 v6 h K) (call (.func 20) [x0, (.str [117, 112, 100, 97, 116, 101])] h <| pz K fun v20 h => condK v20 (call (.func 11) [x0] h <| pz K fun v21 h => p42_29001 call n x0 x2 x3 v21 h K) (call (.func 20) [x0, (.str [100, 101, 108, 101, 116, 101])] h <| pz K fun v29 h => condK v29 (call (.func 11) [x0] h <| pz K fun v30 h => p42_34001 call n x0 x2 x3 v30 h K) (call (.func 20) [x0, (.str [102, 111, 99, 117, 115])] h <| pz K fun v35 h => condK v35 (call (.func 39) [x0] h <| pz K fun v36 h => p42_38001 call n x0 x2 x3 v36 h K) (call (.func 20) [x0, (.str [112, 114, 105, 110, 116])] h <| pz K fun v41 h => condK v41 (call (.func 11) [x0] h <| pz K fun v42 h => p42_42001 call n x0 x2 x3 v42 h K) (optPK (bsliceV h 1 1 [.str []] [(0, (.str [104, 97, 108, 116]))]) fun v47 h => call (.func 23) [x0, v47] h <| pz K fun v48 h => fadrK 0 x3 fun v49 => storeK h v49 (.int .i64 7) fun h => p42_45 call n x0 x2 x3 h K)))))
noncomputable def s42 (call : CallFn) (n : Nat) (x0 : AV) (h : AHeap) (K : Kont) : Bool :=
  allocK h [.int .i64 0, .str [], .nilSlc, .int .i64 0, .str [], .int .i64 0, .bool false, .int .i64 0, .str [], .nilSlc, .nilSlc, .str []] 12 fun v1 h => allocK h [.int .i64 0, .str [], .nilSlc, .int .i64 0, .str [], .int .i64 0, .bool false, .int .i64 0, .str [], .nilSlc, .nilSlc, .str []] 12 fun v2 h => call (.func 33) [x0, (.int .i64 0), (.str [105, 110, 115, 101, 114, 116])] h <| pz K fun v3 h => condK v3 (p42_12 call n x0 v1 v2 v3 h K) (call (.func 33) [x0, (.int .i64 0), (.str [108, 111, 103, 105, 99, 97, 108])] h <| pz K fun v51 h => p42_12 call n x0 v1 v2 v51 h K)

/-! ### 43 (*proctor/parse.parser).list -/
noncomputable def p43_15 (call : CallFn) (n : Nat) (x0 x1 : AV) (h : AHeap) (K : Kont) : Bool :=
  call (.func 38) [x0, x1] h <| pz K fun v14 h => K (.tup []) h
noncomputable def p43_8002 (call : CallFn) (n : Nat) (B4 : F4) (x0 x1 x2 x14 x17 x19 : AV) (h : AHeap) (K : Kont) : Bool :=
  gK x14 false (pickK x17 x19 (.bool false)) fun v11 => pickK x14 (.bool true) v11 fun v12 => condK v12 (callV call x2 [] h <| pz K fun v13 h => B4 x0 x1 x2 (.bool false) h) (p43_15 call n x0 x1 h K)
noncomputable def p43_8001 (call : CallFn) (n : Nat) (B4 : F4) (x0 x1 x2 x6 x8 x11 : AV) (h : AHeap) (K : Kont) : Bool :=
  gK x8 true (notK x11) fun v4 => pickK x8 v4 (.bool false) fun v5 => gK v5 false (optK (some x6)) fun v6 => gK v5 false (notK v6) fun v7 => gK v5 false (optK (some v7)) fun v8 => gK v8 true (optK (some x0)) fun v9 => gP v8 true (fun k => call (.func 20) [v9, (.str [44])] h (pz K k)) h fun v10 h => p43_8002 call n B4 x0 x1 x2 v5 v8 v10 h K
noncomputable def b43_4 (call : CallFn) (n : Nat) (B4 : F4) (x0 x1 x2 x6 : AV) (h : AHeap) (K : Kont) : Bool :=
  gK x6 true (optK (some x0)) fun v1 => gK x6 true (optK (some x1)) fun v2 => gP x6 true (fun k => call (.func 33) [v1, (.int .i64 0), v2] h (pz K k)) h fun v3 h => p43_8001 call n B4 x0 x1 x2 x6 x6 v3 h K
noncomputable def l43_4 (call : CallFn) (n : Nat) : Nat → AV → AV → AV → AV → AHeap → Kont → Bool :=
  @Nat.rec (fun _ => AV → AV → AV → AV → AHeap → Kont → Bool) (fun _ _ _ _ _ _ => false) (fun _ ih x0 x1 x2 x6 h K => b43_4 call n (fun x0 x1 x2 x6 h => ih x0 x1 x2 x6 h K) x0 x1 x2 x6 h K)
noncomputable def s43 (call : CallFn) (n : Nat) (x0 x1 x2 : AV) (h : AHeap) (K : Kont) : Bool :=
  l43_4 call n n x0 x1 x2 (.bool true) h K

/-! ### 44 (*proctor/parse.parser).query$1 -/
noncomputable def s44 (call : CallFn) (n : Nat) (x0 x1 : AV) (h : AHeap) (K : Kont) : Bool :=
  fadrK 1 x0 fun v1 => loadK h v1 fun v2 => loadK h x1 fun v3 => call (.func 45) [v3] h <| pz K fun v4 h => loadK h v1 <| sameK v2 <| optPK (bsliceV h 1 1 [.str []] [(0, v4)]) fun v5 h => loadK h v1 <| sameK v2 <| loadK h x1 <| sameK v3 <| optPK (appendA h 1 16 v2 v5) fun v6 h => fadrK 1 x0 fun v7 => storeK h v7 v6 fun h => K (.tup []) h

/-! ### 45 (*proctor/parse.parser).variable -/
noncomputable def p45_4002 (call : CallFn) (n : Nat) (x0 x3 x6 x8 : AV) (h : AHeap) (K : Kont) : Bool :=
  gK x6 true (fldK 1 x8) fun v4 => gK x6 true (lenSK v4) fun v5 => gK x6 true (leqK v5 (.int .i64 64)) fun v6 => pickK x6 v6 (.bool false) fun v7 => call (.func 28) [x3, v7] h <| pz K fun v8 h => call (.func 51) [x0] h <| pz K fun v9 h => K v9 h
noncomputable def p45_4001 (call : CallFn) (n : Nat) (x0 x3 x5 : AV) (h : AHeap) (K : Kont) : Bool :=
  gK x5 true (optK (some x0)) fun v2 => gP x5 true (fun k => call (.func 31) [v2, (.int .i64 0)] h (pz K k)) h fun v3 h => p45_4002 call n x0 x3 x5 v3 h K
noncomputable def s45 (call : CallFn) (n : Nat) (x0 : AV) (h : AHeap) (K : Kont) : Bool :=
  call (.func 52) [x0, (.int .i64 1)] h <| pz K fun v1 h => p45_4001 call n x0 x0 v1 h K

/-! ### 46 (*proctor/lex.lexer).all -/
noncomputable def s46 (call : CallFn) (n : Nat) (x0 : AV) (h : AHeap) (K : Kont) : Bool :=
  boxK h x0 fun v1 h => optK (some (.fn (.func 56) [] [v1])) fun v2 => K v2 h

/-! ### 47 proctor/parse.fail -/
noncomputable def s47 (call : CallFn) (n : Nat) (x0 : AV) (h : AHeap) (K : Kont) : Bool :=
  optK (buildV [.int .i64 0] [(0, 1, x0)]) fun v1 => optK (mkifA 75 v1) fun v2 => pncK K v2 h

/-! ### 48 (*proctor/parse.parser).post -/
noncomputable def p48_12001 (call : CallFn) (n : Nat) (B5 : F3) (x0 x2 x3 x4 x10 : AV) (h : AHeap) (K : Kont) : Bool :=
  notK x10 fun v7 => condK v7 (loadGK h 9 x3 fun v8 => optPK (unit (storeA h 9 x2 v8)) fun _ h => optR (resV h [(x2, some (true, 9))]) h K) (loadGK h 9 x3 fun v10 => optPK (bsliceV h 1 9 [.int .i64 0, .str [], .int .i64 0, .bool false, .int .i64 0, .str [], .nilSlc, .nilSlc, .int .i64 0] [(0, v10)]) fun v11 h => loadGK h 9 x3 <| sameK v10 <| call (.func 34) [x0] h <| pz (goneQ [v11] K) fun v12 h => loadGK h 9 x3 <| sameK v10 <| optK (buildV [.int .i64 0, .str [], .int .i64 0, .bool false, .int .i64 0, .str [], .nilSlc, .nilSlc] [(0, 1, (.int .i64 4)), (1, 1, v12)]) fun v13 => call (.func 32) [x4, v13, v11] h <| pz (goneQ [v11] K) fun v14 h => optPK (unit (storeA h 9 x3 v14)) fun _ h => B5 x0 x2 x3 h)
noncomputable def b48_5 (call : CallFn) (n : Nat) (B5 : F3) (x0 x2 x3 : AV) (h : AHeap) (K : Kont) : Bool :=
  call (.func 30) [x0] h <| pz K fun v5 h => call (.func 20) [x0, (.str [46])] h <| pz K fun v6 h => p48_12001 call n B5 x0 x2 x3 v5 v6 h K
noncomputable def l48_5 (call : CallFn) (n : Nat) : Nat → AV → AV → AV → AHeap → Kont → Bool :=
  @Nat.rec (fun _ => AV → AV → AV → AHeap → Kont → Bool) (fun _ _ _ _ _ => false) (fun _ ih x0 x2 x3 h K => b48_5 call n (fun x0 x2 x3 h => ih x0 x2 x3 h K) x0 x2 x3 h K)
noncomputable def p48_4001 (call : CallFn) (n : Nat) (x0 x2 x6 : AV) (h : AHeap) (K : Kont) : Bool :=
  allocK h [.int .i64 0, .str [], .int .i64 0, .bool false, .int .i64 0, .str [], .nilSlc, .nilSlc, .int .i64 0] 9 fun v3 h => optPK (unit (storeA h 9 v3 x6)) fun _ h => l48_5 call n n x0 x2 v3 h K
noncomputable def s48 (call : CallFn) (n : Nat) (x0 : AV) (h : AHeap) (K : Kont) : Bool :=
  allocK h [.int .i64 0, .str [], .int .i64 0, .bool false, .int .i64 0, .str [], .nilSlc, .nilSlc, .int .i64 0] 9 fun v1 h => call (.func 59) [x0] h <| pz K fun v2 h => p48_4001 call n x0 v1 v2 h K

/-! ### 49 (*proctor/parse.parser).enter -/
noncomputable def s49 (call : CallFn) (n : Nat) (x0 x1 : AV) (h : AHeap) (K : Kont) : Bool :=
  nilckK x0 fun v1 => fadrK 3 v1 fun v2 => loadK h v2 fun v3 => addK v3 (.int .i64 1) fun v4 => nilckK x0 fun v5 => fadrK 3 v5 fun v6 => storeK h v6 v4 fun h => nilckK x0 fun v8 => fadrK 3 v8 fun v9 => loadK h v9 fun v10 => gtrK v10 (.int .i64 30) fun v11 => condK v11 (call (.func 47) [x1] h <| pz K fun v12 h => K (.tup []) h) (K (.tup []) h)

/-! ### 50 proctor/lex.Key -/
noncomputable def p50_156 (call : CallFn) (n : Nat) (x4 : AV) (h : AHeap) (K : Kont) : Bool :=
  condK x4 (K (.bool true) h) (K (.bool false) h)
set_option maxRecDepth 100000 in
noncomputable def s50 (call : CallFn) (n : Nat) (x0 : AV) (h : AHeap) (K : Kont) : Bool :=
  eqlK x0 (.str [99, 108, 97, 115, 115]) fun v1 => condK v1 (p50_156 call n v1 h K) (eqlK x0 (.str [101, 120, 116, 101, 110, 100, 115]) fun v2 => condK v2 (p50_156 call n v2 h K) (eqlK x0 (.str [114, 117, 108, 101]) fun v3 => condK v3 (p50_156 call n v3 h K) (eqlK x0 (.str [113, 117, 101, 114, 121]) fun v4 => condK v4 (p50_156 call n v4 h K) (eqlK x0 (.str [119, 104, 101, 110]) fun v5 => condK v5 (p50_156 call n v5 h K) (eqlK x0 (.str [116, 104, 101, 110]) fun v6 => condK v6 (p50_156 call n v6 h K) (eqlK x0 (.str [101, 110, 100]) fun v7 => condK v7 (p50_156 call n v7 h K) (eqlK x0 (.str [115, 97, 108, 105, 101, 110, 99, 101]) fun v8 => condK v8 (p50_156 call n v8 h K) (eqlK x0 (.str [103, 114, 111, 117, 112]) fun v9 => condK v9 (p50_156 call n v9 h K) (eqlK x0 (.str [102, 108, 111, 119]) fun v10 => condK v10 (p50_156 call n v10 h K) (eqlK x0 (.str [110, 111, 108, 111, 111, 112]) fun v11 => condK v11 (p50_156 call n v11 h K) (eqlK x0 (.str [108, 111, 99, 107]) fun v12 => condK v12 (p50_156 call n v12 h K) (eqlK x0 (.str [110, 111, 116]) fun v13 => condK v13 (p50_156 call n v13 h K) (eqlK x0 (.str [101, 120, 105, 115, 116, 115]) fun v14 => condK v14 (p50_156 call n v14 h K) (eqlK x0 (.str [102, 111, 114, 97, 108, 108]) fun v15 => condK v15 (p50_156 call n v15 h K) (eqlK x0 (.str [111, 114]) fun v16 => condK v16 (p50_156 call n v16 h K) (eqlK x0 (.str [102, 114, 111, 109]) fun v17 => condK v17 (p50_156 call n v17 h K) (eqlK x0 (.str [101, 118, 97, 108]) fun v18 => condK v18 (p50_156 call n v18 h K) (eqlK x0 (.str [97, 99, 99]) fun v19 => condK v19 (p50_156 call n v19 h K) (eqlK x0 (.str [111, 118, 101, 114]) fun v20 => condK v20 (p50_156 call n v20 h K) (eqlK x0 (.str [105, 110, 115, 101, 114, 116]) fun v21 => condK v21 (p50_156 call n v21 h K) (eqlK x0 (.str [108, 111, 103, 105, 99, 97, 108]) fun v22 => condK v22 (p50_156 call n v22 h K) (eqlK x0 (.str [117, 112, 100, 97, 116, 101]) fun v23 => condK v23 (p50_156 call n v23 h K) (eqlK x0 (.str [100, 101, 108, 101, 116, 101]) fun v24 => condK v24 (p50_156 call n v24 h K) (eqlK x0 (.str [102, 111, 99, 117, 115]) fun v25 => condK v25 (p50_156 call n v25 h K) (eqlK x0 (.str [112, 114, 105, 110, 116]) fun v26 => condK v26 (p50_156 call n v26 h K) (eqlK x0 (.str [104, 97, 108, 116]) fun v27 => condK v27 (p50_156 call n v27 h K) (eqlK x0 (.str [116, 114, 117, 101]) fun v28 => condK v28 (p50_156 call n v28 h K) (eqlK x0 (.str [102, 97, 108, 115, 101]) fun v29 => condK v29 (p50_156 call n v29 h K) (eqlK x0 (.str [110, 117, 108, 108]) fun v30 => condK v30 (p50_156 call n v30 h K) (eqlK x0 (.str [115, 105, 122, 101]) fun v31 => condK v31 (p50_156 call n v31 h K) (eqlK x0 (.str [104, 97, 115]) fun v32 => condK v32 (p50_156 call n v32 h K) (eqlK x0 (.str [105, 110, 116]) fun v33 => condK v33 (p50_156 call n v33 h K) (eqlK x0 (.str [98, 111, 111, 108]) fun v34 => condK v34 (p50_156 call n v34 h K) (eqlK x0 (.str [116, 101, 120, 116]) fun v35 => condK v35 (p50_156 call n v35 h K) (eqlK x0 (.str [108, 105, 115, 116]) fun v36 => condK v36 (p50_156 call n v36 h K) (eqlK x0 (.str [97, 110, 121]) fun v37 => condK v37 (p50_156 call n v37 h K) (eqlK x0 (.str [114, 101, 102]) fun v38 => p50_156 call n v38 h K)))))))))))))))))))))))))))))))))))))

/-! ### 51 (*proctor/parse.parser).text -/
noncomputable def s51 (call : CallFn) (n : Nat) (x0 : AV) (h : AHeap) (K : Kont) : Bool :=
  nilckK x0 fun v1 => fadrK 1 v1 fun v2 => loadK h v2 fun v3 => addK v3 (.int .i64 1) fun v4 => nilckK x0 fun v5 => fadrK 1 v5 fun v6 => storeK h v6 v4 fun h => nilckK x0 fun v8 => fadrK 0 v8 fun v9 => loadK h v9 fun v10 => nilckK x0 fun v11 => fadrK 1 v11 fun v12 => loadK h v12 fun v13 => subK v13 (.int .i64 1) fun v14 => iadrK h 4 v10 v14 fun v15 => fadrK 1 v15 fun v16 => loadK h v16 fun v17 => K v17 h

/-! ### 52 (*proctor/parse.parser).kind -/
noncomputable def p52_4001 (call : CallFn) (n : Nat) (x1 x6 : AV) (h : AHeap) (K : Kont) : Bool :=
  fldK 0 x6 fun v2 => eqlK v2 x1 fun v3 => K v3 h
noncomputable def s52 (call : CallFn) (n : Nat) (x0 x1 : AV) (h : AHeap) (K : Kont) : Bool :=
  call (.func 31) [x0, (.int .i64 0)] h <| pz K fun v1 h => p52_4001 call n x1 v1 h K

/-! ### 54 (*proctor/parse.parser).cond -/
noncomputable def p54_9001 (call : CallFn) (n : Nat) (x2 x10 : AV) (h : AHeap) (K : Kont) : Bool :=
  optK (buildV [.int .i64 0, .str [], .str [], .nilSlc, .nilSlc, .nilSlc, .nilSlc, .nilSlc, .int .i64 0, .str [], .int .i64 0, .bool false, .int .i64 0, .str [], .nilSlc, .nilSlc, .str [], .str [], .nilSlc] [(0, 1, (.int .i64 2)), (5, 1, x10)]) fun v4 => optPK (unit (storeA h 19 x2 v4)) fun _ h => optR (resV h [(x2, some (true, 19))]) h K
noncomputable def p54_15001 (call : CallFn) (n : Nat) (x2 x16 : AV) (h : AHeap) (K : Kont) : Bool :=
  optK (buildV [.int .i64 0, .str [], .str [], .nilSlc, .nilSlc, .nilSlc, .nilSlc, .nilSlc, .int .i64 0, .str [], .int .i64 0, .bool false, .int .i64 0, .str [], .nilSlc, .nilSlc, .str [], .str [], .nilSlc] [(0, 1, (.int .i64 3)), (5, 1, x16)]) fun v8 => optPK (unit (storeA h 19 x2 v8)) fun _ h => optR (resV h [(x2, some (true, 19))]) h K
noncomputable def p54_27001 (call : CallFn) (n : Nat) (x0 x2 x3 x32 : AV) (h : AHeap) (K : Kont) : Bool :=
  fadrK 6 x3 fun v21 => storeK h v21 x32 fun h => call (.func 38) [x0, (.str [41])] h <| pz K fun v23 h => loadGK h 19 x3 fun v24 => optPK (unit (storeA h 19 x2 v24)) fun _ h => optR (resV h [(x2, some (true, 19))]) h K
noncomputable def p54_23001 (call : CallFn) (n : Nat) (x0 x2 x25 : AV) (h : AHeap) (K : Kont) : Bool :=
  optK (buildV [.int .i64 0, .str [], .str [], .nilSlc, .nilSlc, .nilSlc, .nilSlc, .nilSlc, .int .i64 0, .str [], .int .i64 0, .bool false, .int .i64 0, .str [], .nilSlc, .nilSlc, .str [], .str [], .nilSlc] [(0, 1, (.int .i64 4)), (5, 1, x25)]) fun v14 => allocK h [.int .i64 0, .str [], .str [], .nilSlc, .nilSlc, .nilSlc, .nilSlc, .nilSlc, .int .i64 0, .str [], .int .i64 0, .bool false, .int .i64 0, .str [], .nilSlc, .nilSlc, .str [], .str [], .nilSlc] 19 fun v15 h => optPK (unit (storeA h 19 v15 v14)) fun _ h => optPK (bsliceV h 1 1 [.str []] [(0, (.str [59]))]) fun v17 h => call (.func 23) [x0, v17] h <| pz K fun v18 h => optPK (bsliceV h 1 1 [.str []] [(0, (.str [41]))]) fun v19 h => call (.func 63) [x0, v19] h <| pz K fun v20 h => p54_27001 call n x0 x2 v15 v20 h K
noncomputable def p54_37001 (call : CallFn) (n : Nat) (x2 x41 : AV) (h : AHeap) (K : Kont) : Bool :=
  optPK (unit (storeA h 19 x2 x41)) fun _ h => optR (resV h [(x2, some (true, 19))]) h K
noncomputable def p54_45001 (call : CallFn) (n : Nat) (x0 x2 x48 : AV) (h : AHeap) (K : Kont) : Bool :=
  optK (buildV [.int .i64 0, .str [], .str [], .nilSlc, .nilSlc, .nilSlc, .nilSlc, .nilSlc, .int .i64 0, .str [], .int .i64 0, .bool false, .int .i64 0, .str [], .nilSlc, .nilSlc, .str [], .str [], .nilSlc] [(0, 1, (.int .i64 8)), (8, 8, x48)]) fun v32 => allocK h [.int .i64 0, .str [], .str [], .nilSlc, .nilSlc, .nilSlc, .nilSlc, .nilSlc, .int .i64 0, .str [], .int .i64 0, .bool false, .int .i64 0, .str [], .nilSlc, .nilSlc, .str [], .str [], .nilSlc] 19 fun v33 h => optPK (unit (storeA h 19 v33 v32)) fun _ h => call (.func 38) [x0, (.str [41])] h <| pz K fun v35 h => loadGK h 19 v33 fun v36 => optPK (unit (storeA h 19 x2 v36)) fun _ h => optR (resV h [(x2, some (true, 19))]) h K
noncomputable def p54_55001 (call : CallFn) (n : Nat) (x2 x57 : AV) (h : AHeap) (K : Kont) : Bool :=
  optPK (unit (storeA h 19 x2 x57)) fun _ h => optR (resV h [(x2, some (true, 19))]) h K
noncomputable def p54_61001 (call : CallFn) (n : Nat) (x2 x62 : AV) (h : AHeap) (K : Kont) : Bool :=
  optPK (unit (storeA h 19 x2 x62)) fun _ h => optR (resV h [(x2, some (true, 19))]) h K
noncomputable def p54_71001 (call : CallFn) (n : Nat) (x2 x5 x78 : AV) (h : AHeap) (K : Kont) : Bool :=
  fadrK 8 x5 fun v56 => optPK (unit (storeA h 8 v56 x78)) fun _ h => loadGK h 19 x5 fun v58 => optPK (unit (storeA h 19 x2 v58)) fun _ h => optR (resV h [(x2, some (true, 19))]) h K
noncomputable def p54_67001 (call : CallFn) (n : Nat) (x0 x2 x72 : AV) (h : AHeap) (K : Kont) : Bool :=
  optK (buildV [.int .i64 0, .str [], .str [], .nilSlc, .nilSlc, .nilSlc, .nilSlc, .nilSlc, .int .i64 0, .str [], .int .i64 0, .bool false, .int .i64 0, .str [], .nilSlc, .nilSlc, .str [], .str [], .nilSlc] [(0, 1, (.int .i64 6)), (1, 1, x72)]) fun v50 => allocK h [.int .i64 0, .str [], .str [], .nilSlc, .nilSlc, .nilSlc, .nilSlc, .nilSlc, .int .i64 0, .str [], .int .i64 0, .bool false, .int .i64 0, .str [], .nilSlc, .nilSlc, .str [], .str [], .nilSlc] 19 fun v51 h => optPK (unit (storeA h 19 v51 v50)) fun _ h => optPK (bsliceV h 1 1 [.str []] [(0, (.str [102, 114, 111, 109]))]) fun v53 h => call (.func 23) [x0, v53] h <| pz K fun v54 h => call (.func 11) [x0] h <| pz K fun v55 h => p54_71001 call n x2 v51 v55 h K
noncomputable def p54_77001 (call : CallFn) (n : Nat) (x2 x82 : AV) (h : AHeap) (K : Kont) : Bool :=
  optPK (unit (storeA h 19 x2 x82)) fun _ h => optR (resV h [(x2, some (true, 19))]) h K
noncomputable def p54_64002 (call : CallFn) (n : Nat) (x0 x2 x66 x68 : AV) (h : AHeap) (K : Kont) : Bool :=
  gK x66 true (notK x68) fun v47 => pickK x66 v47 (.bool false) fun v48 => condK v48 (call (.func 45) [x0] h <| pz K fun v49 h => p54_67001 call n x0 x2 v49 h K) (call (.func 67) [x0] h <| pz K fun v60 h => p54_77001 call n x2 v60 h K)
noncomputable def p54_64001 (call : CallFn) (n : Nat) (x0 x2 x65 : AV) (h : AHeap) (K : Kont) : Bool :=
  gK x65 true (optK (some x0)) fun v45 => gP x65 true (fun k => call (.func 33) [v45, (.int .i64 1), (.str [58])] h (pz K k)) h fun v46 h => p54_64002 call n x0 x2 x65 v46 h K
set_option maxRecDepth 100000 in
noncomputable def s54 (call : CallFn) (n : Nat) (x0 : AV) (h : AHeap) (K : Kont) : Bool :=
  allocK h [.int .i64 0, .str [], .str [], .nilSlc, .nilSlc, .nilSlc, .nilSlc, .nilSlc, .int .i64 0, .str [], .int .i64 0, .bool false, .int .i64 0, .str [], .nilSlc, .nilSlc, .str [], .str [], .nilSlc] 19 fun v1 h => call (.func 20) [x0, (.str [110, 111, 116])] h <| pz K fun v2 h => condK v2 (call (.func 62) [x0] h <| pz K fun v3 h => p54_9001 call n v1 v3 h K) (call (.func 20) [x0, (.str [101, 120, 105, 115, 116, 115])] h <| pz K fun v6 h => condK v6 (call (.func 62) [x0] h <| pz K fun v7 h => p54_15001 call n v1 v7 h K) (call (.func 20) [x0, (.str [102, 111, 114, 97, 108, 108])] h <| pz K fun v10 h => condK v10 (call (.func 35) [x0, (.str [40])] h <| pz K fun v11 h => optPK (bsliceV h 1 1 [.str []] [(0, (.str [59]))]) fun v12 h => call (.func 63) [x0, v12] h <| pz K fun v13 h => p54_23001 call n x0 v1 v13 h K) (call (.func 33) [x0, (.int .i64 0), (.str [40])] h <| pz K fun v26 h => condK v26 (call (.func 64) [x0] h <| pz K fun v27 h => p54_37001 call n v1 v27 h K) (call (.func 20) [x0, (.str [101, 118, 97, 108])] h <| pz K fun v29 h => condK v29 (call (.func 35) [x0, (.str [40])] h <| pz K fun v30 h => call (.func 11) [x0] h <| pz K fun v31 h => p54_45001 call n x0 v1 v31 h K) (call (.func 20) [x0, (.str [97, 99, 99])] h <| pz K fun v38 h => condK v38 (call (.func 65) [x0] h <| pz K fun v39 h => p54_55001 call n v1 v39 h K) (call (.func 20) [x0, (.str [63])] h <| pz K fun v41 h => condK v41 (call (.func 66) [x0] h <| pz K fun v42 h => p54_61001 call n v1 v42 h K) (call (.func 52) [x0, (.int .i64 1)] h <| pz K fun v44 h => p54_64001 call n x0 v1 v44 h K)))))))

/-! ### 55 (*proctor/parse.parser).sets -/
noncomputable def p55_12 (call : CallFn) (n : Nat) (x2 x5 : AV) (h : AHeap) (K : Kont) : Bool :=
  loadK h x2 fun v11 => optK (some (.fn (.func 68) [] [x2, x5])) fun v12 => call (.func 43) [v11, (.str [125]), v12] h <| pz K fun v13 h => loadK h x5 fun v14 => K v14 h
noncomputable def s55 (call : CallFn) (n : Nat) (x0 x1 : AV) (h : AHeap) (K : Kont) : Bool :=
  boxK h x0 fun v1 h => allocK h [.nilSlc] 1 fun v2 h => loadK h v1 fun v3 => call (.func 35) [v3, (.str [123])] h <| pz K fun v4 h => gtrK x1 (.int .i64 0) fun v5 => condK v5 (loadK h v1 fun v6 => loadK h v1 fun v7 => call (.func 33) [v7, (.int .i64 0), (.str [125])] h <| pz K fun v8 h => loadK h v1 <| sameK v6 <| notK v8 fun v9 => call (.func 28) [v6, v9] h <| pz K fun v10 h => p55_12 call n v1 v2 h K) (p55_12 call n v1 v2 h K)

/-! ### 56 (*proctor/lex.lexer).all$1 -/
noncomputable def p56_27001 (call : CallFn) (n : Nat) (B1 : F2) (x0 x1 x49 : AV) (h : AHeap) (K : Kont) : Bool :=
  notK x49 fun v47 => condK v47 (K (.tup []) h) (B1 x0 x1 h)
noncomputable def p56_13001 (call : CallFn) (n : Nat) (B1 : F2) (x0 x1 x19 : AV) (h : AHeap) (K : Kont) : Bool :=
  extK 0 x19 fun v15 => extK 1 x19 fun v16 => allocK h [.int .i64 0, .str [], .int .i64 0, .int .i64 0] 4 fun v17 h => optPK (unit (storeA h 4 v17 v15)) fun _ h => eqlK v16 (.int .i64 0) fun v19 => condK v19 (loadK h x1 fun v20 => nilckK v20 fun v21 => fadrK 2 v21 fun v22 => storeK h v22 (.bool true) fun h => K (.tup []) h) (loadK h x1 fun v24 => nilckK v24 fun v25 => fadrK 1 v25 fun v26 => loadK h v26 fun v27 => loadK h x1 fun v28 => nilckK v28 fun v29 => fadrK 1 v29 fun v30 => loadK h v30 fun v31 => addK v31 v16 fun v32 => fadrK 2 v17 fun v33 => storeK h v33 v27 fun h => loadK h x1 <| sameK v28 <| loadK h v30 <| sameK v31 <| fadrK 3 v17 fun v35 => storeK h v35 v32 fun h => loadK h x1 fun v37 => nilckK v37 fun v38 => fadrK 1 v38 fun v39 => loadK h v39 fun v40 => addK v40 v16 fun v41 => nilckK v37 fun v42 => fadrK 1 v42 fun v43 => storeK h v43 v41 fun h => loadGK h 4 v17 fun v45 => callV call x0 [v45] h <| pz K fun v46 h => p56_27001 call n B1 x0 x1 v46 h K)
noncomputable def b56_1 (call : CallFn) (n : Nat) (B1 : F2) (x0 x1 : AV) (h : AHeap) (K : Kont) : Bool :=
  loadK h x1 fun v1 => call (.func 57) [v1] h <| pz K fun v2 h => loadK h x1 fun v3 => nilckK v3 fun v4 => fadrK 1 v4 fun v5 => loadK h v5 fun v6 => loadK h x1 fun v7 => nilckK v7 fun v8 => fadrK 0 v8 fun v9 => loadK h v9 fun v10 => lenSK v10 fun v11 => geqK v6 v11 fun v12 => condK v12 (K (.tup []) h) (loadK h x1 fun v13 => call (.func 58) [v13] h <| pz K fun v14 h => p56_13001 call n B1 x0 x1 v14 h K)
noncomputable def l56_1 (call : CallFn) (n : Nat) : Nat → AV → AV → AHeap → Kont → Bool :=
  @Nat.rec (fun _ => AV → AV → AHeap → Kont → Bool) (fun _ _ _ _ => false) (fun _ ih x0 x1 h K => b56_1 call n (fun x0 x1 h => ih x0 x1 h K) x0 x1 h K)
noncomputable def s56 (call : CallFn) (n : Nat) (x0 x1 : AV) (h : AHeap) (K : Kont) : Bool :=
  l56_1 call n n x0 x1 h K

/-! ### 57 (*proctor/lex.lexer).blank -/
noncomputable def p57_49 (call : CallFn) (n : Nat) (B0 : F1) (x0 x3 : AV) (h : AHeap) (K : Kont) : Bool :=
  nilckK x0 fun v41 => fadrK 1 v41 fun v42 => loadK h v42 fun v43 => addK v43 x3 fun v44 => nilckK x0 fun v45 => fadrK 1 v45 fun v46 => storeK h v46 v44 fun h => B0 x0 h
noncomputable def p57_40001 (call : CallFn) (n : Nat) (B0 : F1) (x0 x31 x33 : AV) (h : AHeap) (K : Kont) : Bool :=
  gK x31 true (eqlK x33 (.int .u8 47)) fun v22 => pickK x31 v22 (.bool false) fun v23 => condK v23 (nilckK x0 fun v24 => fadrK 0 v24 fun v25 => loadK h v25 fun v26 => nilckK x0 fun v27 => fadrK 1 v27 fun v28 => loadK h v28 fun v29 => optK (sliceSV v26 (some v29) none) fun v30 => call (.func 70) [v30, (.int .u8 10)] h <| pz K fun v31 h => lssK v31 (.int .i64 0) fun v32 => condK v32 (nilckK x0 fun v33 => fadrK 0 v33 fun v34 => loadK h v34 fun v35 => lenSK v35 fun v36 => nilckK x0 fun v37 => fadrK 1 v37 fun v38 => loadK h v38 fun v39 => subK v36 v39 fun v40 => p57_49 call n B0 x0 v40 h K) (p57_49 call n B0 x0 v31 h K)) (K (.tup []) h)
noncomputable def j57_0 (call : CallFn) (n : Nat) (B0 : F1) (x0 : AV) (h : AHeap) (K : Kont) : Bool :=
  call (.func 69) [x0, (.int .i64 0)] h <| pz K fun v1 h => eqlK v1 (.int .u8 32) fun v2 => gK v2 false (optK (some v1)) fun v3 => gK v2 false (eqlK v3 (.int .u8 9)) fun v4 => pickK v2 (.bool true) v4 fun v5 => gK v5 false (optK (some v1)) fun v6 => gK v5 false (eqlK v6 (.int .u8 13)) fun v7 => pickK v5 (.bool true) v7 fun v8 => gK v8 false (optK (some v1)) fun v9 => gK v8 false (eqlK v9 (.int .u8 10)) fun v10 => pickK v8 (.bool true) v10 fun v11 => condK v11 (nilckK x0 fun v12 => fadrK 1 v12 fun v13 => loadK h v13 fun v14 => addK v14 (.int .i64 1) fun v15 => nilckK x0 fun v16 => fadrK 1 v16 fun v17 => storeK h v17 v15 fun h => B0 x0 h) (eqlK v1 (.int .u8 47) fun v19 => gK v19 true (optK (some x0)) fun v20 => gP v19 true (fun k => call (.func 69) [v20, (.int .i64 1)] h (pz K k)) h fun v21 h => p57_40001 call n B0 x0 v19 v21 h K)
noncomputable def g57_0 (call : CallFn) (n : Nat) : Nat → AV → AHeap → Kont → Bool :=
  @Nat.rec (fun _ => AV → AHeap → Kont → Bool) (fun _ _ _ => false) (fun _ ih x0 h K => j57_0 call n (fun x0 h => ih x0 h K) x0 h K)
noncomputable def p57_23 (call : CallFn) (n : Nat) (B0 : F1) (x0 x3 : AV) (h : AHeap) (K : Kont) : Bool :=
  nilckK x0 fun v88 => fadrK 1 v88 fun v89 => loadK h v89 fun v90 => addK v90 x3 fun v91 => nilckK x0 fun v92 => fadrK 1 v92 fun v93 => storeK h v93 v91 fun h => B0 x0 h
noncomputable def p57_14001 (call : CallFn) (n : Nat) (B0 : F1) (x0 x31 x33 : AV) (h : AHeap) (K : Kont) : Bool :=
  gK x31 true (eqlK x33 (.int .u8 47)) fun v69 => pickK x31 v69 (.bool false) fun v70 => condK v70 (nilckK x0 fun v71 => fadrK 0 v71 fun v72 => loadK h v72 fun v73 => nilckK x0 fun v74 => fadrK 1 v74 fun v75 => loadK h v75 fun v76 => optK (sliceSV v73 (some v76) none) fun v77 => call (.func 70) [v77, (.int .u8 10)] h <| pz K fun v78 h => lssK v78 (.int .i64 0) fun v79 => condK v79 (nilckK x0 fun v80 => fadrK 0 v80 fun v81 => loadK h v81 fun v82 => lenSK v82 fun v83 => nilckK x0 fun v84 => fadrK 1 v84 fun v85 => loadK h v85 fun v86 => subK v83 v86 fun v87 => p57_23 call n B0 x0 v87 h K) (p57_23 call n B0 x0 v78 h K)) (K (.tup []) h)
noncomputable def f57_0 (call : CallFn) (n : Nat) (B0 : F1) (x0 : AV) (h : AHeap) (K : Kont) : Bool :=
  call (.func 69) [x0, (.int .i64 0)] h <| pz K fun v48 h => eqlK v48 (.int .u8 32) fun v49 => gK v49 false (optK (some v48)) fun v50 => gK v49 false (eqlK v50 (.int .u8 9)) fun v51 => pickK v49 (.bool true) v51 fun v52 => gK v52 false (optK (some v48)) fun v53 => gK v52 false (eqlK v53 (.int .u8 13)) fun v54 => pickK v52 (.bool true) v54 fun v55 => gK v55 false (optK (some v48)) fun v56 => gK v55 false (eqlK v56 (.int .u8 10)) fun v57 => pickK v55 (.bool true) v57 fun v58 => condK v58 (nilckK x0 fun v59 => fadrK 1 v59 fun v60 => loadK h v60 fun v61 => addK v61 (.int .i64 1) fun v62 => nilckK x0 fun v63 => fadrK 1 v63 fun v64 => storeK h v64 v62 fun h => B0 x0 h) (eqlK v48 (.int .u8 47) fun v66 => gK v66 true (optK (some x0)) fun v67 => gP v66 true (fun k => call (.func 69) [v67, (.int .i64 1)] h (pz K k)) h fun v68 h => p57_14001 call n B0 x0 v66 v68 h K)
noncomputable def s57 (call : CallFn) (n : Nat) (x0 : AV) (h : AHeap) (K : Kont) : Bool :=
  f57_0 call n (pF1 (pC1 (g57_0 call n n) K)) x0 h K

/-! ### 58 (*proctor/lex.lexer).next -/
noncomputable def p58_15001 (call : CallFn) (n : Nat) (x2 x3 x18 : AV) (h : AHeap) (K : Kont) : Bool :=
  optK (buildV [.int .i64 0, .str [], .int .i64 0, .int .i64 0] [(0, 1, (.int .i64 0)), (1, 1, x18)]) fun v10 => optPK (unit (storeA h 4 x2 v10)) fun _ h => optR (resV h [(x2, some (true, 4)), (x3, none)]) h K
noncomputable def p58_27001 (call : CallFn) (n : Nat) (x2 x3 x30 : AV) (h : AHeap) (K : Kont) : Bool :=
  optK (buildV [.int .i64 0, .str [], .int .i64 0, .int .i64 0] [(0, 1, (.int .i64 1)), (1, 1, x30)]) fun v17 => addK x3 (.int .i64 1) fun v18 => optPK (unit (storeA h 4 x2 v17)) fun _ h => optR (resV h [(x2, some (true, 4)), (v18, none)]) h K
noncomputable def p58_39001 (call : CallFn) (n : Nat) (x2 x3 x42 : AV) (h : AHeap) (K : Kont) : Bool :=
  optK (buildV [.int .i64 0, .str [], .int .i64 0, .int .i64 0] [(0, 1, (.int .i64 2)), (1, 1, x42)]) fun v26 => optPK (unit (storeA h 4 x2 v26)) fun _ h => optR (resV h [(x2, some (true, 4)), (x3, none)]) h K
noncomputable def p58_45001 (call : CallFn) (n : Nat) (x2 x50 : AV) (h : AHeap) (K : Kont) : Bool :=
  extK 0 x50 fun v31 => extK 1 x50 fun v32 => optK (buildV [.int .i64 0, .str [], .int .i64 0, .int .i64 0] [(0, 1, (.int .i64 3)), (1, 1, v31)]) fun v33 => optPK (unit (storeA h 4 x2 v33)) fun _ h => optR (resV h [(x2, some (true, 4)), (v32, none)]) h K
noncomputable def p58_53001 (call : CallFn) (n : Nat) (x2 x3 x60 : AV) (h : AHeap) (K : Kont) : Bool :=
  optK (buildV [.int .i64 0, .str [], .int .i64 0, .int .i64 0] [(0, 1, (.int .i64 4)), (1, 1, x60)]) fun v38 => optPK (unit (storeA h 4 x2 v38)) fun _ h => optR (resV h [(x2, some (true, 4)), (x3, none)]) h K
noncomputable def s58 (call : CallFn) (n : Nat) (x0 : AV) (h : AHeap) (K : Kont) : Bool :=
  boxK h x0 fun v1 h => allocK h [.int .i64 0, .str [], .int .i64 0, .int .i64 0] 4 fun v2 h => optK (some (.fn (.func 71) [] [v1])) fun v3 => loadK h v1 fun v4 => call (.func 69) [v4, (.int .i64 0)] h <| pz K fun v5 h => call (.func 72) [v5] h <| pz K fun v6 h => condK v6 (loadK h v1 fun v7 => call (.func 73) [v7, (.int .i64 0)] h <| pz K fun v8 h => callV call v3 [(.int .i64 0), v8] h <| pz K fun v9 h => p58_15001 call n v2 v8 v9 h K) (eqlK v5 (.int .u8 36) fun v12 => condK v12 (loadK h v1 fun v13 => call (.func 73) [v13, (.int .i64 1)] h <| pz K fun v14 h => gtrK v14 (.int .i64 0) fun v15 => condK v15 (callV call v3 [(.int .i64 1), v14] h <| pz K fun v16 h => p58_27001 call n v2 v14 v16 h K) (loadGK h 4 v2 fun v20 => optPK (unit (storeA h 4 v2 v20)) fun _ h => optR (resV h [(v2, some (true, 4)), ((.int .i64 0), none)]) h K)) (call (.func 74) [v5] h <| pz K fun v22 h => condK v22 (loadK h v1 fun v23 => call (.func 75) [v23, (.int .i64 0), (.fn (.func 74) [] [])] h <| pz K fun v24 h => callV call v3 [(.int .i64 0), v24] h <| pz K fun v25 h => p58_39001 call n v2 v24 v25 h K) (eqlK v5 (.int .u8 34) fun v28 => condK v28 (loadK h v1 fun v29 => call (.func 76) [v29] h <| pz K fun v30 h => p58_45001 call n v2 v30 h K) (loadK h v1 fun v35 => call (.func 77) [v35] h <| pz K fun v36 h => callV call v3 [(.int .i64 0), v36] h <| pz K fun v37 h => p58_53001 call n v2 v36 v37 h K))))

/-! ### 59 (*proctor/parse.parser).atom -/
noncomputable def p59_17001 (call : CallFn) (n : Nat) (x2 x39 : AV) (h : AHeap) (K : Kont) : Bool :=
  optPK (unit (storeA h 9 x2 x39)) fun _ h => optR (resV h [(x2, some (true, 9))]) h K
noncomputable def p59_11001 (call : CallFn) (n : Nat) (x1 x2 x23 : AV) (h : AHeap) (K : Kont) : Bool :=
  extK 0 x23 fun v15 => extK 1 x23 fun v16 => loadK h x1 fun v17 => optK (eqV h false .ifn v16 .nilIf) fun v18 => call (.func 28) [v17, v18] h <| pz K fun v19 h => loadK h x1 fun v20 => nilckK v20 fun v21 => fadrK 1 v21 fun v22 => loadK h v22 fun v23 => addK v23 (.int .i64 1) fun v24 => nilckK v20 fun v25 => fadrK 1 v25 fun v26 => storeK h v26 v24 fun h => optK (buildV [.int .i64 0, .bool false, .int .i64 0, .str [], .nilSlc] [(0, 1, (.int .i64 2)), (2, 1, v15)]) fun v28 => call (.func 78) [v28] h <| pz K fun v29 h => p59_17001 call n x2 v29 h K
noncomputable def p59_23002 (call : CallFn) (n : Nat) (x2 x47 : AV) (h : AHeap) (K : Kont) : Bool :=
  optPK (unit (storeA h 9 x2 x47)) fun _ h => optR (resV h [(x2, some (true, 9))]) h K
noncomputable def p59_23001 (call : CallFn) (n : Nat) (x2 x45 : AV) (h : AHeap) (K : Kont) : Bool :=
  optK (buildV [.int .i64 0, .bool false, .int .i64 0, .str [], .nilSlc] [(0, 1, (.int .i64 3)), (3, 1, x45)]) fun v36 => call (.func 78) [v36] h <| pz K fun v37 h => p59_23002 call n x2 v37 h K
noncomputable def p59_33001 (call : CallFn) (n : Nat) (x2 x57 : AV) (h : AHeap) (K : Kont) : Bool :=
  optPK (unit (storeA h 9 x2 x57)) fun _ h => optR (resV h [(x2, some (true, 9))]) h K
noncomputable def p59_39001 (call : CallFn) (n : Nat) (x2 x62 : AV) (h : AHeap) (K : Kont) : Bool :=
  optPK (unit (storeA h 9 x2 x62)) fun _ h => optR (resV h [(x2, some (true, 9))]) h K
noncomputable def p59_45001 (call : CallFn) (n : Nat) (x2 x68 : AV) (h : AHeap) (K : Kont) : Bool :=
  optK (buildV [.int .i64 0, .str [], .int .i64 0, .bool false, .int .i64 0, .str [], .nilSlc, .nilSlc] [(0, 1, (.int .i64 2)), (1, 1, x68)]) fun v57 => optK (buildV [.int .i64 0, .str [], .int .i64 0, .bool false, .int .i64 0, .str [], .nilSlc, .nilSlc, .int .i64 0] [(0, 8, v57), (8, 1, (.int .i64 1))]) fun v58 => optPK (unit (storeA h 9 x2 v58)) fun _ h => optR (resV h [(x2, some (true, 9))]) h K
noncomputable def p59_53001 (call : CallFn) (n : Nat) (x1 x2 x77 : AV) (h : AHeap) (K : Kont) : Bool :=
  allocK h [.int .i64 0, .str [], .int .i64 0, .bool false, .int .i64 0, .str [], .nilSlc, .nilSlc, .int .i64 0] 9 fun v66 h => optPK (unit (storeA h 9 v66 x77)) fun _ h => loadK h x1 fun v68 => call (.func 38) [v68, (.str [41])] h <| pz K fun v69 h => loadGK h 9 v66 fun v70 => optPK (unit (storeA h 9 x2 v70)) fun _ h => optR (resV h [(x2, some (true, 9))]) h K
noncomputable def p59_69001 (call : CallFn) (n : Nat) (x2 x92 : AV) (h : AHeap) (K : Kont) : Bool :=
  optPK (unit (storeA h 9 x2 x92)) fun _ h => optR (resV h [(x2, some (true, 9))]) h K
noncomputable def p59_81001 (call : CallFn) (n : Nat) (x2 x106 : AV) (h : AHeap) (K : Kont) : Bool :=
  optPK (unit (storeA h 9 x2 x106)) fun _ h => optR (resV h [(x2, some (true, 9))]) h K
noncomputable def p59_77001 (call : CallFn) (n : Nat) (x1 x2 x3 x99 : AV) (h : AHeap) (K : Kont) : Bool :=
  allocK h [.int .i64 0, .str [], .int .i64 0, .bool false, .int .i64 0, .str [], .nilSlc, .nilSlc, .int .i64 0] 9 fun v90 h => optPK (unit (storeA h 9 v90 x99)) fun _ h => loadK h x1 fun v92 => call (.func 38) [v92, (.str [41])] h <| pz K fun v93 h => optK (buildV [.int .i64 0, .str [], .int .i64 0, .bool false, .int .i64 0, .str [], .nilSlc, .nilSlc] [(0, 1, (.int .i64 21))]) fun v94 => loadGK h 9 v90 fun v95 => optPK (bsliceV h 1 9 [.int .i64 0, .str [], .int .i64 0, .bool false, .int .i64 0, .str [], .nilSlc, .nilSlc, .int .i64 0] [(0, v95)]) fun v96 h => call (.func 32) [x3, v94, v96] h <| pz K fun v97 h => p59_81001 call n x2 v97 h K
noncomputable def p59_97001 (call : CallFn) (n : Nat) (x2 x126 : AV) (h : AHeap) (K : Kont) : Bool :=
  optPK (unit (storeA h 9 x2 x126)) fun _ h => optR (resV h [(x2, some (true, 9))]) h K
noncomputable def p59_93001 (call : CallFn) (n : Nat) (x1 x2 x3 x10 x118 : AV) (h : AHeap) (K : Kont) : Bool :=
  allocK h [.int .i64 0, .str [], .int .i64 0, .bool false, .int .i64 0, .str [], .nilSlc, .nilSlc, .int .i64 0] 9 fun v112 h => optPK (unit (storeA h 9 v112 x118)) fun _ h => loadK h x1 fun v114 => call (.func 38) [v114, (.str [41])] h <| pz K fun v115 h => optK (buildV [.int .i64 0, .str [], .int .i64 0, .bool false, .int .i64 0, .str [], .nilSlc, .nilSlc] [(0, 1, (.int .i64 22))]) fun v116 => loadGK h 9 x10 fun v117 => loadGK h 9 v112 fun v118 => optPK (bsliceV h 2 9 [.int .i64 0, .str [], .int .i64 0, .bool false, .int .i64 0, .str [], .nilSlc, .nilSlc, .int .i64 0] [(0, v117), (1, v118)]) fun v119 h => call (.func 32) [x3, v116, v119] h <| pz K fun v120 h => p59_97001 call n x2 v120 h K
noncomputable def p59_89001 (call : CallFn) (n : Nat) (x1 x2 x3 x113 : AV) (h : AHeap) (K : Kont) : Bool :=
  allocK h [.int .i64 0, .str [], .int .i64 0, .bool false, .int .i64 0, .str [], .nilSlc, .nilSlc, .int .i64 0] 9 fun v105 h => optPK (unit (storeA h 9 v105 x113)) fun _ h => loadK h x1 fun v107 => optPK (bsliceV h 1 1 [.str []] [(0, (.str [44]))]) fun v108 h => call (.func 23) [v107, v108] h <| pz K fun v109 h => loadK h x1 fun v110 => call (.func 18) [v110, (.int .i64 0)] h <| pz K fun v111 h => p59_93001 call n x1 x2 x3 v105 v111 h K
noncomputable def p59_101001 (call : CallFn) (n : Nat) (x2 x128 : AV) (h : AHeap) (K : Kont) : Bool :=
  optK (buildV [.int .i64 0, .str [], .int .i64 0, .bool false, .int .i64 0, .str [], .nilSlc, .nilSlc] [(0, 1, (.int .i64 3)), (1, 1, x128)]) fun v124 => optK (buildV [.int .i64 0, .str [], .int .i64 0, .bool false, .int .i64 0, .str [], .nilSlc, .nilSlc, .int .i64 0] [(0, 8, v124), (8, 1, (.int .i64 1))]) fun v125 => optPK (unit (storeA h 9 x2 v125)) fun _ h => optR (resV h [(x2, some (true, 9))]) h K
set_option maxRecDepth 100000 in
noncomputable def p59_30 (call : CallFn) (n : Nat) (x1 x2 x3 x4 x48 : AV) (h : AHeap) (K : Kont) : Bool :=
  condK x48 (fadrK 1 x4 fun v41 => loadK h v41 fun v42 => eqlK v42 (.str [116, 114, 117, 101]) fun v43 => optK (buildV [.int .i64 0, .bool false, .int .i64 0, .str [], .nilSlc] [(0, 1, (.int .i64 1)), (1, 1, v43)]) fun v44 => call (.func 78) [v44] h <| pz K fun v45 h => p59_33001 call n x2 v45 h K) (loadK h x1 fun v47 => call (.func 20) [v47, (.str [110, 117, 108, 108])] h <| pz K fun v48 h => condK v48 (optK (buildV [.int .i64 0, .bool false, .int .i64 0, .str [], .nilSlc] []) fun v49 => call (.func 78) [v49] h <| pz K fun v50 h => p59_39001 call n x2 v50 h K) (fadrK 0 x4 fun v52 => loadK h v52 fun v53 => eqlK v53 (.int .i64 1) fun v54 => condK v54 (loadK h x1 fun v55 => call (.func 45) [v55] h <| pz K fun v56 h => p59_45001 call n x2 v56 h K) (loadK h x1 fun v60 => call (.func 33) [v60, (.int .i64 0), (.str [40])] h <| pz K fun v61 h => condK v61 (loadK h x1 fun v62 => call (.func 35) [v62, (.str [40])] h <| pz K fun v63 h => loadK h x1 fun v64 => call (.func 18) [v64, (.int .i64 0)] h <| pz K fun v65 h => p59_53001 call n x1 x2 v65 h K) (loadK h x1 fun v72 => call (.func 33) [v72, (.int .i64 0), (.str [91])] h <| pz K fun v73 h => condK v73 (allocK h [.nilSlc] 1 fun v74 h => loadK h x1 fun v75 => call (.func 35) [v75, (.str [91])] h <| pz K fun v76 h => loadK h x1 fun v77 => optK (some (.fn (.func 79) [] [v74, x1])) fun v78 => call (.func 43) [v77, (.str [93]), v78] h <| pz K fun v79 h => optK (buildV [.int .i64 0, .str [], .int .i64 0, .bool false, .int .i64 0, .str [], .nilSlc, .nilSlc] [(0, 1, (.int .i64 5))]) fun v80 => loadK h v74 fun v81 => call (.func 32) [x3, v80, v81] h <| pz K fun v82 h => p59_69001 call n x2 v82 h K) (loadK h x1 fun v84 => call (.func 20) [v84, (.str [115, 105, 122, 101])] h <| pz K fun v85 h => condK v85 (loadK h x1 fun v86 => call (.func 35) [v86, (.str [40])] h <| pz K fun v87 h => loadK h x1 fun v88 => call (.func 18) [v88, (.int .i64 0)] h <| pz K fun v89 h => p59_77001 call n x1 x2 x3 v89 h K) (loadK h x1 fun v99 => call (.func 20) [v99, (.str [104, 97, 115])] h <| pz K fun v100 h => condK v100 (loadK h x1 fun v101 => call (.func 35) [v101, (.str [40])] h <| pz K fun v102 h => loadK h x1 fun v103 => call (.func 18) [v103, (.int .i64 0)] h <| pz K fun v104 h => p59_89001 call n x1 x2 x3 v104 h K) (loadK h x1 fun v122 => call (.func 34) [v122] h <| pz K fun v123 h => p59_101001 call n x2 v123 h K)))))))
noncomputable def s59 (call : CallFn) (n : Nat) (x0 : AV) (h : AHeap) (K : Kont) : Bool :=
  boxK h x0 fun v1 h => allocK h [.int .i64 0, .str [], .int .i64 0, .bool false, .int .i64 0, .str [], .nilSlc, .nilSlc, .int .i64 0] 9 fun v2 h => loadK h v1 fun v3 => loadK h v1 fun v4 => allocK h [.int .i64 0, .str [], .int .i64 0, .int .i64 0] 4 fun v5 h => loadK h v1 <| sameK v3 <| loadK h v1 <| sameK v4 <| call (.func 30) [v3] h <| pz (goneQ [v5] K) fun v6 h => loadK h v1 <| sameK v4 <| call (.func 31) [v4, (.int .i64 0)] h <| pz (goneQ [v5] K) fun v7 h => optPK (unit (storeA h 4 v5 v7)) fun _ h => fadrK 0 v5 fun v9 => loadK h v9 fun v10 => eqlK v10 (.int .i64 2) fun v11 => condK v11 (fadrK 1 v5 fun v12 => loadK h v12 fun v13 => call (.func 53) [v13, (.int .i64 10), (.int .i64 64)] h <| pz K fun v14 h => p59_11001 call n v1 v2 v14 h K) (fadrK 0 v5 fun v31 => loadK h v31 fun v32 => eqlK v32 (.int .i64 3) fun v33 => condK v33 (loadK h v1 fun v34 => call (.func 51) [v34] h <| pz K fun v35 h => p59_23001 call n v2 v35 h K) (loadK h v1 fun v39 => call (.func 20) [v39, (.str [116, 114, 117, 101])] h <| pz K fun v40 h => condK v40 (p59_30 call n v1 v2 v6 v5 v40 h K) (loadK h v1 fun v127 => call (.func 20) [v127, (.str [102, 97, 108, 115, 101])] h <| pz K fun v128 h => p59_30 call n v1 v2 v6 v5 v128 h K)))

/-! ### 62 (*proctor/parse.parser).block -/
noncomputable def s62 (call : CallFn) (n : Nat) (x0 : AV) (h : AHeap) (K : Kont) : Bool :=
  call (.func 35) [x0, (.str [40])] h <| pz K fun v1 h => optPK (bsliceV h 1 1 [.str []] [(0, (.str [41]))]) fun v2 h => call (.func 63) [x0, v2] h <| pz K fun v3 h => call (.func 38) [x0, (.str [41])] h <| pz K fun v4 h => K v3 h

/-! ### 63 (*proctor/parse.parser).some -/
noncomputable def p63_4001 (call : CallFn) (n : Nat) (x0 x1 x7 : AV) (h : AHeap) (K : Kont) : Bool :=
  allocK h [.int .i64 0, .str [], .str [], .nilSlc, .nilSlc, .nilSlc, .nilSlc, .nilSlc, .int .i64 0, .str [], .int .i64 0, .bool false, .int .i64 0, .str [], .nilSlc, .nilSlc, .str [], .str [], .nilSlc] 19 fun v2 h => optPK (unit (storeA h 19 v2 x7)) fun _ h => loadGK h 19 v2 fun v4 => optPK (bsliceV h 1 19 [.int .i64 0, .str [], .str [], .nilSlc, .nilSlc, .nilSlc, .nilSlc, .nilSlc, .int .i64 0, .str [], .int .i64 0, .bool false, .int .i64 0, .str [], .nilSlc, .nilSlc, .str [], .str [], .nilSlc] [(0, v4)]) fun v5 h => loadGK h 19 v2 <| sameK v4 <| call (.func 41) [x0, x1] h <| pz (goneQ [v5] K) fun v6 h => loadGK h 19 v2 <| sameK v4 <| optPK (appendA h 19 328 v5 v6) fun v7 h => K v7 h
noncomputable def s63 (call : CallFn) (n : Nat) (x0 x1 : AV) (h : AHeap) (K : Kont) : Bool :=
  call (.func 54) [x0] h <| pz K fun v1 h => p63_4001 call n x0 x1 v1 h K

/-! ### 64 (*proctor/parse.parser).or -/
noncomputable def p64_25 (call : CallFn) (n : Nat) (x0 x2 x3 : AV) (h : AHeap) (K : Kont) : Bool :=
  call (.func 38) [x0, (.str [41])] h <| pz K fun v25 h => loadGK h 19 x3 fun v26 => optPK (unit (storeA h 19 x2 v26)) fun _ h => optR (resV h [(x2, some (true, 19))]) h K
noncomputable def b64_14 (call : CallFn) (n : Nat) (B14 : F4) (x0 x2 x3 x4 : AV) (h : AHeap) (K : Kont) : Bool :=
  condK x4 (fadrK 7 x3 fun v16 => loadK h v16 fun v17 => optPK (bsliceV h 2 1 [.str []] [(0, (.str [111, 114])), (1, (.str [41]))]) fun v18 h => loadK h v16 <| sameK v17 <| call (.func 63) [x0, v18] h <| pz (goneQ [v18] K) fun v19 h => loadK h v16 <| sameK v17 <| optPK (bsliceV h 1 1 [.nilSlc] [(0, v19)]) fun v20 h => loadK h v16 <| sameK v17 <| optPK (appendA h 1 24 v17 v20) fun v21 h => fadrK 7 x3 fun v22 => storeK h v22 v21 fun h => call (.func 20) [x0, (.str [111, 114])] h <| pz K fun v24 h => B14 x0 x2 x3 v24 h) (p64_25 call n x0 x2 x3 h K)
noncomputable def l64_14 (call : CallFn) (n : Nat) : Nat → AV → AV → AV → AV → AHeap → Kont → Bool :=
  @Nat.rec (fun _ => AV → AV → AV → AV → AHeap → Kont → Bool) (fun _ _ _ _ _ _ => false) (fun _ ih x0 x2 x3 x4 h K => b64_14 call n (fun x0 x2 x3 x4 h => ih x0 x2 x3 x4 h K) x0 x2 x3 x4 h K)
noncomputable def s64 (call : CallFn) (n : Nat) (x0 : AV) (h : AHeap) (K : Kont) : Bool :=
  allocK h [.int .i64 0, .str [], .str [], .nilSlc, .nilSlc, .nilSlc, .nilSlc, .nilSlc, .int .i64 0, .str [], .int .i64 0, .bool false, .int .i64 0, .str [], .nilSlc, .nilSlc, .str [], .str [], .nilSlc] 19 fun v1 h => optK (buildV [.int .i64 0, .str [], .str [], .nilSlc, .nilSlc, .nilSlc, .nilSlc, .nilSlc, .int .i64 0, .str [], .int .i64 0, .bool false, .int .i64 0, .str [], .nilSlc, .nilSlc, .str [], .str [], .nilSlc] [(0, 1, (.int .i64 5))]) fun v2 => allocK h [.int .i64 0, .str [], .str [], .nilSlc, .nilSlc, .nilSlc, .nilSlc, .nilSlc, .int .i64 0, .str [], .int .i64 0, .bool false, .int .i64 0, .str [], .nilSlc, .nilSlc, .str [], .str [], .nilSlc] 19 fun v3 h => optPK (unit (storeA h 19 v3 v2)) fun _ h => call (.func 35) [x0, (.str [40])] h <| pz K fun v5 h => fadrK 7 v3 fun v6 => loadK h v6 fun v7 => optPK (bsliceV h 2 1 [.str []] [(0, (.str [111, 114])), (1, (.str [41]))]) fun v8 h => loadK h v6 <| sameK v7 <| call (.func 63) [x0, v8] h <| pz (goneQ [v8] K) fun v9 h => loadK h v6 <| sameK v7 <| optPK (bsliceV h 1 1 [.nilSlc] [(0, v9)]) fun v10 h => loadK h v6 <| sameK v7 <| optPK (appendA h 1 24 v7 v10) fun v11 h => fadrK 7 v3 fun v12 => storeK h v12 v11 fun h => optPK (bsliceV h 1 1 [.str []] [(0, (.str [111, 114]))]) fun v14 h => call (.func 23) [x0, v14] h <| pz K fun v15 h => l64_14 call n n x0 v1 v3 (.bool true) h K

/-! ### 65 (*proctor/parse.parser).acc -/
noncomputable def p65_24001 (call : CallFn) (n : Nat) (x0 x2 x3 x30 : AV) (h : AHeap) (K : Kont) : Bool :=
  fadrK 5 x3 fun v21 => storeK h v21 x30 fun h => call (.func 38) [x0, (.str [41])] h <| pz K fun v23 h => loadGK h 19 x3 fun v24 => optPK (unit (storeA h 19 x2 v24)) fun _ h => optR (resV h [(x2, some (true, 19))]) h K
noncomputable def p65_18001 (call : CallFn) (n : Nat) (x0 x2 x3 x21 : AV) (h : AHeap) (K : Kont) : Bool :=
  fadrK 8 x3 fun v14 => optPK (unit (storeA h 8 v14 x21)) fun _ h => call (.func 38) [x0, (.str [41])] h <| pz K fun v16 h => optPK (bsliceV h 1 1 [.str []] [(0, (.str [111, 118, 101, 114]))]) fun v17 h => call (.func 23) [x0, v17] h <| pz K fun v18 h => optPK (bsliceV h 1 1 [.str []] [(0, (.str [41]))]) fun v19 h => call (.func 63) [x0, v19] h <| pz K fun v20 h => p65_24001 call n x0 x2 x3 v20 h K
noncomputable def p65_14 (call : CallFn) (n : Nat) (x0 x2 x3 : AV) (h : AHeap) (K : Kont) : Bool :=
  call (.func 35) [x0, (.str [40])] h <| pz K fun v12 h => call (.func 11) [x0] h <| pz K fun v13 h => p65_18001 call n x0 x2 x3 v13 h K
noncomputable def p65_14001 (call : CallFn) (n : Nat) (x0 x2 x3 x16 : AV) (h : AHeap) (K : Kont) : Bool :=
  fadrK 16 x3 fun v27 => storeK h v27 x16 fun h => p65_14 call n x0 x2 x3 h K
noncomputable def p65_6001 (call : CallFn) (n : Nat) (x0 x2 x7 : AV) (h : AHeap) (K : Kont) : Bool :=
  optK (buildV [.int .i64 0, .str [], .str [], .nilSlc, .nilSlc, .nilSlc, .nilSlc, .nilSlc, .int .i64 0, .str [], .int .i64 0, .bool false, .int .i64 0, .str [], .nilSlc, .nilSlc, .str [], .str [], .nilSlc] [(0, 1, (.int .i64 7)), (1, 1, x7)]) fun v4 => allocK h [.int .i64 0, .str [], .str [], .nilSlc, .nilSlc, .nilSlc, .nilSlc, .nilSlc, .int .i64 0, .str [], .int .i64 0, .bool false, .int .i64 0, .str [], .nilSlc, .nilSlc, .str [], .str [], .nilSlc] 19 fun v5 h => optPK (unit (storeA h 19 v5 v4)) fun _ h => optPK (bsliceV h 1 1 [.str []] [(0, (.str [58]))]) fun v7 h => call (.func 23) [x0, v7] h <| pz K fun v8 h => call (.func 20) [x0, (.str [108, 105, 115, 116])] h <| pz K fun v9 h => condK v9 (fadrK 16 v5 fun v10 => storeK h v10 (.str [108, 105, 115, 116]) fun h => p65_14 call n x0 x2 v5 h K) (call (.func 34) [x0] h <| pz K fun v26 h => p65_14001 call n x0 x2 v5 v26 h K)
noncomputable def s65 (call : CallFn) (n : Nat) (x0 : AV) (h : AHeap) (K : Kont) : Bool :=
  allocK h [.int .i64 0, .str [], .str [], .nilSlc, .nilSlc, .nilSlc, .nilSlc, .nilSlc, .int .i64 0, .str [], .int .i64 0, .bool false, .int .i64 0, .str [], .nilSlc, .nilSlc, .str [], .str [], .nilSlc] 19 fun v1 h => call (.func 35) [x0, (.str [40])] h <| pz K fun v2 h => call (.func 45) [x0] h <| pz K fun v3 h => p65_6001 call n x0 v1 v3 h K

/-! ### 66 (*proctor/parse.parser).ask -/
noncomputable def p66_4001 (call : CallFn) (n : Nat) (x1 x2 x5 : AV) (h : AHeap) (K : Kont) : Bool :=
  optK (buildV [.int .i64 0, .str [], .str [], .nilSlc, .nilSlc, .nilSlc, .nilSlc, .nilSlc, .int .i64 0, .str [], .int .i64 0, .bool false, .int .i64 0, .str [], .nilSlc, .nilSlc, .str [], .str [], .nilSlc] [(0, 1, (.int .i64 9)), (17, 1, x5)]) fun v5 => allocK h [.int .i64 0, .str [], .str [], .nilSlc, .nilSlc, .nilSlc, .nilSlc, .nilSlc, .int .i64 0, .str [], .int .i64 0, .bool false, .int .i64 0, .str [], .nilSlc, .nilSlc, .str [], .str [], .nilSlc] 19 fun v6 h => optPK (unit (storeA h 19 v6 v5)) fun _ h => loadK h x1 fun v8 => call (.func 35) [v8, (.str [40])] h <| pz K fun v9 h => loadK h x1 fun v10 => optK (some (.fn (.func 85) [] [x1, v6])) fun v11 => call (.func 43) [v10, (.str [41]), v11] h <| pz K fun v12 h => loadGK h 19 v6 fun v13 => optPK (unit (storeA h 19 x2 v13)) fun _ h => optR (resV h [(x2, some (true, 19))]) h K
noncomputable def s66 (call : CallFn) (n : Nat) (x0 : AV) (h : AHeap) (K : Kont) : Bool :=
  boxK h x0 fun v1 h => allocK h [.int .i64 0, .str [], .str [], .nilSlc, .nilSlc, .nilSlc, .nilSlc, .nilSlc, .int .i64 0, .str [], .int .i64 0, .bool false, .int .i64 0, .str [], .nilSlc, .nilSlc, .str [], .str [], .nilSlc] 19 fun v2 h => loadK h v1 fun v3 => call (.func 34) [v3] h <| pz K fun v4 h => p66_4001 call n v1 v2 v4 h K

/-! ### 67 (*proctor/parse.parser).pattern -/
noncomputable def p67_14001 (call : CallFn) (n : Nat) (x1 x2 x3 x14 : AV) (h : AHeap) (K : Kont) : Bool :=
  fadrK 2 x3 fun v17 => storeK h v17 x14 fun h => loadK h x1 fun v19 => call (.func 35) [v19, (.str [40])] h <| pz K fun v20 h => loadK h x1 fun v21 => optK (some (.fn (.func 86) [] [x1, x3])) fun v22 => call (.func 43) [v21, (.str [41]), v22] h <| pz K fun v23 h => loadGK h 19 x3 fun v24 => optPK (unit (storeA h 19 x2 v24)) fun _ h => optR (resV h [(x2, some (true, 19))]) h K
noncomputable def p67_12 (call : CallFn) (n : Nat) (x1 x2 x3 : AV) (h : AHeap) (K : Kont) : Bool :=
  loadK h x1 fun v15 => call (.func 34) [v15] h <| pz K fun v16 h => p67_14001 call n x1 x2 x3 v16 h K
noncomputable def p67_10001 (call : CallFn) (n : Nat) (x1 x2 x3 x8 : AV) (h : AHeap) (K : Kont) : Bool :=
  fadrK 1 x3 fun v10 => storeK h v10 x8 fun h => loadK h x1 fun v12 => optPK (bsliceV h 1 1 [.str []] [(0, (.str [58]))]) fun v13 h => call (.func 23) [v12, v13] h <| pz K fun v14 h => p67_12 call n x1 x2 x3 h K
noncomputable def s67 (call : CallFn) (n : Nat) (x0 : AV) (h : AHeap) (K : Kont) : Bool :=
  boxK h x0 fun v1 h => allocK h [.int .i64 0, .str [], .str [], .nilSlc, .nilSlc, .nilSlc, .nilSlc, .nilSlc, .int .i64 0, .str [], .int .i64 0, .bool false, .int .i64 0, .str [], .nilSlc, .nilSlc, .str [], .str [], .nilSlc] 19 fun v2 h => optK (buildV [.int .i64 0, .str [], .str [], .nilSlc, .nilSlc, .nilSlc, .nilSlc, .nilSlc, .int .i64 0, .str [], .int .i64 0, .bool false, .int .i64 0, .str [], .nilSlc, .nilSlc, .str [], .str [], .nilSlc] [(0, 1, (.int .i64 1))]) fun v3 => allocK h [.int .i64 0, .str [], .str [], .nilSlc, .nilSlc, .nilSlc, .nilSlc, .nilSlc, .int .i64 0, .str [], .int .i64 0, .bool false, .int .i64 0, .str [], .nilSlc, .nilSlc, .str [], .str [], .nilSlc] 19 fun v4 h => optPK (unit (storeA h 19 v4 v3)) fun _ h => loadK h v1 fun v6 => call (.func 52) [v6, (.int .i64 1)] h <| pz K fun v7 h => condK v7 (loadK h v1 fun v8 => call (.func 45) [v8] h <| pz K fun v9 h => p67_10001 call n v1 v2 v4 v9 h K) (p67_12 call n v1 v2 v4 h K)

/-! ### 68 (*proctor/parse.parser).sets$1 -/
noncomputable def p68_6001 (call : CallFn) (n : Nat) (x1 x2 x10 : AV) (h : AHeap) (K : Kont) : Bool :=
  fadrK 1 x2 fun v11 => optPK (unit (storeA h 8 v11 x10)) fun _ h => loadK h x1 fun v13 => loadGK h 9 x2 fun v14 => optPK (bsliceV h 1 9 [.str [], .int .i64 0, .str [], .int .i64 0, .bool false, .int .i64 0, .str [], .nilSlc, .nilSlc] [(0, v14)]) fun v15 h => optPK (appendA h 9 128 v13 v15) fun v16 h => storeK h x1 v16 fun h => K (.tup []) h
noncomputable def p68_2001 (call : CallFn) (n : Nat) (x0 x1 x4 : AV) (h : AHeap) (K : Kont) : Bool :=
  optK (buildV [.str [], .int .i64 0, .str [], .int .i64 0, .bool false, .int .i64 0, .str [], .nilSlc, .nilSlc] [(0, 1, x4)]) fun v3 => allocK h [.str [], .int .i64 0, .str [], .int .i64 0, .bool false, .int .i64 0, .str [], .nilSlc, .nilSlc] 9 fun v4 h => optPK (unit (storeA h 9 v4 v3)) fun _ h => loadK h x0 fun v6 => optPK (bsliceV h 1 1 [.str []] [(0, (.str [61]))]) fun v7 h => call (.func 23) [v6, v7] h <| pz K fun v8 h => loadK h x0 fun v9 => call (.func 11) [v9] h <| pz K fun v10 h => p68_6001 call n x1 v4 v10 h K
noncomputable def s68 (call : CallFn) (n : Nat) (x0 x1 : AV) (h : AHeap) (K : Kont) : Bool :=
  loadK h x0 fun v1 => call (.func 34) [v1] h <| pz K fun v2 h => p68_2001 call n x0 x1 v2 h K

/-! ### 69 (*proctor/lex.lexer).peek -/
noncomputable def s69 (call : CallFn) (n : Nat) (x0 x1 : AV) (h : AHeap) (K : Kont) : Bool :=
  nilckK x0 fun v1 => fadrK 1 v1 fun v2 => loadK h v2 fun v3 => addK v3 x1 fun v4 => nilckK x0 fun v5 => fadrK 0 v5 fun v6 => loadK h v6 fun v7 => lenSK v7 fun v8 => geqK v4 v8 fun v9 => condK v9 (K (.int .u8 0) h) (nilckK x0 fun v10 => fadrK 0 v10 fun v11 => loadK h v11 fun v12 => nilckK x0 fun v13 => fadrK 1 v13 fun v14 => loadK h v14 fun v15 => addK v15 x1 fun v16 => idxsK v12 v16 fun v17 => K v17 h)

/-! ### 70 strings.IndexByte -/
noncomputable def s70 (call : CallFn) (n : Nat) (x0 x1 : AV) (h : AHeap) (K : Kont) : Bool :=
  call (.func 87) [x0, x1] h <| pz K fun v1 h => K v1 h

/-! ### 71 (*proctor/lex.lexer).next$1 -/
noncomputable def s71 (call : CallFn) (n : Nat) (x0 x1 x2 : AV) (h : AHeap) (K : Kont) : Bool :=
  loadK h x2 fun v1 => nilckK v1 fun v2 => fadrK 0 v2 fun v3 => loadK h v3 fun v4 => loadK h x2 fun v5 => nilckK v5 fun v6 => fadrK 1 v6 fun v7 => loadK h v7 fun v8 => addK v8 x0 fun v9 => loadK h x2 fun v10 => nilckK v10 fun v11 => fadrK 1 v11 fun v12 => loadK h v12 fun v13 => addK v13 x0 fun v14 => addK v14 x1 fun v15 => optK (sliceSV v4 (some v9) (some v15)) fun v16 => K v16 h

/-! ### 72 proctor/lex.letter -/
noncomputable def s72 (call : CallFn) (n : Nat) (x0 : AV) (h : AHeap) (K : Kont) : Bool :=
  geqK x0 (.int .u8 97) fun v1 => gK v1 true (optK (some x0)) fun v2 => gK v1 true (leqK v2 (.int .u8 122)) fun v3 => pickK v1 v3 (.bool false) fun v4 => gK v4 false (optK (some x0)) fun v5 => gK v4 false (geqK v5 (.int .u8 65)) fun v6 => gK v4 false (optK (some v6)) fun v7 => gK v7 true (optK (some x0)) fun v8 => gK v7 true (leqK v8 (.int .u8 90)) fun v9 => gK v4 false (pickK v7 v9 (.bool false)) fun v10 => pickK v4 (.bool true) v10 fun v11 => K v11 h

/-! ### 73 (*proctor/lex.lexer).word -/
noncomputable def p73_5002 (call : CallFn) (n : Nat) (x0 x1 x8 : AV) (h : AHeap) (K : Kont) : Bool :=
  notK x8 fun v3 => condK v3 (K (.int .i64 0) h) (call (.func 75) [x0, x1, (.fn (.func 88) [] [])] h <| pz K fun v4 h => K v4 h)
noncomputable def p73_5001 (call : CallFn) (n : Nat) (x0 x1 x7 : AV) (h : AHeap) (K : Kont) : Bool :=
  call (.func 72) [x7] h <| pz K fun v2 h => p73_5002 call n x0 x1 v2 h K
noncomputable def s73 (call : CallFn) (n : Nat) (x0 x1 : AV) (h : AHeap) (K : Kont) : Bool :=
  call (.func 69) [x0, x1] h <| pz K fun v1 h => p73_5001 call n x0 x1 v1 h K

/-! ### 74 proctor/lex.digit -/
noncomputable def s74 (call : CallFn) (n : Nat) (x0 : AV) (h : AHeap) (K : Kont) : Bool :=
  geqK x0 (.int .u8 48) fun v1 => gK v1 true (optK (some x0)) fun v2 => gK v1 true (leqK v2 (.int .u8 57)) fun v3 => pickK v1 v3 (.bool false) fun v4 => K v4 h

/-! ### 75 (*proctor/lex.lexer).run -/
noncomputable def b75_6 (call : CallFn) (n : Nat) (B6 : F4) (x0 x1 x2 x7 : AV) (h : AHeap) (K : Kont) : Bool :=
  nilckK x0 fun v1 => fadrK 1 v1 fun v2 => loadK h v2 fun v3 => addK v3 x1 fun v4 => addK v4 x7 fun v5 => nilckK x0 fun v6 => fadrK 0 v6 fun v7 => loadK h v7 fun v8 => lenSK v8 fun v9 => lssK v5 v9 fun v10 => gK v10 true (optK (some x2)) fun v11 => gK v10 true (optK (some x0)) fun v12 => gK v10 true (nilckK v12) fun v13 => gK v10 true (fadrK 0 v13) fun v14 => gK v10 true (loadK h v14) fun v15 => gK v10 true (optK (some x0)) fun v16 => gK v10 true (nilckK v16) fun v17 => gK v10 true (fadrK 1 v17) fun v18 => gK v10 true (loadK h v18) fun v19 => gK v10 true (optK (some x1)) fun v20 => gK v10 true (addK v19 v20) fun v21 => gK v10 true (optK (some x7)) fun v22 => gK v10 true (addK v21 v22) fun v23 => gK v10 true (idxsK v15 v23) fun v24 => gP v10 true (fun k => callV call v11 [v24] h (pz K k)) h fun v25 h => pickK v10 v25 (.bool false) fun v26 => condK v26 (addK x7 (.int .i64 1) fun v27 => B6 x0 x1 x2 v27 h) (K x7 h)
noncomputable def l75_6 (call : CallFn) (n : Nat) : Nat → AV → AV → AV → AV → AHeap → Kont → Bool :=
  @Nat.rec (fun _ => AV → AV → AV → AV → AHeap → Kont → Bool) (fun _ _ _ _ _ _ => false) (fun _ ih x0 x1 x2 x7 h K => b75_6 call n (fun x0 x1 x2 x7 h => ih x0 x1 x2 x7 h K) x0 x1 x2 x7 h K)
noncomputable def s75 (call : CallFn) (n : Nat) (x0 x1 x2 : AV) (h : AHeap) (K : Kont) : Bool :=
  l75_6 call n n x0 x1 x2 (.int .i64 0) h K

/-! ### 76 (*proctor/lex.lexer).quoted -/
noncomputable def p76_25001 (call : CallFn) (n : Nat) (B8 : F3) (x5 x30 : AV) (h : AHeap) (K : Kont) : Bool :=
  addK x5 (.int .i64 1) fun v14 => K (.tup [x30, v14]) h
noncomputable def p76_49 (call : CallFn) (n : Nat) (B8 : F3) (x0 x4 x5 : AV) (h : AHeap) (K : Kont) : Bool :=
  addK x5 (.int .i64 1) fun v22 => B8 x0 x4 v22 h
noncomputable def p76_33001 (call : CallFn) (n : Nat) (B8 : F3) (x0 x4 x5 x40 : AV) (h : AHeap) (K : Kont) : Bool :=
  call (.func 70) [(.str [34, 92, 110, 116]), x40] h <| pz K fun v18 h => lssK v18 (.int .i64 0) fun v19 => condK v19 (K (.tup [(.str []), (.int .i64 0)]) h) (idxsK (.str [34, 92, 10, 9]) v18 fun v20 => call (.func 90) [x4, v20] h <| pz K fun v21 h => p76_49 call n B8 x0 x4 x5 h K)
noncomputable def b76_8 (call : CallFn) (n : Nat) (B8 : F3) (x0 x4 x5 : AV) (h : AHeap) (K : Kont) : Bool :=
  nilckK x0 fun v2 => fadrK 1 v2 fun v3 => loadK h v3 fun v4 => addK v4 x5 fun v5 => nilckK x0 fun v6 => fadrK 0 v6 fun v7 => loadK h v7 fun v8 => lenSK v8 fun v9 => lssK v5 v9 fun v10 => condK v10 (call (.func 69) [x0, x5] h <| pz K fun v11 h => eqlK v11 (.int .u8 34) fun v12 => condK v12 (call (.func 89) [x4] h <| pz K fun v13 h => p76_25001 call n B8 x5 v13 h K) (eqlK v11 (.int .u8 92) fun v15 => condK v15 (addK x5 (.int .i64 1) fun v16 => call (.func 69) [x0, v16] h <| pz K fun v17 h => p76_33001 call n B8 x0 x4 v16 v17 h K) (lssK v11 (.int .u8 32) fun v23 => condK v23 (K (.tup [(.str []), (.int .i64 0)]) h) (call (.func 90) [x4, v11] h <| pz K fun v24 h => p76_49 call n B8 x0 x4 x5 h K)))) (K (.tup [(.str []), (.int .i64 0)]) h)
noncomputable def l76_8 (call : CallFn) (n : Nat) : Nat → AV → AV → AV → AHeap → Kont → Bool :=
  @Nat.rec (fun _ => AV → AV → AV → AHeap → Kont → Bool) (fun _ _ _ _ _ => false) (fun _ ih x0 x4 x5 h K => b76_8 call n (fun x0 x4 x5 h => ih x0 x4 x5 h K) x0 x4 x5 h K)
noncomputable def s76 (call : CallFn) (n : Nat) (x0 : AV) (h : AHeap) (K : Kont) : Bool :=
  optPK (allotV h 150 [.nilPtr, .nilSlc]) fun v1 h => l76_8 call n n x0 v1 (.int .i64 1) h K

/-! ### 77 (*proctor/lex.lexer).mark -/
noncomputable def p77_25 (call : CallFn) (n : Nat) (x0 : AV) (h : AHeap) (K : Kont) : Bool :=
  nilckK x0 fun v15 => fadrK 0 v15 fun v16 => loadK h v16 fun v17 => nilckK x0 fun v18 => fadrK 1 v18 fun v19 => loadK h v19 fun v20 => idxsK v17 v20 fun v21 => call (.func 70) [(.str [40, 41, 91, 93, 123, 125, 44, 46, 58, 59, 63, 60, 62, 61, 43, 45, 42, 47, 37, 33]), v21] h <| pz K fun v22 h => geqK v22 (.int .i64 0) fun v23 => condK v23 (K (.int .i64 1) h) (K (.int .i64 0) h)
noncomputable def b77_6 (call : CallFn) (n : Nat) (B6 : F4) (x0 x5 x6 x7 : AV) (h : AHeap) (K : Kont) : Bool :=
  lssK x7 x6 fun v3 => condK v3 (iadrK h 1 x5 x7 fun v4 => loadK h v4 fun v5 => nilckK x0 fun v6 => fadrK 0 v6 fun v7 => loadK h v7 fun v8 => nilckK x0 fun v9 => fadrK 1 v9 fun v10 => loadK h v10 fun v11 => optK (sliceSV v8 (some v11) none) fun v12 => call (.func 91) [v12, v5] h <| pz K fun v13 h => condK v13 (K (.int .i64 2) h) (addK x7 (.int .i64 1) fun v14 => B6 x0 x5 x6 v14 h)) (p77_25 call n x0 h K)
noncomputable def l77_6 (call : CallFn) (n : Nat) : Nat → AV → AV → AV → AV → AHeap → Kont → Bool :=
  @Nat.rec (fun _ => AV → AV → AV → AV → AHeap → Kont → Bool) (fun _ _ _ _ _ _ => false) (fun _ ih x0 x5 x6 x7 h K => b77_6 call n (fun x0 x5 x6 x7 h => ih x0 x5 x6 x7 h K) x0 x5 x6 x7 h K)
noncomputable def s77 (call : CallFn) (n : Nat) (x0 : AV) (h : AHeap) (K : Kont) : Bool :=
  optPK (bsliceV h 6 1 [.str []] [(0, (.str [61, 61])), (1, (.str [33, 61])), (2, (.str [60, 61])), (3, (.str [62, 61])), (4, (.str [38, 38])), (5, (.str [124, 124]))]) fun v1 h => lenK v1 fun v2 => l77_6 call n n x0 v1 v2 (.int .i64 0) h K

/-! ### 78 proctor/parse.literal -/
noncomputable def s78 (call : CallFn) (n : Nat) (x0 : AV) (h : AHeap) (K : Kont) : Bool :=
  optPK (boxA h 5 x0) fun v1 h => allocK h [.int .i64 0, .str [], .int .i64 0, .bool false, .int .i64 0, .str [], .nilSlc, .nilSlc, .int .i64 0] 9 fun v2 h => loadGK h 5 v1 fun v3 => optK (buildV [.int .i64 0, .str [], .int .i64 0, .bool false, .int .i64 0, .str [], .nilSlc, .nilSlc] [(0, 1, (.int .i64 1)), (2, 5, v3)]) fun v4 => optK (buildV [.int .i64 0, .str [], .int .i64 0, .bool false, .int .i64 0, .str [], .nilSlc, .nilSlc, .int .i64 0] [(0, 8, v4), (8, 1, (.int .i64 1))]) fun v5 => optPK (unit (storeA h 9 v2 v5)) fun _ h => optR (resV h [(v2, some (true, 9))]) h K

/-! ### 79 (*proctor/parse.parser).atom$1 -/
noncomputable def s79 (call : CallFn) (n : Nat) (x0 x1 : AV) (h : AHeap) (K : Kont) : Bool :=
  loadK h x0 fun v1 => loadK h x1 fun v2 => call (.func 18) [v2, (.int .i64 0)] h <| pz K fun v3 h => loadK h x0 <| sameK v1 <| optPK (bsliceV h 1 9 [.int .i64 0, .str [], .int .i64 0, .bool false, .int .i64 0, .str [], .nilSlc, .nilSlc, .int .i64 0] [(0, v3)]) fun v4 h => loadK h x0 <| sameK v1 <| loadK h x1 <| sameK v2 <| optPK (appendA h 9 120 v1 v4) fun v5 h => storeK h x0 v5 fun h => K (.tup []) h

/-! ### 85 (*proctor/parse.parser).ask$1 -/
noncomputable def p85_2002 (call : CallFn) (n : Nat) (x0 x1 x4 x6 : AV) (h : AHeap) (K : Kont) : Bool :=
  pickK x4 x6 (.bool false) fun v5 => condK v5 (fadrK 18 x1 fun v6 => loadK h v6 fun v7 => loadK h x0 fun v8 => call (.func 45) [v8] h <| pz K fun v9 h => loadK h v6 <| sameK v7 <| optK (buildV [.str [], .int .i64 0, .str [], .int .i64 0, .bool false, .int .i64 0, .str [], .nilSlc, .nilSlc] [(0, 1, v9)]) fun v10 => optPK (bsliceV h 1 9 [.str [], .int .i64 0, .str [], .int .i64 0, .bool false, .int .i64 0, .str [], .nilSlc, .nilSlc] [(0, v10)]) fun v11 h => loadK h v6 <| sameK v7 <| loadK h x0 <| sameK v8 <| optPK (appendA h 9 128 v7 v11) fun v12 h => fadrK 18 x1 fun v13 => storeK h v13 v12 fun h => loadK h x0 fun v15 => optPK (bsliceV h 1 1 [.str []] [(0, (.str [63]))]) fun v16 h => call (.func 23) [v15, v16] h <| pz K fun v17 h => K (.tup []) h) (fadrK 18 x1 fun v18 => loadK h v18 fun v19 => loadK h x0 fun v20 => call (.func 11) [v20] h <| pz K fun v21 h => loadK h v18 <| sameK v19 <| optK (buildV [.str [], .int .i64 0, .str [], .int .i64 0, .bool false, .int .i64 0, .str [], .nilSlc, .nilSlc] [(1, 8, v21)]) fun v22 => optPK (bsliceV h 1 9 [.str [], .int .i64 0, .str [], .int .i64 0, .bool false, .int .i64 0, .str [], .nilSlc, .nilSlc] [(0, v22)]) fun v23 h => loadK h v18 <| sameK v19 <| loadK h x0 <| sameK v20 <| optPK (appendA h 9 128 v19 v23) fun v24 h => fadrK 18 x1 fun v25 => storeK h v25 v24 fun h => K (.tup []) h)
noncomputable def p85_2001 (call : CallFn) (n : Nat) (x0 x1 x3 : AV) (h : AHeap) (K : Kont) : Bool :=
  gK x3 true (loadK h x0) fun v3 => gP x3 true (fun k => call (.func 33) [v3, (.int .i64 1), (.str [63])] h (pz K k)) h fun v4 h => p85_2002 call n x0 x1 x3 v4 h K
noncomputable def s85 (call : CallFn) (n : Nat) (x0 x1 : AV) (h : AHeap) (K : Kont) : Bool :=
  loadK h x0 fun v1 => call (.func 52) [v1, (.int .i64 1)] h <| pz K fun v2 h => p85_2001 call n x0 x1 v2 h K

/-! ### 86 (*proctor/parse.parser).pattern$1 -/
set_option maxRecDepth 100000 in
noncomputable def p86_2002 (call : CallFn) (n : Nat) (x0 x1 x5 x7 : AV) (h : AHeap) (K : Kont) : Bool :=
  pickK x5 x7 (.bool false) fun v5 => condK v5 (loadK h x0 fun v6 => call (.func 45) [v6] h <| pz K fun v7 h => loadK h x0 fun v8 => optPK (bsliceV h 1 1 [.str []] [(0, (.str [58]))]) fun v9 h => call (.func 23) [v8, v9] h <| pz K fun v10 h => fadrK 3 x1 fun v11 => loadK h v11 fun v12 => loadK h x0 fun v13 => call (.func 34) [v13] h <| pz K fun v14 h => loadK h v11 <| sameK v12 <| optK (buildV [.str [], .str []] [(0, 1, v7), (1, 1, v14)]) fun v15 => optPK (bsliceV h 1 2 [.str [], .str []] [(0, v15)]) fun v16 h => loadK h v11 <| sameK v12 <| loadK h x0 <| sameK v13 <| optPK (appendA h 2 32 v12 v16) fun v17 h => fadrK 3 x1 fun v18 => storeK h v18 v17 fun h => K (.tup []) h) (fadrK 4 x1 fun v20 => loadK h v20 fun v21 => loadK h x0 fun v22 => lenK v21 fun v23 => optPK (bsliceV h 1 8 [.int .i64 0, .str [], .int .i64 0, .bool false, .int .i64 0, .str [], .nilSlc, .nilSlc] [(0, (.agg [.int .i64 0, .str [], .int .i64 0, .bool false, .int .i64 0, .str [], .nilSlc, .nilSlc]))]) fun v24 h => loadK h v20 <| sameK v21 <| loadK h x0 <| sameK v22 <| lenK v21 <| sameK v23 <| call (.func 11) [v22] h <| pz (goneQ [v24] K) fun v25 h => loadK h v20 <| sameK v21 <| lenK v21 <| sameK v23 <| optPK (appendA h 8 112 v21 v24) fun v26 h => iadrK h 8 v26 v23 fun v27 => fadrK 4 x1 fun v28 => optPK (bif apartP v27 v28 then unit (storeA h 8 v27 v25) else none) fun _ h => storeK h v28 v26 fun h => iadrK h 8 v26 v23 <| sameK v27 <| K (.tup []) h)
noncomputable def p86_2001 (call : CallFn) (n : Nat) (x0 x1 x4 : AV) (h : AHeap) (K : Kont) : Bool :=
  gK x4 true (loadK h x0) fun v3 => gP x4 true (fun k => call (.func 33) [v3, (.int .i64 1), (.str [58])] h (pz K k)) h fun v4 h => p86_2002 call n x0 x1 x4 v4 h K
noncomputable def s86 (call : CallFn) (n : Nat) (x0 x1 : AV) (h : AHeap) (K : Kont) : Bool :=
  loadK h x0 fun v1 => call (.func 52) [v1, (.int .i64 1)] h <| pz K fun v2 h => p86_2001 call n x0 x1 v2 h K

/-! ### 87 internal/stringslite.IndexByte -/
noncomputable def s87 (call : CallFn) (n : Nat) (x0 x1 : AV) (h : AHeap) (K : Kont) : Bool :=
  call (.func 97) [x0, x1] h <| pz K fun v1 h => K v1 h

/-! ### 88 (*proctor/lex.lexer).word$1 -/
noncomputable def p88_4002 (call : CallFn) (n : Nat) (x0 x5 x7 : AV) (h : AHeap) (K : Kont) : Bool :=
  pickK x5 (.bool true) x7 fun v4 => gK v4 false (optK (some x0)) fun v5 => gK v4 false (eqlK v5 (.int .u8 95)) fun v6 => pickK v4 (.bool true) v6 fun v7 => K v7 h
noncomputable def p88_4001 (call : CallFn) (n : Nat) (x0 x4 : AV) (h : AHeap) (K : Kont) : Bool :=
  gK x4 false (optK (some x0)) fun v2 => gP x4 false (fun k => call (.func 74) [v2] h (pz K k)) h fun v3 h => p88_4002 call n x0 x4 v3 h K
noncomputable def s88 (call : CallFn) (n : Nat) (x0 : AV) (h : AHeap) (K : Kont) : Bool :=
  call (.func 72) [x0] h <| pz K fun v1 h => p88_4001 call n x0 v1 h K

/-! ### 89 (*strings.Builder).String -/
noncomputable def s89 (call : CallFn) (n : Nat) (x0 : AV) (h : AHeap) (K : Kont) : Bool :=
  nilckK x0 fun v1 => fadrK 1 v1 fun v2 => loadK h v2 fun v3 => optK (sdatA v3) fun v4 => nilckK x0 fun v5 => fadrK 1 v5 fun v6 => loadK h v6 fun v7 => lenK v7 fun v8 => optPK (ustrA h 5 v4 v8) fun v9 h => K v9 h

/-! ### 90 (*strings.Builder).WriteByte -/
noncomputable def s90 (call : CallFn) (n : Nat) (x0 x1 : AV) (h : AHeap) (K : Kont) : Bool :=
  call (.func 98) [x0] h <| pz K fun v1 h => nilckK x0 fun v2 => fadrK 1 v2 fun v3 => loadK h v3 fun v4 => optPK (bsliceV h 1 1 [.int .u8 0] [(0, x1)]) fun v5 h => optPK (appbA h 5 v4 v5) fun v6 h => nilckK x0 fun v7 => fadrK 1 v7 fun v8 => storeK h v8 v6 fun h => K .nilIf h

/-! ### 91 strings.HasPrefix -/
noncomputable def s91 (call : CallFn) (n : Nat) (x0 x1 : AV) (h : AHeap) (K : Kont) : Bool :=
  call (.func 99) [x0, x1] h <| pz K fun v1 h => K v1 h

/-! ### 98 (*strings.Builder).copyCheck -/
noncomputable def p98_4001 (call : CallFn) (n : Nat) (x7 x10 : AV) (h : AHeap) (K : Kont) : Bool :=
  optK (ufrA h 150 2 x10) fun v7 => nilckK x7 fun v8 => fadrK 0 v8 fun v9 => storeK h v9 v7 fun h => K (.tup []) h
noncomputable def s98 (call : CallFn) (n : Nat) (x0 : AV) (h : AHeap) (K : Kont) : Bool :=
  nilckK x0 fun v1 => fadrK 0 v1 fun v2 => loadK h v2 fun v3 => optK (eqV h false .ptr v3 .nilPtr) fun v4 => condK v4 (optK (utoA h x0) fun v5 => call (.func 101) [v5] h <| pz K fun v6 h => p98_4001 call n x0 v6 h K) (nilckK x0 fun v11 => fadrK 0 v11 fun v12 => loadK h v12 fun v13 => optK (eqV h true .ptr v13 x0) fun v14 => condK v14 (false) (K (.tup []) h))

/-! ### 99 internal/stringslite.HasPrefix -/
noncomputable def s99 (call : CallFn) (n : Nat) (x0 x1 : AV) (h : AHeap) (K : Kont) : Bool :=
  lenSK x0 fun v1 => lenSK x1 fun v2 => geqK v1 v2 fun v3 => gK v3 true (optK (some x0)) fun v4 => gK v3 true (optK (some x1)) fun v5 => gK v3 true (lenSK v5) fun v6 => gK v3 true (optK (sliceSV v4 none (some v6))) fun v7 => gK v3 true (optK (some x1)) fun v8 => gK v3 true (eqlK v7 v8) fun v9 => pickK v3 v9 (.bool false) fun v10 => K v10 h

end Go.Proofs.YtjkllaaepilihaaGreatDoor
