/-
  The functions as functions of Lean (printed by wip/tools/gen2.py).
-/
import Derived.Test.YtjfhlmakfgbcoaaGreatDoorAbDn
namespace Go.Proofs.YtjfhlmakfgbcoaaGreatDoor
open Go.Ab
set_option linter.unusedVariables false

/-! ### 3 proctor/proctorlaw20.AgendaFocus -/
noncomputable def p3_44003 (call : CallFn) (n : Nat) (x104 x105 : AV) (h : AHeap) (K : Kont) : Bool :=
  pickK x104 x105 (.bool false) fun v76 => K v76 h
noncomputable def p3_44002 (call : CallFn) (n : Nat) (x97 x99 : AV) (h : AHeap) (K : Kont) : Bool :=
  gK x97 true (iadrK h 1 x99 (.int .i64 0)) fun v71 => gK x97 true (loadK h v71) fun v72 => gK x97 true (eqlK v72 (.str [109, 97, 105, 110])) fun v73 => pickK x97 v73 (.bool false) fun v74 => gP v74 true (fun k => call (.func 14) [] h (pz K k)) h fun v75 h => p3_44003 call n v74 v75 h K
noncomputable def p3_44001 (call : CallFn) (n : Nat) (x4 x91 x93 : AV) (h : AHeap) (K : Kont) : Bool :=
  gK x91 true (lenK x93) fun v66 => gK x91 true (eqlK v66 (.int .i64 1)) fun v67 => pickK x91 v67 (.bool false) fun v68 => gK v68 true (optK (some x4)) fun v69 => gP v68 true (fun k => call (.func 10) [v69] h (pz K k)) h fun v70 h => p3_44002 call n v68 v70 h K
noncomputable def p3_42001 (call : CallFn) (n : Nat) (x4 x82 : AV) (h : AHeap) (K : Kont) : Bool :=
  extK 0 x82 fun v56 => extK 1 x82 fun v57 => allocK h [.int .i64 0, .nilSlc, .nilSlc] 3 fun v58 h => storeNK h 3 v58 v56 fun h => gK v57 true (fadrK 0 v58) fun v60 => gK v57 true (loadK h v60) fun v61 => gK v57 true (eqlK v61 (.int .i64 0)) fun v62 => pickK v57 v62 (.bool false) fun v63 => gK v63 true (optK (some x4)) fun v64 => gP v63 true (fun k => call (.func 10) [v64] h (pz K k)) h fun v65 h => p3_44001 call n x4 v63 v65 h K
noncomputable def p3_33002 (call : CallFn) (n : Nat) (x4 x72 x75 : AV) (h : AHeap) (K : Kont) : Bool :=
  gK x72 false (neqK x75 (.int .i64 0)) fun v52 => pickK x72 (.bool true) v52 fun v53 => condK v53 (K (.bool false) h) (call (.func 13) [x4] h <| pz K fun v54 h => call (.func 11) [x4] h <| pz K fun v55 h => p3_42001 call n x4 v55 h K)
noncomputable def p3_33001 (call : CallFn) (n : Nat) (x4 x7 x66 x68 : AV) (h : AHeap) (K : Kont) : Bool :=
  gK x66 false (lenK x68) fun v46 => gK x66 false (neqK v46 (.int .i64 4)) fun v47 => pickK x66 (.bool true) v47 fun v48 => gK v48 false (optK (some x4)) fun v49 => gK v48 false (loadGK h 3 x7) fun v50 => gP v48 false (fun k => call (.func 12) [v49, v50] h (pz K k)) h fun v51 h => p3_33002 call n x4 v48 v51 h K
noncomputable def p3_30001 (call : CallFn) (n : Nat) (x4 x6 x52 : AV) (h : AHeap) (K : Kont) : Bool :=
  extK 0 x52 fun v32 => extK 1 x52 fun v33 => allocK h [.int .i64 0, .nilSlc, .nilSlc] 3 fun v34 h => storeNK h 3 v34 v32 fun h => neqK x6 (.int .i64 4) fun v36 => gK v36 false (optK (some v33)) fun v37 => gK v36 false (notK v37) fun v38 => pickK v36 (.bool true) v38 fun v39 => gK v39 false (fadrK 0 v34) fun v40 => gK v39 false (loadK h v40) fun v41 => gK v39 false (neqK v41 (.int .i64 1)) fun v42 => pickK v39 (.bool true) v42 fun v43 => gK v43 false (optK (some x4)) fun v44 => gP v43 false (fun k => call (.func 10) [v44] h (pz K k)) h fun v45 h => p3_33001 call n x4 v34 v43 v45 h K
noncomputable def p3_28001 (call : CallFn) (n : Nat) (x4 x48 : AV) (h : AHeap) (K : Kont) : Bool :=
  lenK x48 fun v30 => call (.func 11) [x4] h <| pz K fun v31 h => p3_30001 call n x4 v30 v31 h K
noncomputable def p3_18001 (call : CallFn) (n : Nat) (x4 x33 x34 : AV) (h : AHeap) (K : Kont) : Bool :=
  optPK (bsliceV h 1 3 [.int .i64 0, .int .i64 0, .nilSlc] [(0, x34)]) fun v21 h => buildK [.int .i64 0, .nilSlc, .nilSlc] [(0, 1, (.int .i64 1)), (1, 1, v21)] fun v22 => optPK (bsliceV h 1 3 [.int .i64 0, .nilSlc, .nilSlc] [(0, v22)]) fun v23 h => call (.func 7) [x33, (.int .i64 1), v23] h <| pz K fun v24 h => call (.func 9) [x4, (.str [103])] h <| pz K fun v25 h => call (.func 9) [x4, (.str [103])] h <| pz K fun v26 h => call (.func 9) [x4, (.str [104])] h <| pz K fun v27 h => call (.func 9) [x4, (.str [103])] h <| pz K fun v28 h => call (.func 10) [x4] h <| pz K fun v29 h => p3_28001 call n x4 v29 h K
noncomputable def p3_16001 (call : CallFn) (n : Nat) (x4 x27 x28 : AV) (h : AHeap) (K : Kont) : Bool :=
  optPK (bsliceV h 1 3 [.int .i64 0, .int .i64 0, .nilSlc] [(0, x28)]) fun v16 h => buildK [.int .i64 0, .nilSlc, .nilSlc] [(0, 1, (.int .i64 0)), (1, 1, v16)] fun v17 => optPK (bsliceV h 1 3 [.int .i64 0, .nilSlc, .nilSlc] [(0, v17)]) fun v18 h => call (.func 7) [x27, (.int .i64 0), v18] h <| pz K fun v19 h => call (.func 8) [(.int .i64 1), (.int .i64 1)] h <| pz K fun v20 h => p3_18001 call n x4 x4 v20 h K
noncomputable def p3_6001 (call : CallFn) (n : Nat) (x18 : AV) (h : AHeap) (K : Kont) : Bool :=
  extK 0 x18 fun v9 => extK 1 x18 fun v10 => neqK v10 (.int .i64 0) fun v11 => gK v11 false (optK (some v9)) fun v12 => gK v11 false (optK (eqV h false .ptr v12 .nilPtr)) fun v13 => pickK v11 (.bool true) v13 fun v14 => condK v14 (K (.bool false) h) (call (.func 8) [(.int .i64 1), (.int .i64 1)] h <| pz K fun v15 h => p3_16001 call n v9 v9 v15 h K)
noncomputable def p3_4001 (call : CallFn) (n : Nat) (x12 : AV) (h : AHeap) (K : Kont) : Bool :=
  extK 0 x12 fun v2 => extK 1 x12 fun v3 => extK 2 x12 fun v4 => allocK h [.nilSlc, .nilSlc, .nilSlc] 3 fun v5 h => storeNK h 3 v5 v2 fun h => loadGK h 3 v5 fun v7 => call (.func 6) [v7] h <| pz K fun v8 h => p3_6001 call n v8 h K
noncomputable def s3 (call : CallFn) (n : Nat) (h : AHeap) (K : Kont) : Bool :=
  call (.func 5) [(.str [99, 108, 97, 115, 115, 32, 80, 32, 123, 32, 125, 32, 114, 117, 108, 101, 32, 34, 109, 34, 32, 115, 97, 108, 105, 101, 110, 99, 101, 32, 57, 32, 119, 104, 101, 110, 32, 80, 40, 41, 32, 116, 104, 101, 110, 32, 101, 110, 100, 32, 114, 117, 108, 101, 32, 34, 103, 34, 32, 103, 114, 111, 117, 112, 32, 34, 103, 34, 32, 119, 104, 101, 110, 32, 80, 40, 41, 32, 116, 104, 101, 110, 32, 101, 110, 100])] h <| pz K fun v1 h => p3_4001 call n v1 h K

/-! ### 4 proctor/proctorlaw20.AgendaLoops -/
noncomputable def p4_60005 (call : CallFn) (n : Nat) (x139 x140 : AV) (h : AHeap) (K : Kont) : Bool :=
  pickK x139 x140 (.bool false) fun v89 => K v89 h
noncomputable def p4_60004 (call : CallFn) (n : Nat) (x133 x137 : AV) (h : AHeap) (K : Kont) : Bool :=
  pickK x133 x137 (.bool false) fun v87 => gP v87 true (fun k => call (.func 14) [] h (pz K k)) h fun v88 h => p4_60005 call n v87 v88 h K
noncomputable def p4_60003 (call : CallFn) (n : Nat) (x133 x135 : AV) (h : AHeap) (K : Kont) : Bool :=
  gP x133 true (optPK (bsliceV h 1 1 [.str []] [(0, (.str [119]))])) h fun v85 h => gP x133 true (fun k => call (.func 20) [x135, v85] h (pz K k)) h fun v86 h => p4_60004 call n x133 v86 h K
noncomputable def p4_60002 (call : CallFn) (n : Nat) (x4 x127 x131 : AV) (h : AHeap) (K : Kont) : Bool :=
  pickK x127 x131 (.bool false) fun v82 => gK v82 true (optK (some x4)) fun v83 => gP v82 true (fun k => call (.func 21) [v83] h (pz K k)) h fun v84 h => p4_60003 call n v82 v84 h K
noncomputable def p4_60001 (call : CallFn) (n : Nat) (x4 x127 x129 : AV) (h : AHeap) (K : Kont) : Bool :=
  gP x127 true (optPK (bsliceV h 1 1 [.str []] [(0, (.str [109, 97, 105, 110]))])) h fun v80 h => gP x127 true (fun k => call (.func 20) [x129, v80] h (pz K k)) h fun v81 h => p4_60002 call n x4 x127 v81 h K
noncomputable def p4_58001 (call : CallFn) (n : Nat) (x4 x9 x10 x11 x12 x14 x98 : AV) (h : AHeap) (K : Kont) : Bool :=
  extK 0 x98 fun v55 => extK 1 x98 fun v56 => allocK h [.int .i64 0, .nilSlc, .nilSlc] 3 fun v57 h => storeNK h 3 v57 v55 fun h => eqlK x9 (.int .i64 0) fun v59 => gK v59 true (optK (some x10)) fun v60 => gK v59 true (eqlK v60 (.int .i64 1)) fun v61 => pickK v59 v61 (.bool false) fun v62 => gK v62 true (optK (some x11)) fun v63 => gK v62 true (eqlK v63 (.int .i64 0)) fun v64 => pickK v62 v64 (.bool false) fun v65 => gK v65 true (optK (some x12)) fun v66 => gK v65 true (eqlK v66 (.int .i64 1)) fun v67 => pickK v65 v67 (.bool false) fun v68 => gK v68 true (optK (some x14)) fun v69 => gK v68 true (notK v69) fun v70 => pickK v68 v70 (.bool false) fun v71 => gK v71 true (optK (some v56)) fun v72 => pickK v71 v72 (.bool false) fun v73 => gK v73 true (fadrK 0 v57) fun v74 => gK v73 true (loadK h v74) fun v75 => gK v73 true (eqlK v75 (.int .i64 2)) fun v76 => pickK v73 v76 (.bool false) fun v77 => gK v77 true (optK (some x4)) fun v78 => gP v77 true (fun k => call (.func 10) [v78] h (pz K k)) h fun v79 h => p4_60001 call n x4 v77 v79 h K
noncomputable def p4_54001 (call : CallFn) (n : Nat) (x4 x9 x10 x11 x12 x91 : AV) (h : AHeap) (K : Kont) : Bool :=
  extK 0 x91 fun v49 => extK 1 x91 fun v50 => allocK h [.int .i64 0, .nilSlc, .nilSlc] 3 fun v51 h => storeNK h 3 v51 v49 fun h => call (.func 19) [x4, (.str [119]), (.bool true)] h <| pz K fun v53 h => call (.func 11) [x4] h <| pz K fun v54 h => p4_58001 call n x4 x9 x10 x11 x12 v50 v54 h K
noncomputable def p4_50001 (call : CallFn) (n : Nat) (x4 x9 x10 x11 x12 x83 x85 : AV) (h : AHeap) (K : Kont) : Bool :=
  call (.func 7) [x83, (.int .i64 2), x85] h <| pz K fun v46 h => call (.func 7) [x4, (.int .i64 1), .nilSlc] h <| pz K fun v47 h => call (.func 11) [x4] h <| pz K fun v48 h => p4_54001 call n x4 x9 x10 x11 x12 v48 h K
noncomputable def p4_46001 (call : CallFn) (n : Nat) (x4 x6 x9 x10 x11 x79 : AV) (h : AHeap) (K : Kont) : Bool :=
  lenK x79 fun v43 => call (.func 7) [x4, (.int .i64 0), .nilSlc] h <| pz K fun v44 h => callV call x6 [(.int .i64 2), (.int .i64 1)] h <| pz K fun v45 h => p4_50001 call n x4 x9 x10 x11 v43 x4 v45 h K
noncomputable def p4_44001 (call : CallFn) (n : Nat) (x4 x6 x9 x10 x11 x74 x76 : AV) (h : AHeap) (K : Kont) : Bool :=
  call (.func 7) [x74, (.int .i64 1), x76] h <| pz K fun v41 h => call (.func 17) [x4, (.str [103])] h <| pz K fun v42 h => p4_46001 call n x4 x6 x9 x10 x11 v42 h K
noncomputable def p4_40001 (call : CallFn) (n : Nat) (x4 x6 x9 x10 x70 : AV) (h : AHeap) (K : Kont) : Bool :=
  lenK x70 fun v38 => call (.func 18) [x4] h <| pz K fun v39 h => callV call x6 [(.int .i64 1), (.int .i64 2)] h <| pz K fun v40 h => p4_44001 call n x4 x6 x9 x10 v38 x4 v40 h K
noncomputable def p4_38001 (call : CallFn) (n : Nat) (x4 x6 x9 x10 x65 x67 : AV) (h : AHeap) (K : Kont) : Bool :=
  call (.func 7) [x65, (.int .i64 1), x67] h <| pz K fun v36 h => call (.func 17) [x4, (.str [103])] h <| pz K fun v37 h => p4_40001 call n x4 x6 x9 x10 v37 h K
noncomputable def p4_34001 (call : CallFn) (n : Nat) (x4 x6 x9 x61 : AV) (h : AHeap) (K : Kont) : Bool :=
  lenK x61 fun v33 => call (.func 9) [x4, (.str [103])] h <| pz K fun v34 h => callV call x6 [(.int .i64 1), (.int .i64 1)] h <| pz K fun v35 h => p4_38001 call n x4 x6 x9 v33 x4 v35 h K
noncomputable def p4_32001 (call : CallFn) (n : Nat) (x4 x6 x9 x56 x58 : AV) (h : AHeap) (K : Kont) : Bool :=
  call (.func 7) [x56, (.int .i64 0), x58] h <| pz K fun v31 h => call (.func 17) [x4, (.str [109, 97, 105, 110])] h <| pz K fun v32 h => p4_34001 call n x4 x6 x9 v32 h K
noncomputable def p4_28001 (call : CallFn) (n : Nat) (x4 x6 x52 : AV) (h : AHeap) (K : Kont) : Bool :=
  lenK x52 fun v28 => call (.func 13) [x4] h <| pz K fun v29 h => callV call x6 [(.int .i64 0), (.int .i64 3)] h <| pz K fun v30 h => p4_32001 call n x4 x6 v28 x4 v30 h K
noncomputable def p4_26001 (call : CallFn) (n : Nat) (x4 x6 x47 x49 : AV) (h : AHeap) (K : Kont) : Bool :=
  call (.func 7) [x47, (.int .i64 0), x49] h <| pz K fun v26 h => call (.func 17) [x4, (.str [109, 97, 105, 110])] h <| pz K fun v27 h => p4_28001 call n x4 x6 v27 h K
noncomputable def p4_22001 (call : CallFn) (n : Nat) (x4 x6 x41 : AV) (h : AHeap) (K : Kont) : Bool :=
  extK 0 x41 fun v19 => extK 1 x41 fun v20 => allocK h [.int .i64 0, .nilSlc, .nilSlc] 3 fun v21 h => storeNK h 3 v21 v19 fun h => loadGK h 3 v21 fun v23 => call (.func 12) [x4, v23] h <| pz K fun v24 h => callV call x6 [(.int .i64 0), (.int .i64 2)] h <| pz K fun v25 h => p4_26001 call n x4 x6 x4 v25 h K
noncomputable def p4_18001 (call : CallFn) (n : Nat) (x4 x6 x33 x35 : AV) (h : AHeap) (K : Kont) : Bool :=
  call (.func 7) [x33, (.int .i64 0), x35] h <| pz K fun v16 h => call (.func 16) [x4] h <| pz K fun v17 h => call (.func 11) [x4] h <| pz K fun v18 h => p4_22001 call n x4 x6 v18 h K
noncomputable def p4_6001 (call : CallFn) (n : Nat) (x24 : AV) (h : AHeap) (K : Kont) : Bool :=
  extK 0 x24 fun v9 => extK 1 x24 fun v10 => neqK v10 (.int .i64 0) fun v11 => gK v11 false (optK (some v9)) fun v12 => gK v11 false (optK (eqV h false .ptr v12 .nilPtr)) fun v13 => pickK v11 (.bool true) v13 fun v14 => condK v14 (K (.bool false) h) (callV call (.fn (.func 15) [] []) [(.int .i64 0), (.int .i64 1)] h <| pz K fun v15 h => p4_18001 call n v9 (.fn (.func 15) [] []) v9 v15 h K)
noncomputable def p4_4001 (call : CallFn) (n : Nat) (x18 : AV) (h : AHeap) (K : Kont) : Bool :=
  extK 0 x18 fun v2 => extK 1 x18 fun v3 => extK 2 x18 fun v4 => allocK h [.nilSlc, .nilSlc, .nilSlc] 3 fun v5 h => storeNK h 3 v5 v2 fun h => loadGK h 3 v5 fun v7 => call (.func 6) [v7] h <| pz K fun v8 h => p4_6001 call n v8 h K
noncomputable def s4 (call : CallFn) (n : Nat) (h : AHeap) (K : Kont) : Bool :=
  call (.func 5) [(.str [99, 108, 97, 115, 115, 32, 80, 32, 123, 32, 125, 32, 114, 117, 108, 101, 32, 34, 110, 34, 32, 110, 111, 108, 111, 111, 112, 32, 119, 104, 101, 110, 32, 80, 40, 41, 32, 116, 104, 101, 110, 32, 101, 110, 100, 32, 114, 117, 108, 101, 32, 34, 108, 34, 32, 108, 111, 99, 107, 32, 103, 114, 111, 117, 112, 32, 34, 103, 34, 32, 119, 104, 101, 110, 32, 80, 40, 41, 32, 116, 104, 101, 110, 32, 101, 110, 100, 32, 114, 117, 108, 101, 32, 34, 102, 34, 32, 102, 108, 111, 119, 32, 34, 119, 34, 32, 119, 104, 101, 110, 32, 80, 40, 41, 32, 116, 104, 101, 110, 32, 101, 110, 100])] h <| pz K fun v1 h => p4_4001 call n v1 h K

/-! ### 5 proctor/parse.Parse -/
noncomputable def p5_6001 (call : CallFn) (n : Nat) (x2 x5 x11 : AV) (h : AHeap) (K : Kont) : Bool :=
  extK 0 x11 fun v5 => extK 1 x11 fun v6 => neqK v6 (.int .i64 0) fun v7 => condK v7 (buildK [.nilSlc, .nilSlc, .nilSlc] [] fun v8 => storeNK h 3 x2 v8 fun h => optR (resV h [(x2, some (true, 3)), (v5, none), (v6, none)]) h K) (loadGK h 3 x5 fun v10 => storeNK h 3 x2 v10 fun h => optR (resV h [(x2, some (true, 3)), ((.int .i64 0), none), ((.int .i64 0), none)]) h K)
noncomputable def s5 (call : CallFn) (n : Nat) (x0 : AV) (h : AHeap) (K : Kont) : Bool :=
  allocK h [.nilSlc, .nilSlc, .nilSlc] 3 fun v1 h => allocK h [.nilSlc, .nilSlc, .nilSlc] 3 fun v2 h => optK (some (.fn (.func 23) [] [v2])) fun v3 => call (.func 22) [x0, v3] h <| pz K fun v4 h => p5_6001 call n v1 v2 v4 h K

/-! ### 6 proctor/agenda.New -/
noncomputable def p6_4001 (call : CallFn) (n : Nat) (x1 x8 : AV) (h : AHeap) (K : Kont) : Bool :=
  extK 0 x8 fun v4 => extK 1 x8 fun v5 => neqK v5 (.int .i64 0) fun v6 => condK v6 (K (.tup [.nilPtr, v5]) h) (loadGK h 3 x1 fun v7 => call (.func 26) [v7, v4] h <| pz K fun v8 h => K (.tup [v8, (.int .i64 0)]) h)
noncomputable def s6 (call : CallFn) (n : Nat) (x0 : AV) (h : AHeap) (K : Kont) : Bool :=
  optPK (boxA h 3 x0) fun v1 h => loadGK h 3 v1 fun v2 => call (.func 25) [v2] h <| pz K fun v3 h => p6_4001 call n v1 v3 h K

/-! ### 7 (*proctor/agenda.Agenda).Sync -/
noncomputable def p7_56 (call : CallFn) (n : Nat) (B20 : F7) (x0 x1 x7 x9 x63 x64 x65 : AV) (h : AHeap) (K : Kont) : Bool :=
  addK x65 (.int .i64 1) fun v78 => B20 x0 x1 x7 x9 x63 x64 v78 h
noncomputable def p7_55001 (call : CallFn) (n : Nat) (B20 : F7) (x0 x1 x7 x9 x63 x64 x65 x99 x100 x102 : AV) (h : AHeap) (K : Kont) : Bool :=
  buildK [.int .i64 0, .nilSlc, .nilSlc, .bool false] [(0, 3, x102), (3, 1, x9)] fun v75 => optPK (boxA h 4 v75) fun v76 h => optPK (unit (mupdA h (.leaf .str) x99 x100 v76)) fun _ h => p7_56 call n B20 x0 x1 x7 x9 x63 x64 x65 h K
noncomputable def p7_34001 (call : CallFn) (n : Nat) (B20 : F7) (x0 x1 x7 x9 x11 x63 x64 x65 x73 x75 : AV) (h : AHeap) (K : Kont) : Bool :=
  gK x73 false (notK x75) fun v58 => pickK x73 (.bool true) v58 fun v59 => condK v59 (K (.int .i64 1) h) (loadGK h 3 x11 fun v60 => call (.func 31) [v60] h <| pz K fun v61 h => optK (lookA h (.leaf .str) false .nilPtr x7 v61) fun v62 => optK (eqV h true .ptr v62 .nilPtr) fun v63 => condK v63 (K (.int .i64 1) h) (nilckK x0 fun v64 => fadrK 2 v64 fun v65 => loadK h v65 fun v66 => iadrK h 1 v66 x1 fun v67 => loadK h v67 fun v68 => optK (lookA h (.leaf .str) false .nilPtr v68 v61) fun v69 => optPK (unit (mupdA h (.leaf .str) x7 v61 v69)) fun _ h => optK (lookA h (.leaf .str) false .nilPtr x7 v61) fun v71 => optK (eqV h false .ptr v71 .nilPtr) fun v72 => condK v72 (loadGK h 3 x11 fun v73 => call (.func 32) [v73] h <| pz K fun v74 h => p7_55001 call n B20 x0 x1 x7 x9 x63 x64 x65 x7 v61 v74 h K) (p7_56 call n B20 x0 x1 x7 x9 x63 x64 x65 h K)))
noncomputable def p7_57 (call : CallFn) (n : Nat) (x0 x1 x7 : AV) (h : AHeap) (K : Kont) : Bool :=
  nilckK x0 fun v79 => fadrK 2 v79 fun v80 => loadK h v80 fun v81 => iadrK h 1 v81 x1 fun v82 => storeK h v82 x7 fun h => K (.int .i64 0) h
noncomputable def b7_20 (call : CallFn) (n : Nat) (B20 : F7) (x0 x1 x7 x9 x63 x64 x65 : AV) (h : AHeap) (K : Kont) : Bool :=
  lssK x65 x64 fun v48 => condK v48 (iadrK h 3 x63 x65 fun v49 => loadGK h 3 v49 fun v50 => allocK h [.int .i64 0, .nilSlc, .nilSlc] 3 fun v51 h => storeNK h 3 v51 v50 fun h => fadrK 0 v51 fun v53 => loadK h v53 fun v54 => neqK v54 x1 fun v55 => gK v55 false (loadGK h 3 v51) fun v56 => gP v55 false (fun k => call (.func 30) [v56] h (pz K k)) h fun v57 h => p7_34001 call n B20 x0 x1 x7 x9 v51 x63 x64 x65 v55 v57 h K) (p7_57 call n x0 x1 x7 h K)
noncomputable def l7_20 (call : CallFn) (n : Nat) : Nat → AV → AV → AV → AV → AV → AV → AV → AHeap → Kont → Bool :=
  @Nat.rec (fun _ => AV → AV → AV → AV → AV → AV → AV → AHeap → Kont → Bool) (fun _ _ _ _ _ _ _ _ _ => false) (fun _ ih x0 x1 x7 x9 x63 x64 x65 h K => b7_20 call n (fun x0 x1 x7 x9 x63 x64 x65 h => ih x0 x1 x7 x9 x63 x64 x65 h K) x0 x1 x7 x9 x63 x64 x65 h K)
set_option maxRecDepth 100000 in
noncomputable def p7_14001 (call : CallFn) (n : Nat) (x0 x1 x2 x7 x27 : AV) (h : AHeap) (K : Kont) : Bool :=
  allocK h [.str [], .int .i64 0, .str [], .str [], .bool false, .bool false, .nilSlc, .nilSlc] 8 fun v12 h => storeNK h 8 v12 x27 fun h => fadrK 4 v12 fun v14 => loadK h v14 fun v15 => gK v15 true (optK (some x0)) fun v16 => gK v15 true (nilckK v16) fun v17 => gK v15 true (fadrK 6 v17) fun v18 => gK v15 true (loadK h v18) fun v19 => gK v15 true (optK (some x0)) fun v20 => gK v15 true (nilckK v20) fun v21 => gK v15 true (fadrK 1 v21) fun v22 => gK v15 true (loadK h v22) fun v23 => gK v15 true (optK (some x1)) fun v24 => gK v15 true (iadrK h 3 v23 v24) fun v25 => gK v15 true (fadrK 0 v25) fun v26 => gK v15 true (loadK h v26) fun v27 => gP v15 true (fun k => callV call v19 [v27] h (pz K k)) h fun v28 h => pickK v15 v28 (.bool false) fun v29 => gK v29 false (fadrK 5 v12) fun v30 => gK v29 false (loadK h v30) fun v31 => gK v29 false (optK (some v31)) fun v32 => gK v32 true (optK (some x0)) fun v33 => gK v32 true (nilckK v33) fun v34 => gK v32 true (fadrK 5 v34) fun v35 => gK v32 true (loadK h v35) fun v36 => gK v29 false (pickK v32 v36 (.bool false)) fun v37 => gK v29 false (optK (some v37)) fun v38 => gK v38 true (optK (some x0)) fun v39 => gK v38 true (optK (some x1)) fun v40 => gK v38 true (optK (some x0)) fun v41 => gP v38 true (fun k => call (.func 28) [v39, v40] h (pz K k)) h fun v42 h => gP v38 true (fun k => call (.func 29) [v41] h (pz K k)) h fun v43 h => gK v38 true (eqlK v42 v43) fun v44 => gK v29 false (pickK v38 v44 (.bool false)) fun v45 => pickK v29 (.bool true) v45 fun v46 => lenK x2 fun v47 => l7_20 call n n x0 x1 x7 v46 x2 v47 (.int .i64 0) h K
noncomputable def p7_10 (call : CallFn) (n : Nat) (x0 x1 x2 : AV) (h : AHeap) (K : Kont) : Bool :=
  optPK (mkmapV h) fun v10 h => call (.func 27) [x0, x1] h <| pz K fun v11 h => p7_14001 call n x0 x1 x2 v10 v11 h K
noncomputable def s7 (call : CallFn) (n : Nat) (x0 x1 x2 : AV) (h : AHeap) (K : Kont) : Bool :=
  lssK x1 (.int .i64 0) fun v1 => gK v1 false (optK (some x1)) fun v2 => gK v1 false (optK (some x0)) fun v3 => gK v1 false (nilckK v3) fun v4 => gK v1 false (fadrK 1 v4) fun v5 => gK v1 false (loadK h v5) fun v6 => gK v1 false (lenK v6) fun v7 => gK v1 false (geqK v2 v7) fun v8 => pickK v1 (.bool true) v8 fun v9 => condK v9 (K (.int .i64 32) h) (p7_10 call n x0 x1 x2 h K)

/-! ### 8 proctor/proctorlaw20.elem -/
noncomputable def s8 (call : CallFn) (n : Nat) (x0 x1 : AV) (h : AHeap) (K : Kont) : Bool :=
  allocK h [.int .i64 0, .int .i64 0, .nilSlc] 3 fun v1 h => buildK [.int .i64 0, .int .i64 0, .nilSlc] [(0, 1, x0), (1, 1, x1)] fun v2 => storeNK h 3 v1 v2 fun h => optR (resV h [(v1, some (true, 3))]) h K

/-! ### 9 (*proctor/agenda.Agenda).Focus -/
noncomputable def p9_2001 (call : CallFn) (n : Nat) (x0 x1 x5 : AV) (h : AHeap) (K : Kont) : Bool :=
  neqK x5 x1 fun v2 => condK v2 (nilckK x0 fun v3 => fadrK 3 v3 fun v4 => loadK h v4 fun v5 => optPK (bsliceV h 1 1 [.str []] [(0, x1)]) fun v6 h => optPK (appendA h 1 16 v5 v6) fun v7 h => nilckK x0 fun v8 => fadrK 3 v8 fun v9 => storeK h v9 v7 fun h => K (.tup []) h) (K (.tup []) h)
noncomputable def s9 (call : CallFn) (n : Nat) (x0 x1 : AV) (h : AHeap) (K : Kont) : Bool :=
  call (.func 29) [x0] h <| pz K fun v1 h => p9_2001 call n x0 x1 v1 h K

/-! ### 10 (*proctor/agenda.Agenda).Groups -/
noncomputable def s10 (call : CallFn) (n : Nat) (x0 : AV) (h : AHeap) (K : Kont) : Bool :=
  nilckK x0 fun v1 => fadrK 3 v1 fun v2 => loadK h v2 fun v3 => call (.func 33) [v3] h <| pz K fun v4 h => K v4 h

/-! ### 11 (*proctor/agenda.Agenda).Next -/
noncomputable def p11_28001 (call : CallFn) (n : Nat) (B3 : F2) (B9 : F3) (x2 x41 : AV) (h : AHeap) (K : Kont) : Bool :=
  storeNK h 3 x2 x41 fun h => optR (resV h [(x2, some (true, 3)), ((.bool true), none)]) h K
noncomputable def p11_21001 (call : CallFn) (n : Nat) (B3 : F2) (B9 : F3) (x0 x2 x4 x5 x24 : AV) (h : AHeap) (K : Kont) : Bool :=
  fldK 3 x24 fun v15 => nilckK x0 fun v16 => fadrK 4 v16 fun v17 => loadK h v17 fun v18 => optK (lookA h (.leaf .str) true (.agg []) v18 v15) fun v19 => extK 0 v19 fun v20 => extK 1 v19 fun v21 => optPK (allocA h []) fun v22 h => optPK (unit (storeA h 0 v22 v20)) fun _ h => gK v21 false (optK (some v15)) fun v24 => gK v21 false (eqlK v24 (.str [])) fun v25 => pickK v21 (.bool true) v25 fun v26 => condK v26 (loadGK h 3 x5 fun v27 => call (.func 32) [v27] h <| pz K fun v28 h => p11_28001 call n B3 B9 x2 v28 h K) (B9 x0 x2 x4 h)
noncomputable def p11_19001 (call : CallFn) (n : Nat) (B3 : F2) (B9 : F3) (x0 x2 x4 x20 : AV) (h : AHeap) (K : Kont) : Bool :=
  allocK h [.int .i64 0, .nilSlc, .nilSlc] 3 fun v10 h => storeNK h 3 v10 x20 fun h => fadrK 0 v10 fun v12 => loadK h v12 fun v13 => call (.func 27) [x0, v13] h <| pz K fun v14 h => p11_21001 call n B3 B9 x0 x2 x4 v10 v14 h K
noncomputable def p11_30 (call : CallFn) (n : Nat) (B3 : F2) (x0 x2 : AV) (h : AHeap) (K : Kont) : Bool :=
  nilckK x0 fun v30 => fadrK 3 v30 fun v31 => loadK h v31 fun v32 => lenK v32 fun v33 => eqlK v33 (.int .i64 1) fun v34 => condK v34 (buildK [.int .i64 0, .nilSlc, .nilSlc] [] fun v35 => storeNK h 3 x2 v35 fun h => optR (resV h [(x2, some (true, 3)), ((.bool false), none)]) h K) (nilckK x0 fun v37 => fadrK 3 v37 fun v38 => loadK h v38 fun v39 => nilckK x0 fun v40 => fadrK 3 v40 fun v41 => loadK h v41 fun v42 => lenK v42 fun v43 => subK v43 (.int .i64 1) fun v44 => optK (sliceV h 1 v39 none (some v44) none) fun v45 => nilckK x0 fun v46 => fadrK 3 v46 fun v47 => storeK h v47 v45 fun h => B3 x0 x2 h)
noncomputable def b11_9 (call : CallFn) (n : Nat) (B3 : F2) (B9 : F3) (x0 x2 x4 : AV) (h : AHeap) (K : Kont) : Bool :=
  nilckK x4 fun v4 => fadrK 0 v4 fun v5 => loadK h v5 fun v6 => lenK v6 fun v7 => gtrK v7 (.int .i64 0) fun v8 => condK v8 (call (.func 35) [x4] h <| pz K fun v9 h => p11_19001 call n B3 B9 x0 x2 x4 v9 h K) (p11_30 call n B3 x0 x2 h K)
noncomputable def l11_9 (call : CallFn) (n : Nat) (B3 : F2) : Nat → AV → AV → AV → AHeap → Kont → Bool :=
  @Nat.rec (fun _ => AV → AV → AV → AHeap → Kont → Bool) (fun _ _ _ _ _ => false) (fun _ ih x0 x2 x4 h K => b11_9 call n B3 (fun x0 x2 x4 h => ih x0 x2 x4 h K) x0 x2 x4 h K)
noncomputable def p11_8001 (call : CallFn) (n : Nat) (B3 : F2) (x0 x2 x9 x11 : AV) (h : AHeap) (K : Kont) : Bool :=
  call (.func 34) [x9, x11] h <| pz K fun v3 h => l11_9 call n B3 n x0 x2 v3 h K
noncomputable def b11_3 (call : CallFn) (n : Nat) (B3 : F2) (x0 x2 : AV) (h : AHeap) (K : Kont) : Bool :=
  call (.func 29) [x0] h <| pz K fun v2 h => p11_8001 call n B3 x0 x2 x0 v2 h K
noncomputable def l11_3 (call : CallFn) (n : Nat) : Nat → AV → AV → AHeap → Kont → Bool :=
  @Nat.rec (fun _ => AV → AV → AHeap → Kont → Bool) (fun _ _ _ _ => false) (fun _ ih x0 x2 h K => b11_3 call n (fun x0 x2 h => ih x0 x2 h K) x0 x2 h K)
noncomputable def s11 (call : CallFn) (n : Nat) (x0 : AV) (h : AHeap) (K : Kont) : Bool :=
  allocK h [.int .i64 0, .nilSlc, .nilSlc] 3 fun v1 h => l11_3 call n n x0 v1 h K

/-! ### 12 (*proctor/agenda.Agenda).Start -/
set_option maxRecDepth 100000 in
noncomputable def s12 (call : CallFn) (n : Nat) (x0 x1 : AV) (h : AHeap) (K : Kont) : Bool :=
  optPK (boxA h 3 x1) fun v1 h => fadrK 0 v1 fun v2 => loadK h v2 fun v3 => lssK v3 (.int .i64 0) fun v4 => gK v4 false (fadrK 0 v1) fun v5 => gK v4 false (loadK h v5) fun v6 => gK v4 false (optK (some x0)) fun v7 => gK v4 false (nilckK v7) fun v8 => gK v4 false (fadrK 1 v8) fun v9 => gK v4 false (loadK h v9) fun v10 => gK v4 false (lenK v10) fun v11 => gK v4 false (geqK v6 v11) fun v12 => pickK v4 (.bool true) v12 fun v13 => gK v13 false (loadGK h 3 v1) fun v14 => gP v13 false (fun k => call (.func 30) [v14] h (pz K k)) h fun v15 h => gK v13 false (notK v15) fun v16 => pickK v13 (.bool true) v16 fun v17 => condK v17 (K (.int .i64 1) h) (nilckK x0 fun v18 => fadrK 2 v18 fun v19 => loadK h v19 fun v20 => fadrK 0 v1 fun v21 => loadK h v21 fun v22 => iadrK h 1 v20 v22 fun v23 => loadK h v23 fun v24 => loadGK h 3 v1 fun v25 => call (.func 31) [v25] h <| pz K fun v26 h => loadK h v19 <| sameK v20 <| loadK h v21 <| sameK v22 <| iadrK h 1 v20 v22 <| sameK v23 <| loadK h v23 <| sameK v24 <| optK (lookA h (.leaf .str) false .nilPtr v24 v26) fun v27 => optK (eqV h false .ptr v27 .nilPtr) fun v28 => gK v28 false (optK (some v27)) fun v29 => gK v28 false (nilckK v29) fun v30 => gK v28 false (fadrK 3 v30) fun v31 => gK v28 false (loadK h v31) fun v32 => pickK v28 (.bool true) v32 fun v33 => condK v33 (K (.int .i64 1) h) (nilckK v27 fun v34 => fadrK 3 v34 fun v35 => storeK h v35 (.bool true) fun h => nilckK x0 fun v37 => fadrK 1 v37 fun v38 => loadK h v38 fun v39 => fadrK 0 v1 fun v40 => loadK h v40 fun v41 => iadrK h 3 v39 v41 fun v42 => fadrK 0 v42 fun v43 => loadK h v43 fun v44 => allocK h [.int .i64 0] 1 fun v45 h => loadK h v38 <| sameK v39 <| loadK h v40 <| sameK v41 <| iadrK h 3 v39 v41 <| sameK v42 <| loadK h v43 <| sameK v44 <| storeK h v45 v44 fun h => optK (some (.fn (.func 36) [] [v45])) fun v47 => nilckK x0 fun v48 => fadrK 6 v48 fun v49 => storeK h v49 v47 fun h => K (.int .i64 0) h))

/-! ### 13 (*proctor/agenda.Agenda).Done -/
noncomputable def s13 (call : CallFn) (n : Nat) (x0 : AV) (h : AHeap) (K : Kont) : Bool :=
  nilckK x0 fun v1 => fadrK 6 v1 fun v2 => storeK h v2 (.fn (.func 37) [] []) fun h => K (.tup []) h

/-! ### 14 proctor/proctorlaw20.wakes -/
noncomputable def p14_38003 (call : CallFn) (n : Nat) (x94 x96 : AV) (h : AHeap) (K : Kont) : Bool :=
  gK x94 true (lenK x96) fun v77 => gK x94 true (eqlK v77 (.int .i64 2)) fun v78 => pickK x94 v78 (.bool false) fun v79 => K v79 h
noncomputable def p14_38002 (call : CallFn) (n : Nat) (x4 x88 x92 : AV) (h : AHeap) (K : Kont) : Bool :=
  pickK x88 x92 (.bool false) fun v74 => gK v74 true (optK (some x4)) fun v75 => gP v74 true (fun k => call (.func 17) [v75, (.str [109, 97, 105, 110])] h (pz K k)) h fun v76 h => p14_38003 call n v74 v76 h K
noncomputable def p14_38001 (call : CallFn) (n : Nat) (x4 x88 x90 : AV) (h : AHeap) (K : Kont) : Bool :=
  gP x88 true (optPK (bsliceV h 1 1 [.str []] [(0, (.str [109, 97, 105, 110]))])) h fun v72 h => gP x88 true (fun k => call (.func 20) [x90, v72] h (pz K k)) h fun v73 h => p14_38002 call n x4 x88 v73 h K
noncomputable def p14_36001 (call : CallFn) (n : Nat) (x4 x9 x10 x11 x64 : AV) (h : AHeap) (K : Kont) : Bool :=
  extK 0 x64 fun v50 => extK 1 x64 fun v51 => allocK h [.int .i64 0, .nilSlc, .nilSlc] 3 fun v52 h => storeNK h 3 v52 v50 fun h => gK x10 true (optK (some v51)) fun v54 => pickK x10 v54 (.bool false) fun v55 => gK v55 true (optK (some x11)) fun v56 => gK v55 true (eqlK v56 (.int .i64 0)) fun v57 => pickK v55 v57 (.bool false) fun v58 => gK v58 true (fadrK 1 x9) fun v59 => gK v58 true (loadK h v59) fun v60 => gK v58 true (iadrK h 3 v60 (.int .i64 0)) fun v61 => gK v58 true (fadrK 0 v61) fun v62 => gK v58 true (loadK h v62) fun v63 => gK v58 true (eqlK v63 (.int .i64 2)) fun v64 => pickK v58 v64 (.bool false) fun v65 => gK v65 true (fadrK 0 v52) fun v66 => gK v65 true (loadK h v66) fun v67 => gK v65 true (eqlK v67 (.int .i64 1)) fun v68 => pickK v65 v68 (.bool false) fun v69 => gK v69 true (optK (some x4)) fun v70 => gP v69 true (fun k => call (.func 10) [v70] h (pz K k)) h fun v71 h => p14_38001 call n x4 v69 v71 h K
noncomputable def p14_30001 (call : CallFn) (n : Nat) (x4 x54 : AV) (h : AHeap) (K : Kont) : Bool :=
  extK 0 x54 fun v42 => extK 1 x54 fun v43 => allocK h [.int .i64 0, .nilSlc, .nilSlc] 3 fun v44 h => storeNK h 3 v44 v42 fun h => loadGK h 3 v44 fun v46 => call (.func 12) [x4, v46] h <| pz K fun v47 h => call (.func 13) [x4] h <| pz K fun v48 h => call (.func 11) [x4] h <| pz K fun v49 h => p14_36001 call n x4 v44 v43 v47 v49 h K
noncomputable def p14_23002 (call : CallFn) (n : Nat) (x4 x44 x49 : AV) (h : AHeap) (K : Kont) : Bool :=
  gK x44 false (neqK x49 (.int .i64 0)) fun v39 => pickK x44 (.bool true) v39 fun v40 => condK v40 (K (.bool false) h) (call (.func 11) [x4] h <| pz K fun v41 h => p14_30001 call n x4 v41 h K)
noncomputable def p14_23001 (call : CallFn) (n : Nat) (x4 x7 x8 x42 : AV) (h : AHeap) (K : Kont) : Bool :=
  neqK x42 (.int .i64 0) fun v33 => gK v33 false (optK (some x4)) fun v34 => gK v33 false (loadGK h 3 x7) fun v35 => gK v33 false (loadGK h 3 x8) fun v36 => gP v33 false (optPK (bsliceV h 2 3 [.int .i64 0, .nilSlc, .nilSlc] [(0, v35), (1, v36)])) h fun v37 h => gP v33 false (fun k => call (.func 7) [v34, (.int .i64 1), v37] h (pz K k)) h fun v38 h => p14_23002 call n x4 v33 v38 h K
noncomputable def p14_20001 (call : CallFn) (n : Nat) (x4 x6 x7 x36 : AV) (h : AHeap) (K : Kont) : Bool :=
  optPK (bsliceV h 1 3 [.int .i64 0, .int .i64 0, .nilSlc] [(0, x36)]) fun v26 h => buildK [.int .i64 0, .nilSlc, .nilSlc] [(0, 1, (.int .i64 1)), (1, 1, v26)] fun v27 => allocK h [.int .i64 0, .nilSlc, .nilSlc] 3 fun v28 h => storeNK h 3 v28 v27 fun h => loadGK h 3 x6 fun v30 => optPK (bsliceV h 1 3 [.int .i64 0, .nilSlc, .nilSlc] [(0, v30)]) fun v31 h => call (.func 7) [x4, (.int .i64 0), v31] h <| pz K fun v32 h => p14_23001 call n x4 x7 v28 v32 h K
noncomputable def p14_18001 (call : CallFn) (n : Nat) (x4 x6 x33 : AV) (h : AHeap) (K : Kont) : Bool :=
  optPK (bsliceV h 1 3 [.int .i64 0, .int .i64 0, .nilSlc] [(0, x33)]) fun v21 h => buildK [.int .i64 0, .nilSlc, .nilSlc] [(0, 1, (.int .i64 1)), (1, 1, v21)] fun v22 => allocK h [.int .i64 0, .nilSlc, .nilSlc] 3 fun v23 h => storeNK h 3 v23 v22 fun h => call (.func 8) [(.int .i64 2), (.int .i64 2)] h <| pz K fun v25 h => p14_20001 call n x4 x6 v23 v25 h K
noncomputable def p14_16001 (call : CallFn) (n : Nat) (x4 x30 : AV) (h : AHeap) (K : Kont) : Bool :=
  optPK (bsliceV h 1 3 [.int .i64 0, .int .i64 0, .nilSlc] [(0, x30)]) fun v16 h => buildK [.int .i64 0, .nilSlc, .nilSlc] [(0, 1, (.int .i64 0)), (1, 1, v16)] fun v17 => allocK h [.int .i64 0, .nilSlc, .nilSlc] 3 fun v18 h => storeNK h 3 v18 v17 fun h => call (.func 8) [(.int .i64 1), (.int .i64 1)] h <| pz K fun v20 h => p14_18001 call n x4 v18 v20 h K
noncomputable def p14_6001 (call : CallFn) (n : Nat) (x21 : AV) (h : AHeap) (K : Kont) : Bool :=
  extK 0 x21 fun v9 => extK 1 x21 fun v10 => neqK v10 (.int .i64 0) fun v11 => gK v11 false (optK (some v9)) fun v12 => gK v11 false (optK (eqV h false .ptr v12 .nilPtr)) fun v13 => pickK v11 (.bool true) v13 fun v14 => condK v14 (K (.bool false) h) (call (.func 8) [(.int .i64 1), (.int .i64 1)] h <| pz K fun v15 h => p14_16001 call n v9 v15 h K)
noncomputable def p14_4001 (call : CallFn) (n : Nat) (x15 : AV) (h : AHeap) (K : Kont) : Bool :=
  extK 0 x15 fun v2 => extK 1 x15 fun v3 => extK 2 x15 fun v4 => allocK h [.nilSlc, .nilSlc, .nilSlc] 3 fun v5 h => storeNK h 3 v5 v2 fun h => loadGK h 3 v5 fun v7 => call (.func 6) [v7] h <| pz K fun v8 h => p14_6001 call n v8 h K
noncomputable def s14 (call : CallFn) (n : Nat) (h : AHeap) (K : Kont) : Bool :=
  call (.func 5) [(.str [99, 108, 97, 115, 115, 32, 80, 32, 123, 32, 125, 32, 114, 117, 108, 101, 32, 34, 97, 34, 32, 119, 104, 101, 110, 32, 80, 40, 41, 32, 116, 104, 101, 110, 32, 101, 110, 100, 32, 114, 117, 108, 101, 32, 34, 98, 34, 32, 115, 97, 108, 105, 101, 110, 99, 101, 32, 53, 32, 119, 104, 101, 110, 32, 80, 40, 41, 32, 116, 104, 101, 110, 32, 101, 110, 100])] h <| pz K fun v1 h => p14_4001 call n v1 h K

/-! ### 15 proctor/proctorlaw20.AgendaLoops$1 -/
noncomputable def p15_4001 (call : CallFn) (n : Nat) (x5 x8 : AV) (h : AHeap) (K : Kont) : Bool :=
  optPK (bsliceV h 1 3 [.int .i64 0, .int .i64 0, .nilSlc] [(0, x8)]) fun v2 h => buildK [.int .i64 0, .nilSlc, .nilSlc] [(0, 1, x5), (1, 1, v2)] fun v3 => optPK (bsliceV h 1 3 [.int .i64 0, .nilSlc, .nilSlc] [(0, v3)]) fun v4 h => K v4 h
noncomputable def s15 (call : CallFn) (n : Nat) (x0 x1 : AV) (h : AHeap) (K : Kont) : Bool :=
  call (.func 8) [x1, x1] h <| pz K fun v1 h => p15_4001 call n x0 v1 h K

/-! ### 16 (*proctor/agenda.Agenda).Begin -/
noncomputable def s16 (call : CallFn) (n : Nat) (x0 : AV) (h : AHeap) (K : Kont) : Bool :=
  nilckK x0 fun v1 => fadrK 5 v1 fun v2 => storeK h v2 (.bool true) fun h => K (.tup []) h

/-! ### 17 (*proctor/agenda.Agenda).Waiting -/
noncomputable def p17_17002 (call : CallFn) (n : Nat) (B8 : F2) (x6 x16 x19 : AV) (h : AHeap) (K : Kont) : Bool :=
  optPK (bsliceV h 1 3 [.int .i64 0, .nilSlc, .nilSlc] [(0, x19)]) fun v9 h => optPK (appendA h 3 56 x16 v9) fun v10 h => B8 v10 x6 h
noncomputable def p17_17001 (call : CallFn) (n : Nat) (B8 : F2) (x6 x16 x18 : AV) (h : AHeap) (K : Kont) : Bool :=
  call (.func 32) [x18] h <| pz K fun v8 h => p17_17002 call n B8 x6 x16 v8 h K
noncomputable def b17_8 (call : CallFn) (n : Nat) (B8 : F2) (x5 x6 : AV) (h : AHeap) (K : Kont) : Bool :=
  nilckK x6 fun v2 => fadrK 0 v2 fun v3 => loadK h v3 fun v4 => lenK v4 fun v5 => gtrK v5 (.int .i64 0) fun v6 => condK v6 (call (.func 35) [x6] h <| pz K fun v7 h => p17_17001 call n B8 x6 x5 v7 h K) (K x5 h)
noncomputable def l17_8 (call : CallFn) (n : Nat) : Nat → AV → AV → AHeap → Kont → Bool :=
  @Nat.rec (fun _ => AV → AV → AHeap → Kont → Bool) (fun _ _ _ _ => false) (fun _ ih x5 x6 h K => b17_8 call n (fun x5 x6 h => ih x5 x6 h K) x5 x6 h K)
noncomputable def s17 (call : CallFn) (n : Nat) (x0 x1 : AV) (h : AHeap) (K : Kont) : Bool :=
  call (.func 34) [x0, x1] h <| pz K fun v1 h => l17_8 call n n .nilSlc v1 h K

/-! ### 18 (*proctor/agenda.Agenda).End -/
noncomputable def s18 (call : CallFn) (n : Nat) (x0 : AV) (h : AHeap) (K : Kont) : Bool :=
  nilckK x0 fun v1 => fadrK 5 v1 fun v2 => storeK h v2 (.bool false) fun h => call (.func 13) [x0] h <| pz K fun v4 h => K (.tup []) h

/-! ### 19 (*proctor/agenda.Agenda).Flow -/
noncomputable def s19 (call : CallFn) (n : Nat) (x0 x1 x2 : AV) (h : AHeap) (K : Kont) : Bool :=
  condK x2 (nilckK x0 fun v1 => fadrK 4 v1 fun v2 => loadK h v2 fun v3 => buildK [] [] fun v4 => optPK (unit (mupdA h (.leaf .str) v3 x1 v4)) fun _ h => K (.tup []) h) (nilckK x0 fun v6 => fadrK 4 v6 fun v7 => loadK h v7 fun v8 => optPK (unit (delA h (.leaf .str) v8 x1)) fun _ h => K (.tup []) h)

/-! ### 20 proctor/proctorref0.EqTexts -/
noncomputable def b20_14 (call : CallFn) (n : Nat) (B14 : F3) (x0 x1 x5 : AV) (h : AHeap) (K : Kont) : Bool :=
  lenK x0 fun v4 => lssK x5 v4 fun v5 => condK v5 (iadrK h 1 x0 x5 fun v6 => loadK h v6 fun v7 => iadrK h 1 x1 x5 fun v8 => loadK h v8 fun v9 => neqK v7 v9 fun v10 => condK v10 (K (.bool false) h) (addK x5 (.int .i64 1) fun v11 => B14 x0 x1 v11 h)) (K (.bool true) h)
noncomputable def l20_14 (call : CallFn) (n : Nat) : Nat → AV → AV → AV → AHeap → Kont → Bool :=
  @Nat.rec (fun _ => AV → AV → AV → AHeap → Kont → Bool) (fun _ _ _ _ _ => false) (fun _ ih x0 x1 x5 h K => b20_14 call n (fun x0 x1 x5 h => ih x0 x1 x5 h K) x0 x1 x5 h K)
noncomputable def p20_10 (call : CallFn) (n : Nat) (x0 x1 : AV) (h : AHeap) (K : Kont) : Bool :=
  l20_14 call n n x0 x1 (.int .i64 0) h K
noncomputable def s20 (call : CallFn) (n : Nat) (x0 x1 : AV) (h : AHeap) (K : Kont) : Bool :=
  lenK x0 fun v1 => lenK x1 fun v2 => neqK v1 v2 fun v3 => condK v3 (K (.bool false) h) (p20_10 call n x0 x1 h K)

/-! ### 21 (*proctor/agenda.Agenda).Flows -/
noncomputable def p21_19 (call : CallFn) (n : Nat) (x3 : AV) (h : AHeap) (K : Kont) : Bool :=
  call (.func 38) [x3] h <| pz K fun v11 h => K x3 h
noncomputable def b21_8 (call : CallFn) (n : Nat) (B8 : F2) (x3 x9 : AV) (h : AHeap) (K : Kont) : Bool :=
  nextA h x9 fun v5 h => extK 0 v5 fun v6 => condK v6 (optK (entA h x9) fun v7 => extK 0 v7 fun v8 => optPK (bsliceV h 1 1 [.str []] [(0, v8)]) fun v9 h => optPK (appendA h 1 16 x3 v9) fun v10 h => B8 v10 x9 h) (p21_19 call n x3 h K)
noncomputable def l21_8 (call : CallFn) (n : Nat) : Nat → AV → AV → AHeap → Kont → Bool :=
  @Nat.rec (fun _ => AV → AV → AHeap → Kont → Bool) (fun _ _ _ _ => false) (fun _ ih x3 x9 h K => b21_8 call n (fun x3 x9 h => ih x3 x9 h K) x3 x9 h K)
noncomputable def s21 (call : CallFn) (n : Nat) (x0 : AV) (h : AHeap) (K : Kont) : Bool :=
  nilckK x0 fun v1 => fadrK 4 v1 fun v2 => loadK h v2 fun v3 => optPK (rngA h v3) fun v4 h => l21_8 call n n .nilSlc v4 h K

/-! ### 22 proctor/parse.caught -/
noncomputable def p22_14001 (call : CallFn) (n : Nat) (x21 : AV) (h : AHeap) (K : Kont) : Bool :=
  extK 0 x21 fun v8 => extK 1 x21 fun v9 => K (.tup [v8, v9]) h
noncomputable def p22_4001 (call : CallFn) (n : Nat) (x0 x1 x9 : AV) (h : AHeap) (K : Kont) : Bool :=
  extK 0 x9 fun v2 => extK 1 x9 fun v3 => extK 2 x9 fun v4 => neqK v4 (.int .i64 0) fun v5 => condK v5 (K (.tup [v3, v4]) h) (lenSK x0 fun v6 => call (.func 40) [v2, v6, x1] h <| pz K fun v7 h => p22_14001 call n v7 h K)
noncomputable def s22 (call : CallFn) (n : Nat) (x0 x1 : AV) (h : AHeap) (K : Kont) : Bool :=
  call (.func 39) [x0] h <| pz K fun v1 h => p22_4001 call n x0 x1 v1 h K

/-! ### 23 proctor/parse.Parse$1 -/
noncomputable def p23_1001 (call : CallFn) (n : Nat) (x1 x4 : AV) (h : AHeap) (K : Kont) : Bool :=
  storeNK h 3 x1 x4 fun h => K (.tup []) h
noncomputable def s23 (call : CallFn) (n : Nat) (x0 x1 : AV) (h : AHeap) (K : Kont) : Bool :=
  call (.func 24) [x0] h <| pz K fun v1 h => p23_1001 call n x1 v1 h K

/-! ### 24 (*proctor/parse.parser).base -/
noncomputable def p24_26 (call : CallFn) (n : Nat) (x2 x3 : AV) (h : AHeap) (K : Kont) : Bool :=
  loadGK h 3 x3 fun v36 => storeNK h 3 x2 v36 fun h => optR (resV h [(x2, some (true, 3))]) h K
set_option maxRecDepth 100000 in
noncomputable def b24_6 (call : CallFn) (n : Nat) (B6 : F3) (x0 x2 x3 : AV) (h : AHeap) (K : Kont) : Bool :=
  nilckK x0 fun v3 => fadrK 1 v3 fun v4 => loadK h v4 fun v5 => nilckK x0 fun v6 => fadrK 0 v6 fun v7 => loadK h v7 fun v8 => lenK v8 fun v9 => lssK v5 v9 fun v10 => condK v10 (call (.func 41) [x0, (.str [99, 108, 97, 115, 115])] h <| pz K fun v11 h => condK v11 (fadrK 0 x3 fun v12 => loadK h v12 fun v13 => call (.func 42) [x0] h <| pz K fun v14 h => loadK h v12 <| sameK v13 <| optPK (bsliceV h 1 3 [.str [], .str [], .nilSlc] [(0, v14)]) fun v15 h => loadK h v12 <| sameK v13 <| optPK (appendA h 3 56 v13 v15) fun v16 h => fadrK 0 x3 fun v17 => storeK h v17 v16 fun h => B6 x0 x2 x3 h) (call (.func 41) [x0, (.str [114, 117, 108, 101])] h <| pz K fun v19 h => condK v19 (fadrK 1 x3 fun v20 => loadK h v20 fun v21 => call (.func 43) [x0] h <| pz K fun v22 h => loadK h v20 <| sameK v21 <| optPK (bsliceV h 1 8 [.str [], .int .i64 0, .str [], .str [], .bool false, .bool false, .nilSlc, .nilSlc] [(0, v22)]) fun v23 h => loadK h v20 <| sameK v21 <| optPK (appendA h 8 112 v21 v23) fun v24 h => fadrK 1 x3 fun v25 => storeK h v25 v24 fun h => B6 x0 x2 x3 h) (optPK (bsliceV h 1 1 [.str []] [(0, (.str [113, 117, 101, 114, 121]))]) fun v27 h => call (.func 44) [x0, v27] h <| pz K fun v28 h => fadrK 2 x3 fun v29 => loadK h v29 fun v30 => call (.func 45) [x0] h <| pz K fun v31 h => loadK h v29 <| sameK v30 <| optPK (bsliceV h 1 3 [.str [], .nilSlc, .nilSlc] [(0, v31)]) fun v32 h => loadK h v29 <| sameK v30 <| optPK (appendA h 3 64 v30 v32) fun v33 h => fadrK 2 x3 fun v34 => storeK h v34 v33 fun h => B6 x0 x2 x3 h))) (p24_26 call n x2 x3 h K)
noncomputable def l24_6 (call : CallFn) (n : Nat) : Nat → AV → AV → AV → AHeap → Kont → Bool :=
  @Nat.rec (fun _ => AV → AV → AV → AHeap → Kont → Bool) (fun _ _ _ _ _ => false) (fun _ ih x0 x2 x3 h K => b24_6 call n (fun x0 x2 x3 h => ih x0 x2 x3 h K) x0 x2 x3 h K)
noncomputable def s24 (call : CallFn) (n : Nat) (x0 : AV) (h : AHeap) (K : Kont) : Bool :=
  allocK h [.nilSlc, .nilSlc, .nilSlc] 3 fun v1 h => allocK h [.nilSlc, .nilSlc, .nilSlc] 3 fun v2 h => l24_6 call n n x0 v1 v2 h K

/-! ### 25 proctor/desugar.Cores -/
noncomputable def p25_55 (call : CallFn) (n : Nat) (B18 : F4) (x6 x22 x23 x24 : AV) (h : AHeap) (K : Kont) : Bool :=
  addK x24 (.int .i64 1) fun v29 => B18 x6 x22 x23 v29 h
noncomputable def b25_42 (call : CallFn) (n : Nat) (B18 : F4) (B42 : F8) (x6 x7 x22 x23 x24 x37 x38 x39 : AV) (h : AHeap) (K : Kont) : Bool :=
  lssK x39 x38 fun v22 => condK v22 (iadrK h 1 x37 x39 fun v23 => loadK h v23 fun v24 => buildK [.int .i64 0, .int .i64 0, .nilSlc] [(0, 1, x7), (1, 1, x39), (2, 1, v24)] fun v25 => optPK (bsliceV h 1 3 [.int .i64 0, .int .i64 0, .nilSlc] [(0, v25)]) fun v26 h => optPK (appendA h 3 40 x6 v26) fun v27 h => addK x39 (.int .i64 1) fun v28 => B42 v27 x7 x22 x23 x24 x37 x38 v28 h) (p25_55 call n B18 x6 x22 x23 x24 h K)
noncomputable def l25_42 (call : CallFn) (n : Nat) (B18 : F4) : Nat → AV → AV → AV → AV → AV → AV → AV → AV → AHeap → Kont → Bool :=
  @Nat.rec (fun _ => AV → AV → AV → AV → AV → AV → AV → AV → AHeap → Kont → Bool) (fun _ _ _ _ _ _ _ _ _ _ => false) (fun _ ih x6 x7 x22 x23 x24 x37 x38 x39 h K => b25_42 call n B18 (fun x6 x7 x22 x23 x24 x37 x38 x39 h => ih x6 x7 x22 x23 x24 x37 x38 x39 h K) x6 x7 x22 x23 x24 x37 x38 x39 h K)
noncomputable def p25_39 (call : CallFn) (n : Nat) (B18 : F4) (x6 x7 x9 x22 x23 x24 : AV) (h : AHeap) (K : Kont) : Bool :=
  lenK x9 fun v21 => l25_42 call n B18 n x6 x7 x22 x23 x24 x9 v21 (.int .i64 0) h K
noncomputable def p25_31001 (call : CallFn) (n : Nat) (B18 : F4) (x6 x7 x22 x23 x24 x32 : AV) (h : AHeap) (K : Kont) : Bool :=
  extK 0 x32 fun v18 => extK 1 x32 fun v19 => neqK v19 (.int .i64 0) fun v20 => condK v20 (K (.tup [.nilSlc, (.int .i64 22)]) h) (p25_39 call n B18 x6 x7 v18 x22 x23 x24 h K)
noncomputable def p25_25 (call : CallFn) (n : Nat) (B18 : F4) (x6 x22 x23 x24 : AV) (h : AHeap) (K : Kont) : Bool :=
  iadrK h 8 x22 x24 fun v11 => loadGK h 8 v11 fun v12 => allocK h [.str [], .int .i64 0, .str [], .str [], .bool false, .bool false, .nilSlc, .nilSlc] 8 fun v13 h => storeNK h 8 v13 v12 fun h => fadrK 6 v13 fun v15 => loadK h v15 fun v16 => call (.func 47) [v16] h <| pz K fun v17 h => p25_31001 call n B18 x6 x24 x22 x23 x24 v17 h K
noncomputable def p25_56 (call : CallFn) (n : Nat) (x6 : AV) (h : AHeap) (K : Kont) : Bool :=
  lenK x6 fun v30 => gtrK v30 (.int .i64 512) fun v31 => condK v31 (K (.tup [.nilSlc, (.int .i64 22)]) h) (K (.tup [x6, (.int .i64 0)]) h)
noncomputable def b25_18 (call : CallFn) (n : Nat) (B18 : F4) (x6 x22 x23 x24 : AV) (h : AHeap) (K : Kont) : Bool :=
  lssK x24 x23 fun v10 => condK v10 (p25_25 call n B18 x6 x22 x23 x24 h K) (p25_56 call n x6 h K)
noncomputable def l25_18 (call : CallFn) (n : Nat) : Nat → AV → AV → AV → AV → AHeap → Kont → Bool :=
  @Nat.rec (fun _ => AV → AV → AV → AV → AHeap → Kont → Bool) (fun _ _ _ _ _ _ => false) (fun _ ih x6 x22 x23 x24 h K => b25_18 call n (fun x6 x22 x23 x24 h => ih x6 x22 x23 x24 h K) x6 x22 x23 x24 h K)
noncomputable def p25_12 (call : CallFn) (n : Nat) (x1 : AV) (h : AHeap) (K : Kont) : Bool :=
  fadrK 1 x1 fun v7 => loadK h v7 fun v8 => lenK v8 fun v9 => l25_18 call n n .nilSlc v8 v9 (.int .i64 0) h K
noncomputable def p25_5001 (call : CallFn) (n : Nat) (x1 x15 : AV) (h : AHeap) (K : Kont) : Bool :=
  extK 0 x15 fun v4 => extK 1 x15 fun v5 => neqK v5 (.int .i64 0) fun v6 => condK v6 (K (.tup [.nilSlc, v5]) h) (p25_12 call n x1 h K)
noncomputable def s25 (call : CallFn) (n : Nat) (x0 : AV) (h : AHeap) (K : Kont) : Bool :=
  optPK (boxA h 3 x0) fun v1 h => loadGK h 3 v1 fun v2 => call (.func 46) [v2] h <| pz K fun v3 h => p25_5001 call n v1 v3 h K

/-! ### 26 proctor/agenda.Of -/
noncomputable def b26_8 (call : CallFn) (n : Nat) (B8 : F3) (x5 x15 x16 : AV) (h : AHeap) (K : Kont) : Bool :=
  lssK x16 x15 fun v10 => condK v10 (nilckK x5 fun v11 => fadrK 2 v11 fun v12 => loadK h v12 fun v13 => optPK (mkmapV h) fun v14 h => optPK (bsliceV h 1 1 [.nilMap] [(0, v14)]) fun v15 h => optPK (appendA h 1 8 v13 v15) fun v16 h => nilckK x5 fun v17 => fadrK 2 v17 fun v18 => storeK h v18 v16 fun h => addK x16 (.int .i64 1) fun v20 => B8 x5 x15 v20 h) (K x5 h)
noncomputable def l26_8 (call : CallFn) (n : Nat) : Nat → AV → AV → AV → AHeap → Kont → Bool :=
  @Nat.rec (fun _ => AV → AV → AV → AHeap → Kont → Bool) (fun _ _ _ _ _ => false) (fun _ ih x5 x15 x16 h K => b26_8 call n (fun x5 x15 x16 h => ih x5 x15 x16 h K) x5 x15 x16 h K)
noncomputable def p26_4001 (call : CallFn) (n : Nat) (x1 x8 : AV) (h : AHeap) (K : Kont) : Bool :=
  optPK (bsliceV h 1 1 [.str []] [(0, (.str [109, 97, 105, 110]))]) fun v5 h => optPK (mkmapV h) fun v6 h => buildK [.nilSlc, .nilSlc, .nilSlc, .nilSlc, .nilMap, .bool false, .nilFn] [(0, 1, x8), (1, 1, x1), (3, 1, v5), (4, 1, v6), (6, 1, (.fn (.func 37) [] []))] fun v7 => optPK (boxA h 7 v7) fun v8 h => lenK x1 fun v9 => l26_8 call n n v8 v9 (.int .i64 0) h K
noncomputable def s26 (call : CallFn) (n : Nat) (x0 x1 : AV) (h : AHeap) (K : Kont) : Bool :=
  optPK (boxA h 3 x0) fun v1 h => fadrK 1 v1 fun v2 => loadK h v2 fun v3 => call (.func 48) [v3] h <| pz K fun v4 h => p26_4001 call n x1 v4 h K

/-! ### 27 (*proctor/agenda.Agenda).rule -/
noncomputable def s27 (call : CallFn) (n : Nat) (x0 x1 : AV) (h : AHeap) (K : Kont) : Bool :=
  allocK h [.str [], .int .i64 0, .str [], .str [], .bool false, .bool false, .nilSlc, .nilSlc] 8 fun v1 h => nilckK x0 fun v2 => fadrK 0 v2 fun v3 => loadK h v3 fun v4 => nilckK x0 fun v5 => fadrK 1 v5 fun v6 => loadK h v6 fun v7 => iadrK h 3 v7 x1 fun v8 => fadrK 0 v8 fun v9 => loadK h v9 fun v10 => iadrK h 8 v4 v10 fun v11 => loadGK h 8 v11 fun v12 => storeNK h 8 v1 v12 fun h => optR (resV h [(v1, some (true, 8))]) h K

/-! ### 28 (*proctor/agenda.Agenda).group -/
noncomputable def p28_4001 (call : CallFn) (n : Nat) (x7 : AV) (h : AHeap) (K : Kont) : Bool :=
  fldK 2 x7 fun v2 => optPK (bsliceV h 2 1 [.str []] [(0, v2), (1, (.str [109, 97, 105, 110]))]) fun v3 h => call (.func 49) [v3] h <| pz K fun v4 h => K v4 h
noncomputable def s28 (call : CallFn) (n : Nat) (x0 x1 : AV) (h : AHeap) (K : Kont) : Bool :=
  call (.func 27) [x0, x1] h <| pz K fun v1 h => p28_4001 call n v1 h K

/-! ### 29 (*proctor/agenda.Agenda).top -/
noncomputable def s29 (call : CallFn) (n : Nat) (x0 : AV) (h : AHeap) (K : Kont) : Bool :=
  nilckK x0 fun v1 => fadrK 3 v1 fun v2 => loadK h v2 fun v3 => nilckK x0 fun v4 => fadrK 3 v4 fun v5 => loadK h v5 fun v6 => lenK v6 fun v7 => subK v7 (.int .i64 1) fun v8 => iadrK h 1 v3 v8 fun v9 => loadK h v9 fun v10 => K v10 h

/-! ### 30 proctor/agenda.may -/
noncomputable def p30_4001 (call : CallFn) (n : Nat) (x5 : AV) (h : AHeap) (K : Kont) : Bool :=
  notK x5 fun v5 => K v5 h
noncomputable def s30 (call : CallFn) (n : Nat) (x0 : AV) (h : AHeap) (K : Kont) : Bool :=
  optPK (boxA h 3 x0) fun v1 h => fadrK 1 v1 fun v2 => loadK h v2 fun v3 => call (.func 50) [v3, (.fn (.func 51) [] [])] h <| pz K fun v4 h => p30_4001 call n v4 h K

/-! ### 31 proctor/match.Key -/
noncomputable def s31 (call : CallFn) (n : Nat) (x0 : AV) (h : AHeap) (K : Kont) : Bool :=
  optPK (boxA h 3 x0) fun v1 h => fadrK 1 v1 fun v2 => loadK h v2 fun v3 => call (.func 55) [v3] h <| pz K fun v4 h => K v4 h

/-! ### 32 proctor/agenda.told -/
noncomputable def p32_41 (call : CallFn) (n : Nat) (B8 : F6) (x1 x2 x3 x15 x16 x17 : AV) (h : AHeap) (K : Kont) : Bool :=
  addK x17 (.int .i64 1) fun v42 => B8 x1 x2 x3 x15 x16 v42 h
noncomputable def p32_40 (call : CallFn) (n : Nat) (B8 : F6) (x1 x2 x3 x5 x15 x16 x17 : AV) (h : AHeap) (K : Kont) : Bool :=
  fadrK 1 x3 fun v35 => loadK h v35 fun v36 => loadGK h 3 x5 fun v37 => optPK (bsliceV h 1 3 [.int .i64 0, .int .i64 0, .nilSlc] [(0, v37)]) fun v38 h => optPK (appendA h 3 40 v36 v38) fun v39 h => fadrK 1 x3 fun v40 => storeK h v40 v39 fun h => p32_41 call n B8 x1 x2 x3 x15 x16 x17 h K
noncomputable def b32_27 (call : CallFn) (n : Nat) (B8 : F6) (B27 : F10) (x1 x2 x3 x5 x15 x16 x17 x24 x25 x26 : AV) (h : AHeap) (K : Kont) : Bool :=
  lssK x26 x25 fun v21 => condK v21 (iadrK h 5 x24 x26 fun v22 => loadGK h 5 v22 fun v23 => allocK h [.int .i64 0, .bool false, .int .i64 0, .str [], .nilSlc] 5 fun v24 h => storeNK h 5 v24 v23 fun h => fadrK 2 x5 fun v26 => loadK h v26 fun v27 => loadGK h 5 v24 fun v28 => call (.func 56) [v28] h <| pz K fun v29 h => loadK h v26 <| sameK v27 <| optPK (bsliceV h 1 5 [.int .i64 0, .bool false, .int .i64 0, .str [], .nilSlc] [(0, v29)]) fun v30 h => loadK h v26 <| sameK v27 <| loadGK h 5 v24 <| sameK v28 <| optPK (appendA h 5 64 v27 v30) fun v31 h => fadrK 2 x5 fun v32 => storeK h v32 v31 fun h => addK x26 (.int .i64 1) fun v34 => B27 x1 x2 x3 x5 x15 x16 x17 x24 x25 v34 h) (p32_40 call n B8 x1 x2 x3 x5 x15 x16 x17 h K)
noncomputable def l32_27 (call : CallFn) (n : Nat) (B8 : F6) : Nat → AV → AV → AV → AV → AV → AV → AV → AV → AV → AV → AHeap → Kont → Bool :=
  @Nat.rec (fun _ => AV → AV → AV → AV → AV → AV → AV → AV → AV → AV → AHeap → Kont → Bool) (fun _ _ _ _ _ _ _ _ _ _ _ _ => false) (fun _ ih x1 x2 x3 x5 x15 x16 x17 x24 x25 x26 h K => b32_27 call n B8 (fun x1 x2 x3 x5 x15 x16 x17 x24 x25 x26 h => ih x1 x2 x3 x5 x15 x16 x17 x24 x25 x26 h K) x1 x2 x3 x5 x15 x16 x17 x24 x25 x26 h K)
noncomputable def p32_15 (call : CallFn) (n : Nat) (B8 : F6) (x1 x2 x3 x15 x16 x17 : AV) (h : AHeap) (K : Kont) : Bool :=
  iadrK h 3 x15 x17 fun v12 => loadGK h 3 v12 fun v13 => allocK h [.int .i64 0, .int .i64 0, .nilSlc] 3 fun v14 h => storeNK h 3 v14 v13 fun h => fadrK 2 v14 fun v16 => loadK h v16 fun v17 => fadrK 2 v14 fun v18 => storeK h v18 .nilSlc fun h => lenK v17 fun v20 => l32_27 call n B8 n x1 x2 x3 v14 x15 x16 x17 v17 v20 (.int .i64 0) h K
noncomputable def p32_59 (call : CallFn) (n : Nat) (x2 x3 : AV) (h : AHeap) (K : Kont) : Bool :=
  loadGK h 3 x3 fun v64 => storeNK h 3 x2 v64 fun h => optR (resV h [(x2, some (true, 3))]) h K
noncomputable def b32_46 (call : CallFn) (n : Nat) (B46 : F5) (x2 x3 x46 x47 x48 : AV) (h : AHeap) (K : Kont) : Bool :=
  lssK x48 x47 fun v46 => condK v46 (iadrK h 6 x46 x48 fun v47 => loadGK h 6 v47 fun v48 => allocK h [.str [], .int .i64 0, .bool false, .int .i64 0, .str [], .nilSlc] 6 fun v49 h => storeNK h 6 v49 v48 fun h => fadrK 2 x3 fun v51 => loadK h v51 fun v52 => fadrK 0 v49 fun v53 => loadK h v53 fun v54 => fadrK 1 v49 fun v55 => loadGK h 5 v55 fun v56 => call (.func 56) [v56] h <| pz K fun v57 h => loadK h v51 <| sameK v52 <| loadK h v53 <| sameK v54 <| buildK [.str [], .int .i64 0, .bool false, .int .i64 0, .str [], .nilSlc] [(0, 1, v54), (1, 5, v57)] fun v58 => optPK (bsliceV h 1 6 [.str [], .int .i64 0, .bool false, .int .i64 0, .str [], .nilSlc] [(0, v58)]) fun v59 h => loadK h v51 <| sameK v52 <| loadK h v53 <| sameK v54 <| loadGK h 5 v55 <| sameK v56 <| optPK (appendA h 6 80 v52 v59) fun v60 h => fadrK 2 x3 fun v61 => storeK h v61 v60 fun h => addK x48 (.int .i64 1) fun v63 => B46 x2 x3 x46 x47 v63 h) (p32_59 call n x2 x3 h K)
noncomputable def l32_46 (call : CallFn) (n : Nat) : Nat → AV → AV → AV → AV → AV → AHeap → Kont → Bool :=
  @Nat.rec (fun _ => AV → AV → AV → AV → AV → AHeap → Kont → Bool) (fun _ _ _ _ _ _ _ => false) (fun _ ih x2 x3 x46 x47 x48 h K => b32_46 call n (fun x2 x3 x46 x47 x48 h => ih x2 x3 x46 x47 x48 h K) x2 x3 x46 x47 x48 h K)
noncomputable def p32_42 (call : CallFn) (n : Nat) (x1 x2 x3 : AV) (h : AHeap) (K : Kont) : Bool :=
  fadrK 2 x1 fun v43 => loadK h v43 fun v44 => lenK v44 fun v45 => l32_46 call n n x2 x3 v44 v45 (.int .i64 0) h K
noncomputable def b32_8 (call : CallFn) (n : Nat) (B8 : F6) (x1 x2 x3 x15 x16 x17 : AV) (h : AHeap) (K : Kont) : Bool :=
  lssK x17 x16 fun v11 => condK v11 (p32_15 call n B8 x1 x2 x3 x15 x16 x17 h K) (p32_42 call n x1 x2 x3 h K)
noncomputable def l32_8 (call : CallFn) (n : Nat) : Nat → AV → AV → AV → AV → AV → AV → AHeap → Kont → Bool :=
  @Nat.rec (fun _ => AV → AV → AV → AV → AV → AV → AHeap → Kont → Bool) (fun _ _ _ _ _ _ _ _ => false) (fun _ ih x1 x2 x3 x15 x16 x17 h K => b32_8 call n (fun x1 x2 x3 x15 x16 x17 h => ih x1 x2 x3 x15 x16 x17 h K) x1 x2 x3 x15 x16 x17 h K)
noncomputable def s32 (call : CallFn) (n : Nat) (x0 : AV) (h : AHeap) (K : Kont) : Bool :=
  optPK (boxA h 3 x0) fun v1 h => allocK h [.int .i64 0, .nilSlc, .nilSlc] 3 fun v2 h => fadrK 0 v1 fun v3 => loadK h v3 fun v4 => buildK [.int .i64 0, .nilSlc, .nilSlc] [(0, 1, v4)] fun v5 => allocK h [.int .i64 0, .nilSlc, .nilSlc] 3 fun v6 h => storeNK h 3 v6 v5 fun h => fadrK 1 v1 fun v8 => loadK h v8 fun v9 => lenK v9 fun v10 => l32_8 call n n v1 v2 v6 v9 v10 (.int .i64 0) h K

/-! ### 33 slices.Clone[[]string,string] -/
noncomputable def s33 (call : CallFn) (n : Nat) (x0 : AV) (h : AHeap) (K : Kont) : Bool :=
  optK (eqV h false .slc x0 .nilSlc) fun v1 => condK v1 (K .nilSlc h) (optPK (bsliceV h 0 1 [.str []] []) fun v2 h => optPK (appendA h 1 16 v2 x0) fun v3 h => K v3 h)

/-! ### 34 (*proctor/agenda.Agenda).waiting -/
noncomputable def p34_41 (call : CallFn) (n : Nat) (B10 : F6) (x0 x1 x5 x21 x22 x23 : AV) (h : AHeap) (K : Kont) : Bool :=
  addK x23 (.int .i64 1) fun v31 => B10 x0 x1 x5 x21 x22 v31 h
noncomputable def b34_26 (call : CallFn) (n : Nat) (B10 : F6) (B26 : F8) (x0 x1 x5 x8 x21 x22 x23 x34 : AV) (h : AHeap) (K : Kont) : Bool :=
  nextA h x34 fun v16 h => extK 0 v16 fun v17 => condK v17 (optK (entA h x34) fun v18 => extK 1 v18 fun v19 => optK (eqV h true .ptr x8 .nilPtr) fun v20 => gK v20 true (optK (some v19)) fun v21 => gK v20 true (nilckK v21) fun v22 => gK v20 true (fadrK 3 v22) fun v23 => gK v20 true (loadK h v23) fun v24 => gK v20 true (notK v24) fun v25 => pickK v20 v25 (.bool false) fun v26 => condK v26 (nilckK v19 fun v27 => fadrK 0 v27 fun v28 => loadGK h 3 v28 fun v29 => call (.func 58) [x8, v29] h <| pz K fun v30 h => B26 x0 x1 x5 x8 x21 x22 x23 x34 h) (B26 x0 x1 x5 x8 x21 x22 x23 x34 h)) (p34_41 call n B10 x0 x1 x5 x21 x22 x23 h K)
noncomputable def l34_26 (call : CallFn) (n : Nat) (B10 : F6) : Nat → AV → AV → AV → AV → AV → AV → AV → AV → AHeap → Kont → Bool :=
  @Nat.rec (fun _ => AV → AV → AV → AV → AV → AV → AV → AV → AHeap → Kont → Bool) (fun _ _ _ _ _ _ _ _ _ _ => false) (fun _ ih x0 x1 x5 x8 x21 x22 x23 x34 h K => b34_26 call n B10 (fun x0 x1 x5 x8 x21 x22 x23 x34 h => ih x0 x1 x5 x8 x21 x22 x23 x34 h K) x0 x1 x5 x8 x21 x22 x23 x34 h K)
noncomputable def p34_23001 (call : CallFn) (n : Nat) (B10 : F6) (x0 x1 x5 x7 x21 x22 x23 x28 x31 : AV) (h : AHeap) (K : Kont) : Bool :=
  optK (lookA h (.leaf .str) false .nilPtr x28 x31) fun v14 => optPK (rngA h x7) fun v15 h => l34_26 call n B10 n x0 x1 x5 v14 x21 x22 x23 v15 h K
noncomputable def p34_17 (call : CallFn) (n : Nat) (B10 : F6) (x0 x1 x5 x21 x22 x23 : AV) (h : AHeap) (K : Kont) : Bool :=
  iadrK h 1 x21 x23 fun v11 => loadK h v11 fun v12 => call (.func 28) [x0, x23] h <| pz K fun v13 h => p34_23001 call n B10 x0 x1 x5 v12 x21 x22 x23 x5 v13 h K
noncomputable def p34_42 (call : CallFn) (n : Nat) (x1 x5 : AV) (h : AHeap) (K : Kont) : Bool :=
  optK (lookA h (.leaf .str) false .nilPtr x5 x1) fun v32 => K v32 h
noncomputable def b34_10 (call : CallFn) (n : Nat) (B10 : F6) (x0 x1 x5 x21 x22 x23 : AV) (h : AHeap) (K : Kont) : Bool :=
  lssK x23 x22 fun v10 => condK v10 (p34_17 call n B10 x0 x1 x5 x21 x22 x23 h K) (p34_42 call n x1 x5 h K)
noncomputable def l34_10 (call : CallFn) (n : Nat) : Nat → AV → AV → AV → AV → AV → AV → AHeap → Kont → Bool :=
  @Nat.rec (fun _ => AV → AV → AV → AV → AV → AV → AHeap → Kont → Bool) (fun _ _ _ _ _ _ _ _ => false) (fun _ ih x0 x1 x5 x21 x22 x23 h K => b34_10 call n (fun x0 x1 x5 x21 x22 x23 h => ih x0 x1 x5 x21 x22 x23 h K) x0 x1 x5 x21 x22 x23 h K)
noncomputable def s34 (call : CallFn) (n : Nat) (x0 x1 : AV) (h : AHeap) (K : Kont) : Bool :=
  optPK (mkmapV h) fun v1 h => optK (some (.fn (.func 57) [x0] [])) fun v2 => buildK [.nilSlc, .nilFn] [(1, 1, v2)] fun v3 => optPK (boxA h 2 v3) fun v4 h => optPK (unit (mupdA h (.leaf .str) v1 x1 v4)) fun _ h => nilckK x0 fun v6 => fadrK 2 v6 fun v7 => loadK h v7 fun v8 => lenK v8 fun v9 => l34_10 call n n x0 x1 v1 v8 v9 (.int .i64 0) h K

/-! ### 35 (*proctor/agenda.heap[proctor/api.Match]).pop -/
noncomputable def p35_33 (call : CallFn) (n : Nat) (B11 : F4) (B19 : F6) (x0 x2 x3 x5 x6 x7 : AV) (h : AHeap) (K : Kont) : Bool :=
  addK x7 (.int .i64 1) fun v61 => B19 x0 x2 x3 x5 x6 v61 h
noncomputable def p35_34 (call : CallFn) (n : Nat) (B11 : F4) (x0 x2 x3 x5 x6 : AV) (h : AHeap) (K : Kont) : Bool :=
  eqlK x6 x5 fun v62 => condK v62 (loadGK h 3 x3 fun v63 => storeNK h 3 x2 v63 fun h => optR (resV h [(x2, some (true, 3))]) h K) (nilckK x0 fun v65 => fadrK 0 v65 fun v66 => loadK h v66 fun v67 => nilckK x0 fun v68 => fadrK 0 v68 fun v69 => loadK h v69 fun v70 => nilckK x0 fun v71 => fadrK 0 v71 fun v72 => loadK h v72 fun v73 => iadrK h 3 v73 x6 fun v74 => loadGK h 3 v74 fun v75 => nilckK x0 fun v76 => fadrK 0 v76 fun v77 => loadK h v77 fun v78 => iadrK h 3 v78 x5 fun v79 => loadGK h 3 v79 fun v80 => iadrK h 3 v67 x5 fun v81 => storeNK h 3 v81 v75 fun h => iadrK h 3 v70 x6 fun v83 => storeNK h 3 v83 v80 fun h => B11 x0 x2 x3 x6 h)
noncomputable def b35_19 (call : CallFn) (n : Nat) (B11 : F4) (B19 : F6) (x0 x2 x3 x5 x6 x7 : AV) (h : AHeap) (K : Kont) : Bool :=
  optK (binA .mul (.int .i64 2) x5) fun v33 => addK v33 (.int .i64 2) fun v34 => leqK x7 v34 fun v35 => condK v35 (nilckK x0 fun v36 => fadrK 0 v36 fun v37 => loadK h v37 fun v38 => lenK v38 fun v39 => lssK x7 v39 fun v40 => gK v40 true (optK (some x0)) fun v41 => gK v40 true (nilckK v41) fun v42 => gK v40 true (fadrK 1 v42) fun v43 => gK v40 true (loadK h v43) fun v44 => gK v40 true (optK (some x0)) fun v45 => gK v40 true (nilckK v45) fun v46 => gK v40 true (fadrK 0 v46) fun v47 => gK v40 true (loadK h v47) fun v48 => gK v40 true (optK (some x7)) fun v49 => gK v40 true (iadrK h 3 v48 v49) fun v50 => gK v40 true (loadGK h 3 v50) fun v51 => gK v40 true (optK (some x0)) fun v52 => gK v40 true (nilckK v52) fun v53 => gK v40 true (fadrK 0 v53) fun v54 => gK v40 true (loadK h v54) fun v55 => gK v40 true (optK (some x6)) fun v56 => gK v40 true (iadrK h 3 v55 v56) fun v57 => gK v40 true (loadGK h 3 v57) fun v58 => gP v40 true (fun k => callV call v44 [v51, v58] h (pz K k)) h fun v59 h => pickK v40 v59 (.bool false) fun v60 => condK v60 (p35_33 call n B11 B19 x0 x2 x3 x5 x7 x7 h K) (p35_33 call n B11 B19 x0 x2 x3 x5 x6 x7 h K)) (p35_34 call n B11 x0 x2 x3 x5 x6 h K)
noncomputable def l35_19 (call : CallFn) (n : Nat) (B11 : F4) : Nat → AV → AV → AV → AV → AV → AV → AHeap → Kont → Bool :=
  @Nat.rec (fun _ => AV → AV → AV → AV → AV → AV → AHeap → Kont → Bool) (fun _ _ _ _ _ _ _ _ => false) (fun _ ih x0 x2 x3 x5 x6 x7 h K => b35_19 call n B11 (fun x0 x2 x3 x5 x6 x7 h => ih x0 x2 x3 x5 x6 x7 h K) x0 x2 x3 x5 x6 x7 h K)
noncomputable def b35_11 (call : CallFn) (n : Nat) (B11 : F4) (x0 x2 x3 x5 : AV) (h : AHeap) (K : Kont) : Bool :=
  optK (binA .mul (.int .i64 2) x5) fun v31 => addK v31 (.int .i64 1) fun v32 => l35_19 call n B11 n x0 x2 x3 x5 x5 v32 h K
noncomputable def l35_11 (call : CallFn) (n : Nat) : Nat → AV → AV → AV → AV → AHeap → Kont → Bool :=
  @Nat.rec (fun _ => AV → AV → AV → AV → AHeap → Kont → Bool) (fun _ _ _ _ _ _ => false) (fun _ ih x0 x2 x3 x5 h K => b35_11 call n (fun x0 x2 x3 x5 h => ih x0 x2 x3 x5 h K) x0 x2 x3 x5 h K)
noncomputable def s35 (call : CallFn) (n : Nat) (x0 : AV) (h : AHeap) (K : Kont) : Bool :=
  allocK h [.int .i64 0, .nilSlc, .nilSlc] 3 fun v1 h => nilckK x0 fun v2 => fadrK 0 v2 fun v3 => loadK h v3 fun v4 => iadrK h 3 v4 (.int .i64 0) fun v5 => loadGK h 3 v5 fun v6 => nilckK x0 fun v7 => fadrK 0 v7 fun v8 => loadK h v8 fun v9 => lenK v9 fun v10 => subK v10 (.int .i64 1) fun v11 => allocK h [.int .i64 0, .nilSlc, .nilSlc] 3 fun v12 h => loadK h v3 <| sameK v4 <| iadrK h 3 v4 (.int .i64 0) <| sameK v5 <| loadGK h 3 v5 <| sameK v6 <| loadK h v8 <| sameK v9 <| lenK v9 <| sameK v10 <| storeNK h 3 v12 v6 fun h => loadK h v8 <| sameK v9 <| lenK v9 <| sameK v10 <| nilckK x0 fun v14 => fadrK 0 v14 fun v15 => loadK h v15 fun v16 => nilckK x0 fun v17 => fadrK 0 v17 fun v18 => loadK h v18 fun v19 => iadrK h 3 v19 v11 fun v20 => loadGK h 3 v20 fun v21 => iadrK h 3 v16 (.int .i64 0) fun v22 => storeNK h 3 v22 v21 fun h => nilckK x0 fun v24 => fadrK 0 v24 fun v25 => loadK h v25 fun v26 => optK (sliceV h 3 v26 none (some v11) none) fun v27 => nilckK x0 fun v28 => fadrK 0 v28 fun v29 => storeK h v29 v27 fun h => l35_11 call n n x0 v1 v12 (.int .i64 0) h K

/-! ### 36 (*proctor/agenda.Agenda).Start$1 -/
noncomputable def s36 (call : CallFn) (n : Nat) (x0 x1 : AV) (h : AHeap) (K : Kont) : Bool :=
  loadK h x1 fun v1 => eqlK x0 v1 fun v2 => K v2 h

/-! ### 37 proctor/agenda.nothing -/
noncomputable def s37 (call : CallFn) (n : Nat) (x0 : AV) (h : AHeap) (K : Kont) : Bool :=
  K (.bool false) h

/-! ### 38 slices.Sort[[]string,string] -/
noncomputable def p38_3001 (call : CallFn) (n : Nat) (x5 x6 x9 : AV) (h : AHeap) (K : Kont) : Bool :=
  call (.func 59) [x5, (.int .i64 0), x6, x9] h <| pz K fun v4 h => K (.tup []) h
noncomputable def s38 (call : CallFn) (n : Nat) (x0 : AV) (h : AHeap) (K : Kont) : Bool :=
  lenK x0 fun v1 => optK (convA .u64 v1) fun v2 => call (.func 60) [v2] h <| pz K fun v3 h => p38_3001 call n x0 v1 v3 h K

/-! ### 39 proctor/lex.Lex -/
noncomputable def p39_12001 (call : CallFn) (n : Nat) (x9 : AV) (h : AHeap) (K : Kont) : Bool :=
  extK 0 x9 fun v4 => extK 1 x9 fun v5 => extK 2 x9 fun v6 => K (.tup [v4, v5, v6]) h
noncomputable def s39 (call : CallFn) (n : Nat) (x0 : AV) (h : AHeap) (K : Kont) : Bool :=
  lenSK x0 fun v1 => gtrK v1 (.int .i64 65536) fun v2 => condK v2 (K (.tup [.nilSlc, (.int .i64 0), (.int .i64 21)]) h) (call (.func 61) [x0] h <| pz K fun v3 h => p39_12001 call n v3 h K)

/-! ### 41 (*proctor/parse.parser).take -/
noncomputable def p41_5001 (call : CallFn) (n : Nat) (x0 x7 : AV) (h : AHeap) (K : Kont) : Bool :=
  notK x7 fun v2 => condK v2 (K (.bool false) h) (nilckK x0 fun v3 => fadrK 1 v3 fun v4 => loadK h v4 fun v5 => addK v5 (.int .i64 1) fun v6 => nilckK x0 fun v7 => fadrK 1 v7 fun v8 => storeK h v8 v6 fun h => K (.bool true) h)
noncomputable def s41 (call : CallFn) (n : Nat) (x0 x1 : AV) (h : AHeap) (K : Kont) : Bool :=
  call (.func 65) [x0, (.int .i64 0), x1] h <| pz K fun v1 h => p41_5001 call n x0 v1 h K

/-! ### 42 (*proctor/parse.parser).class -/
noncomputable def p42_27 (call : CallFn) (n : Nat) (x0 x2 x3 : AV) (h : AHeap) (K : Kont) : Bool :=
  call (.func 70) [x0, (.str [125])] h <| pz K fun v33 h => loadGK h 3 x3 fun v34 => storeNK h 3 x2 v34 fun h => optR (resV h [(x2, some (true, 3))]) h K
noncomputable def p42_20003 (call : CallFn) (n : Nat) (B16 : F4) (x0 x2 x3 x21 x24 x27 x29 : AV) (h : AHeap) (K : Kont) : Bool :=
  gK x24 true (pickK x27 (.bool true) x29) fun v23 => gK x21 false (pickK x24 v23 (.bool false)) fun v24 => pickK x21 (.bool true) v24 fun v25 => condK v25 (fadrK 2 x3 fun v26 => loadK h v26 fun v27 => call (.func 69) [x0] h <| pz K fun v28 h => loadK h v26 <| sameK v27 <| optPK (bsliceV h 1 3 [.str [], .int .i64 0, .str []] [(0, v28)]) fun v29 h => loadK h v26 <| sameK v27 <| optPK (appendA h 3 40 v27 v29) fun v30 h => fadrK 2 x3 fun v31 => storeK h v31 v30 fun h => B16 x0 x2 x3 (.bool false) h) (p42_27 call n x0 x2 x3 h K)
noncomputable def p42_20002 (call : CallFn) (n : Nat) (B16 : F4) (x0 x2 x3 x21 x24 x26 : AV) (h : AHeap) (K : Kont) : Bool :=
  gK x24 true (optK (some x26)) fun v20 => gK v20 false (optK (some x0)) fun v21 => gP v20 false (fun k => call (.func 68) [v21, (.int .i64 0)] h (pz K k)) h fun v22 h => p42_20003 call n B16 x0 x2 x3 x21 x24 v20 v22 h K
noncomputable def p42_20001 (call : CallFn) (n : Nat) (B16 : F4) (x0 x2 x3 x4 x16 x18 : AV) (h : AHeap) (K : Kont) : Bool :=
  gK x16 true (notK x18) fun v13 => pickK x16 v13 (.bool false) fun v14 => gK v14 false (optK (some x4)) fun v15 => gK v14 false (notK v15) fun v16 => gK v14 false (optK (some v16)) fun v17 => gK v17 true (optK (some x0)) fun v18 => gP v17 true (fun k => call (.func 41) [v18, (.str [44])] h (pz K k)) h fun v19 h => p42_20002 call n B16 x0 x2 x3 v14 v17 v19 h K
noncomputable def b42_16 (call : CallFn) (n : Nat) (B16 : F4) (x0 x2 x3 x4 : AV) (h : AHeap) (K : Kont) : Bool :=
  gK x4 true (optK (some x0)) fun v11 => gP x4 true (fun k => call (.func 65) [v11, (.int .i64 0), (.str [125])] h (pz K k)) h fun v12 h => p42_20001 call n B16 x0 x2 x3 x4 x4 v12 h K
noncomputable def l42_16 (call : CallFn) (n : Nat) : Nat → AV → AV → AV → AV → AHeap → Kont → Bool :=
  @Nat.rec (fun _ => AV → AV → AV → AV → AHeap → Kont → Bool) (fun _ _ _ _ _ _ => false) (fun _ ih x0 x2 x3 x4 h K => b42_16 call n (fun x0 x2 x3 x4 h => ih x0 x2 x3 x4 h K) x0 x2 x3 x4 h K)
noncomputable def p42_10 (call : CallFn) (n : Nat) (x0 x2 x3 : AV) (h : AHeap) (K : Kont) : Bool :=
  call (.func 67) [x0, (.str [123])] h <| pz K fun v10 h => l42_16 call n n x0 x2 x3 (.bool true) h K
noncomputable def p42_9001 (call : CallFn) (n : Nat) (x0 x2 x3 x11 : AV) (h : AHeap) (K : Kont) : Bool :=
  fadrK 1 x3 fun v8 => storeK h v8 x11 fun h => p42_10 call n x0 x2 x3 h K
noncomputable def p42_4001 (call : CallFn) (n : Nat) (x0 x2 x6 : AV) (h : AHeap) (K : Kont) : Bool :=
  buildK [.str [], .str [], .nilSlc] [(0, 1, x6)] fun v3 => allocK h [.str [], .str [], .nilSlc] 3 fun v4 h => storeNK h 3 v4 v3 fun h => call (.func 41) [x0, (.str [101, 120, 116, 101, 110, 100, 115])] h <| pz K fun v6 h => condK v6 (call (.func 66) [x0] h <| pz K fun v7 h => p42_9001 call n x0 x2 v4 v7 h K) (p42_10 call n x0 x2 v4 h K)
noncomputable def s42 (call : CallFn) (n : Nat) (x0 : AV) (h : AHeap) (K : Kont) : Bool :=
  allocK h [.str [], .str [], .nilSlc] 3 fun v1 h => call (.func 66) [x0] h <| pz K fun v2 h => p42_4001 call n x0 v1 v2 h K

/-! ### 43 (*proctor/parse.parser).rule -/
noncomputable def p43_19001 (call : CallFn) (n : Nat) (B6 : F3) (x0 x2 x3 x18 : AV) (h : AHeap) (K : Kont) : Bool :=
  fadrK 1 x3 fun v10 => storeK h v10 x18 fun h => B6 x0 x2 x3 h
noncomputable def p43_23001 (call : CallFn) (n : Nat) (B6 : F3) (x0 x2 x3 x24 : AV) (h : AHeap) (K : Kont) : Bool :=
  fadrK 2 x3 fun v14 => storeK h v14 x24 fun h => B6 x0 x2 x3 h
noncomputable def p43_27001 (call : CallFn) (n : Nat) (B6 : F3) (x0 x2 x3 x30 : AV) (h : AHeap) (K : Kont) : Bool :=
  fadrK 3 x3 fun v18 => storeK h v18 x30 fun h => B6 x0 x2 x3 h
noncomputable def p43_49 (call : CallFn) (n : Nat) (x2 x3 : AV) (h : AHeap) (K : Kont) : Bool :=
  loadGK h 8 x3 fun v42 => storeNK h 8 x2 v42 fun h => optR (resV h [(x2, some (true, 8))]) h K
noncomputable def p43_44001 (call : CallFn) (n : Nat) (B40 : F3) (x0 x2 x3 x44 : AV) (h : AHeap) (K : Kont) : Bool :=
  notK x44 fun v34 => condK v34 (fadrK 7 x3 fun v35 => loadK h v35 fun v36 => call (.func 74) [x0] h <| pz K fun v37 h => loadK h v35 <| sameK v36 <| optPK (bsliceV h 1 12 [.int .i64 0, .str [], .nilSlc, .int .i64 0, .str [], .int .i64 0, .bool false, .int .i64 0, .str [], .nilSlc, .nilSlc, .str []] [(0, v37)]) fun v38 h => loadK h v35 <| sameK v36 <| optPK (appendA h 12 176 v36 v38) fun v39 h => fadrK 7 x3 fun v40 => storeK h v40 v39 fun h => B40 x0 x2 x3 h) (p43_49 call n x2 x3 h K)
noncomputable def b43_40 (call : CallFn) (n : Nat) (B40 : F3) (x0 x2 x3 : AV) (h : AHeap) (K : Kont) : Bool :=
  call (.func 41) [x0, (.str [101, 110, 100])] h <| pz K fun v33 h => p43_44001 call n B40 x0 x2 x3 v33 h K
noncomputable def l43_40 (call : CallFn) (n : Nat) : Nat → AV → AV → AV → AHeap → Kont → Bool :=
  @Nat.rec (fun _ => AV → AV → AV → AHeap → Kont → Bool) (fun _ _ _ _ _ => false) (fun _ ih x0 x2 x3 h K => b43_40 call n (fun x0 x2 x3 h => ih x0 x2 x3 h K) x0 x2 x3 h K)
noncomputable def p43_36001 (call : CallFn) (n : Nat) (x0 x2 x3 x38 : AV) (h : AHeap) (K : Kont) : Bool :=
  fadrK 6 x3 fun v29 => storeK h v29 x38 fun h => optPK (bsliceV h 1 1 [.str []] [(0, (.str [116, 104, 101, 110]))]) fun v31 h => call (.func 44) [x0, v31] h <| pz K fun v32 h => l43_40 call n n x0 x2 x3 h K
noncomputable def p43_34 (call : CallFn) (n : Nat) (x0 x2 x3 : AV) (h : AHeap) (K : Kont) : Bool :=
  optPK (bsliceV h 1 1 [.str []] [(0, (.str [116, 104, 101, 110]))]) fun v27 h => call (.func 73) [x0, v27] h <| pz K fun v28 h => p43_36001 call n x0 x2 x3 v28 h K
noncomputable def p43_10001 (call : CallFn) (n : Nat) (B6 : F3) (x0 x2 x3 x8 : AV) (h : AHeap) (K : Kont) : Bool :=
  notK x8 fun v7 => condK v7 (call (.func 41) [x0, (.str [115, 97, 108, 105, 101, 110, 99, 101])] h <| pz K fun v8 h => condK v8 (call (.func 72) [x0] h <| pz K fun v9 h => p43_19001 call n B6 x0 x2 x3 v9 h K) (call (.func 41) [x0, (.str [103, 114, 111, 117, 112])] h <| pz K fun v12 h => condK v12 (call (.func 71) [x0] h <| pz K fun v13 h => p43_23001 call n B6 x0 x2 x3 v13 h K) (call (.func 41) [x0, (.str [102, 108, 111, 119])] h <| pz K fun v16 h => condK v16 (call (.func 71) [x0] h <| pz K fun v17 h => p43_27001 call n B6 x0 x2 x3 v17 h K) (call (.func 41) [x0, (.str [110, 111, 108, 111, 111, 112])] h <| pz K fun v20 h => condK v20 (fadrK 4 x3 fun v21 => storeK h v21 (.bool true) fun h => B6 x0 x2 x3 h) (optPK (bsliceV h 1 1 [.str []] [(0, (.str [108, 111, 99, 107]))]) fun v23 h => call (.func 44) [x0, v23] h <| pz K fun v24 h => fadrK 5 x3 fun v25 => storeK h v25 (.bool true) fun h => B6 x0 x2 x3 h))))) (p43_34 call n x0 x2 x3 h K)
noncomputable def b43_6 (call : CallFn) (n : Nat) (B6 : F3) (x0 x2 x3 : AV) (h : AHeap) (K : Kont) : Bool :=
  call (.func 41) [x0, (.str [119, 104, 101, 110])] h <| pz K fun v6 h => p43_10001 call n B6 x0 x2 x3 v6 h K
noncomputable def l43_6 (call : CallFn) (n : Nat) : Nat → AV → AV → AV → AHeap → Kont → Bool :=
  @Nat.rec (fun _ => AV → AV → AV → AHeap → Kont → Bool) (fun _ _ _ _ _ => false) (fun _ ih x0 x2 x3 h K => b43_6 call n (fun x0 x2 x3 h => ih x0 x2 x3 h K) x0 x2 x3 h K)
noncomputable def p43_4001 (call : CallFn) (n : Nat) (x0 x2 x5 : AV) (h : AHeap) (K : Kont) : Bool :=
  buildK [.str [], .int .i64 0, .str [], .str [], .bool false, .bool false, .nilSlc, .nilSlc] [(0, 1, x5)] fun v3 => allocK h [.str [], .int .i64 0, .str [], .str [], .bool false, .bool false, .nilSlc, .nilSlc] 8 fun v4 h => storeNK h 8 v4 v3 fun h => l43_6 call n n x0 x2 v4 h K
noncomputable def s43 (call : CallFn) (n : Nat) (x0 : AV) (h : AHeap) (K : Kont) : Bool :=
  allocK h [.str [], .int .i64 0, .str [], .str [], .bool false, .bool false, .nilSlc, .nilSlc] 8 fun v1 h => call (.func 71) [x0] h <| pz K fun v2 h => p43_4001 call n x0 v1 v2 h K

/-! ### 44 (*proctor/parse.parser).must -/
noncomputable def p44_15001 (call : CallFn) (n : Nat) (B3 : F4) (x0 x6 x7 x8 x12 x15 : AV) (h : AHeap) (K : Kont) : Bool :=
  call (.func 64) [x12, x15] h <| pz K fun v6 h => addK x8 (.int .i64 1) fun v7 => B3 x0 x6 x7 v7 h
noncomputable def b44_3 (call : CallFn) (n : Nat) (B3 : F4) (x0 x6 x7 x8 : AV) (h : AHeap) (K : Kont) : Bool :=
  lssK x8 x7 fun v2 => condK v2 (iadrK h 1 x6 x8 fun v3 => loadK h v3 fun v4 => call (.func 41) [x0, v4] h <| pz K fun v5 h => p44_15001 call n B3 x0 x6 x7 x8 x0 v5 h K) (K (.tup []) h)
noncomputable def l44_3 (call : CallFn) (n : Nat) : Nat → AV → AV → AV → AV → AHeap → Kont → Bool :=
  @Nat.rec (fun _ => AV → AV → AV → AV → AHeap → Kont → Bool) (fun _ _ _ _ _ _ => false) (fun _ ih x0 x6 x7 x8 h K => b44_3 call n (fun x0 x6 x7 x8 h => ih x0 x6 x7 x8 h K) x0 x6 x7 x8 h K)
noncomputable def s44 (call : CallFn) (n : Nat) (x0 x1 : AV) (h : AHeap) (K : Kont) : Bool :=
  lenK x1 fun v1 => l44_3 call n n x0 x1 v1 (.int .i64 0) h K

/-! ### 46 proctor/check.Check -/
noncomputable def p46_41001 (call : CallFn) (n : Nat) (B28 : F3) (x41 x42 x43 x49 : AV) (h : AHeap) (K : Kont) : Bool :=
  extK 0 x49 fun v27 => extK 1 x49 fun v28 => notK v28 fun v29 => condK v29 (K (.tup [v27, (.int .i64 22)]) h) (addK x43 (.int .i64 1) fun v30 => B28 x41 x42 v30 h)
noncomputable def b46_28 (call : CallFn) (n : Nat) (B28 : F3) (x41 x42 x43 : AV) (h : AHeap) (K : Kont) : Bool :=
  lssK x43 x42 fun v23 => condK v23 (iadrK h 1 x41 x43 fun v24 => loadK h v24 fun v25 => callV call v25 [] h <| pz K fun v26 h => p46_41001 call n B28 x41 x42 x43 v26 h K) (K (.tup [(.str []), (.int .i64 0)]) h)
noncomputable def l46_28 (call : CallFn) (n : Nat) : Nat → AV → AV → AV → AHeap → Kont → Bool :=
  @Nat.rec (fun _ => AV → AV → AV → AHeap → Kont → Bool) (fun _ _ _ _ _ => false) (fun _ ih x41 x42 x43 h K => b46_28 call n (fun x41 x42 x43 h => ih x41 x42 x43 h K) x41 x42 x43 h K)
noncomputable def p46_22 (call : CallFn) (n : Nat) (x1 x6 : AV) (h : AHeap) (K : Kont) : Bool :=
  loadGK h 3 x1 fun v13 => buildK [.nilSlc, .nilSlc, .nilSlc, .nilPtr, .bool false, .int .i64 0] [(0, 3, v13), (3, 1, x6)] fun v14 => optPK (boxA h 6 v14) fun v15 h => optK (some (.fn (.func 80) [v15] [])) fun v16 => optK (some (.fn (.func 81) [v15] [])) fun v17 => optK (some (.fn (.func 82) [v15] [])) fun v18 => optK (some (.fn (.func 83) [v15] [])) fun v19 => optK (some (.fn (.func 84) [v15] [])) fun v20 => optPK (bsliceV h 5 1 [.nilFn] [(0, v16), (1, v17), (2, v18), (3, v19), (4, v20)]) fun v21 h => lenK v21 fun v22 => l46_28 call n n v21 v22 (.int .i64 0) h K
noncomputable def p46_14001 (call : CallFn) (n : Nat) (x1 x22 : AV) (h : AHeap) (K : Kont) : Bool :=
  extK 0 x22 fun v10 => extK 1 x22 fun v11 => neqK v11 (.int .i64 0) fun v12 => condK v12 (K (.tup [(.str []), (.int .i64 10)]) h) (p46_22 call n x1 v10 h K)
noncomputable def p46_12 (call : CallFn) (n : Nat) (x1 : AV) (h : AHeap) (K : Kont) : Bool :=
  fadrK 0 x1 fun v7 => loadK h v7 fun v8 => call (.func 79) [v8] h <| pz K fun v9 h => p46_14001 call n x1 v9 h K
noncomputable def p46_5001 (call : CallFn) (n : Nat) (x1 x14 : AV) (h : AHeap) (K : Kont) : Bool :=
  extK 0 x14 fun v4 => extK 1 x14 fun v5 => eqlK v5 (.int .i64 1) fun v6 => condK v6 (K (.tup [(.str []), (.int .i64 1)]) h) (p46_12 call n x1 h K)
noncomputable def s46 (call : CallFn) (n : Nat) (x0 : AV) (h : AHeap) (K : Kont) : Bool :=
  optPK (boxA h 3 x0) fun v1 h => loadGK h 3 v1 fun v2 => call (.func 78) [v2] h <| pz K fun v3 h => p46_5001 call n v1 v3 h K

/-! ### 48 slices.Clone[[]proctor/api.Rule,proctor/api.Rule] -/
noncomputable def s48 (call : CallFn) (n : Nat) (x0 : AV) (h : AHeap) (K : Kont) : Bool :=
  optK (eqV h false .slc x0 .nilSlc) fun v1 => condK v1 (K .nilSlc h) (optPK (bsliceV h 0 8 [.str [], .int .i64 0, .str [], .str [], .bool false, .bool false, .nilSlc, .nilSlc] []) fun v2 h => optPK (appendA h 8 112 v2 x0) fun v3 h => K v3 h)

/-! ### 49 cmp.Or[string] -/
noncomputable def b49_8 (call : CallFn) (n : Nat) (B8 : F4) (x3 x6 x7 x8 : AV) (h : AHeap) (K : Kont) : Bool :=
  lssK x8 x7 fun v2 => condK v2 (iadrK h 1 x6 x8 fun v3 => loadK h v3 fun v4 => neqK v4 x3 fun v5 => condK v5 (K v4 h) (addK x8 (.int .i64 1) fun v6 => B8 x3 x6 x7 v6 h)) (K x3 h)
noncomputable def l49_8 (call : CallFn) (n : Nat) : Nat → AV → AV → AV → AV → AHeap → Kont → Bool :=
  @Nat.rec (fun _ => AV → AV → AV → AV → AHeap → Kont → Bool) (fun _ _ _ _ _ _ => false) (fun _ ih x3 x6 x7 x8 h K => b49_8 call n (fun x3 x6 x7 x8 h => ih x3 x6 x7 x8 h K) x3 x6 x7 x8 h K)
noncomputable def s49 (call : CallFn) (n : Nat) (x0 : AV) (h : AHeap) (K : Kont) : Bool :=
  lenK x0 fun v1 => l49_8 call n n (.str []) x0 v1 (.int .i64 0) h K

/-! ### 50 slices.ContainsFunc[[]proctor/api.Elem,proctor/api.Elem] -/
noncomputable def p50_4001 (call : CallFn) (n : Nat) (x7 : AV) (h : AHeap) (K : Kont) : Bool :=
  geqK x7 (.int .i64 0) fun v2 => K v2 h
noncomputable def s50 (call : CallFn) (n : Nat) (x0 x1 : AV) (h : AHeap) (K : Kont) : Bool :=
  call (.func 90) [x0, x1] h <| pz K fun v1 h => p50_4001 call n v1 h K

/-! ### 51 proctor/agenda.may$1 -/
noncomputable def s51 (call : CallFn) (n : Nat) (x0 : AV) (h : AHeap) (K : Kont) : Bool :=
  optPK (boxA h 3 x0) fun v1 h => fadrK 2 v1 fun v2 => loadK h v2 fun v3 => call (.func 52) [v3, (.fn (.func 53) [] [])] h <| pz K fun v4 h => K v4 h

/-! ### 52 slices.ContainsFunc[[]proctor/api.Value,proctor/api.Value] -/
noncomputable def p52_4001 (call : CallFn) (n : Nat) (x7 : AV) (h : AHeap) (K : Kont) : Bool :=
  geqK x7 (.int .i64 0) fun v2 => K v2 h
noncomputable def s52 (call : CallFn) (n : Nat) (x0 x1 : AV) (h : AHeap) (K : Kont) : Bool :=
  call (.func 91) [x0, x1] h <| pz K fun v1 h => p52_4001 call n v1 h K

/-! ### 55 proctor/match.key -/
noncomputable def p55_43001 (call : CallFn) (n : Nat) (B10 : F5) (B30 : F8) (x3 x4 x12 x13 x14 x32 x33 x34 x40 : AV) (h : AHeap) (K : Kont) : Bool :=
  extK 0 x40 fun v29 => extK 1 x40 fun v30 => loadK h x3 fun v31 => optPK (appbA h 5 v31 v29) fun v32 h => storeK h x3 v32 fun h => addK x34 (.int .i64 1) fun v34 => B30 x3 x4 x12 x13 x14 x32 x33 v34 h
noncomputable def p55_45 (call : CallFn) (n : Nat) (B10 : F5) (x3 x4 x12 x13 x14 : AV) (h : AHeap) (K : Kont) : Bool :=
  addK x14 (.int .i64 1) fun v35 => B10 x3 x4 x12 x13 v35 h
noncomputable def b55_30 (call : CallFn) (n : Nat) (B10 : F5) (B30 : F8) (x3 x4 x12 x13 x14 x32 x33 x34 : AV) (h : AHeap) (K : Kont) : Bool :=
  lssK x34 x33 fun v22 => condK v22 (iadrK h 5 x32 x34 fun v23 => loadGK h 5 v23 fun v24 => allocK h [.int .i64 0, .bool false, .int .i64 0, .str [], .nilSlc] 5 fun v25 h => storeNK h 5 v25 v24 fun h => loadGK h 5 v25 fun v27 => call (.func 94) [v27] h <| pz K fun v28 h => p55_43001 call n B10 B30 x3 x4 x12 x13 x14 x32 x33 x34 v28 h K) (p55_45 call n B10 x3 x4 x12 x13 x14 h K)
noncomputable def l55_30 (call : CallFn) (n : Nat) (B10 : F5) : Nat → AV → AV → AV → AV → AV → AV → AV → AV → AHeap → Kont → Bool :=
  @Nat.rec (fun _ => AV → AV → AV → AV → AV → AV → AV → AV → AHeap → Kont → Bool) (fun _ _ _ _ _ _ _ _ _ _ => false) (fun _ ih x3 x4 x12 x13 x14 x32 x33 x34 h K => b55_30 call n B10 (fun x3 x4 x12 x13 x14 x32 x33 x34 h => ih x3 x4 x12 x13 x14 x32 x33 x34 h K) x3 x4 x12 x13 x14 x32 x33 x34 h K)
noncomputable def p55_17 (call : CallFn) (n : Nat) (B10 : F5) (x3 x4 x12 x13 x14 : AV) (h : AHeap) (K : Kont) : Bool :=
  iadrK h 3 x12 x14 fun v5 => loadGK h 3 v5 fun v6 => allocK h [.int .i64 0, .int .i64 0, .nilSlc] 3 fun v7 h => storeNK h 3 v7 v6 fun h => fadrK 0 v7 fun v9 => loadK h v9 fun v10 => callV call x4 [v10] h <| pz K fun v11 h => fadrK 1 v7 fun v12 => loadK h v12 fun v13 => callV call x4 [v13] h <| pz K fun v14 h => fadrK 2 v7 fun v15 => loadK h v15 fun v16 => lenK v16 fun v17 => callV call x4 [v17] h <| pz K fun v18 h => fadrK 2 v7 fun v19 => loadK h v19 fun v20 => lenK v20 fun v21 => l55_30 call n B10 n x3 x4 x12 x13 x14 v20 v21 (.int .i64 0) h K
noncomputable def p55_46 (call : CallFn) (n : Nat) (x3 : AV) (h : AHeap) (K : Kont) : Bool :=
  loadK h x3 fun v36 => optK (b2sA h v36) fun v37 => K v37 h
noncomputable def b55_10 (call : CallFn) (n : Nat) (B10 : F5) (x3 x4 x12 x13 x14 : AV) (h : AHeap) (K : Kont) : Bool :=
  lssK x14 x13 fun v4 => condK v4 (p55_17 call n B10 x3 x4 x12 x13 x14 h K) (p55_46 call n x3 h K)
noncomputable def l55_10 (call : CallFn) (n : Nat) : Nat → AV → AV → AV → AV → AV → AHeap → Kont → Bool :=
  @Nat.rec (fun _ => AV → AV → AV → AV → AV → AHeap → Kont → Bool) (fun _ _ _ _ _ _ _ => false) (fun _ ih x3 x4 x12 x13 x14 h K => b55_10 call n (fun x3 x4 x12 x13 x14 h => ih x3 x4 x12 x13 x14 h K) x3 x4 x12 x13 x14 h K)
noncomputable def s55 (call : CallFn) (n : Nat) (x0 : AV) (h : AHeap) (K : Kont) : Bool :=
  allocK h [.nilSlc] 1 fun v1 h => optK (some (.fn (.func 93) [] [v1])) fun v2 => lenK x0 fun v3 => l55_10 call n n v1 v2 x0 v3 (.int .i64 0) h K

/-! ### 57 (*proctor/agenda.Agenda).before -/
set_option maxRecDepth 100000 in
noncomputable def s57 (call : CallFn) (n : Nat) (x0 x1 x2 : AV) (h : AHeap) (K : Kont) : Bool :=
  optPK (boxA h 3 x1) fun v1 h => optPK (boxA h 3 x2) fun v2 h => nilckK x0 fun v3 => fadrK 1 v3 fun v4 => loadK h v4 fun v5 => fadrK 0 v1 fun v6 => loadK h v6 fun v7 => iadrK h 3 v5 v7 fun v8 => loadGK h 3 v8 fun v9 => nilckK x0 fun v10 => fadrK 1 v10 fun v11 => loadK h v11 fun v12 => fadrK 0 v2 fun v13 => loadK h v13 fun v14 => iadrK h 3 v12 v14 fun v15 => loadGK h 3 v15 fun v16 => allocK h [.int .i64 0, .int .i64 0, .nilSlc] 3 fun v17 h => loadK h v4 <| sameK v5 <| loadK h v6 <| sameK v7 <| iadrK h 3 v5 v7 <| sameK v8 <| loadGK h 3 v8 <| sameK v9 <| loadK h v11 <| sameK v12 <| loadK h v13 <| sameK v14 <| iadrK h 3 v12 v14 <| sameK v15 <| loadGK h 3 v15 <| sameK v16 <| allocK h [.int .i64 0, .int .i64 0, .nilSlc] 3 fun v18 h => loadK h v4 <| sameK v5 <| loadK h v6 <| sameK v7 <| iadrK h 3 v5 v7 <| sameK v8 <| loadGK h 3 v8 <| sameK v9 <| loadK h v11 <| sameK v12 <| loadK h v13 <| sameK v14 <| iadrK h 3 v12 v14 <| sameK v15 <| loadGK h 3 v15 <| sameK v16 <| storeNK h 3 v17 v9 fun h => loadK h v11 <| sameK v12 <| loadK h v13 <| sameK v14 <| iadrK h 3 v12 v14 <| sameK v15 <| loadGK h 3 v15 <| sameK v16 <| storeNK h 3 v18 v16 fun h => nilckK x0 fun v21 => fadrK 0 v21 fun v22 => loadK h v22 fun v23 => fadrK 0 v18 fun v24 => loadK h v24 fun v25 => iadrK h 8 v23 v25 fun v26 => fadrK 1 v26 fun v27 => loadK h v27 fun v28 => nilckK x0 fun v29 => fadrK 0 v29 fun v30 => loadK h v30 fun v31 => fadrK 0 v17 fun v32 => loadK h v32 fun v33 => iadrK h 8 v31 v33 fun v34 => fadrK 1 v34 fun v35 => loadK h v35 fun v36 => fadrK 0 v17 fun v37 => loadK h v37 fun v38 => fadrK 0 v18 fun v39 => loadK h v39 fun v40 => fadrK 1 v17 fun v41 => loadK h v41 fun v42 => fadrK 1 v18 fun v43 => loadK h v43 fun v44 => loadGK h 3 v1 fun v45 => loadGK h 3 v2 fun v46 => call (.func 96) [v28, v36] h <| pz K fun v47 h => loadK h v37 <| sameK v38 <| loadK h v39 <| sameK v40 <| loadK h v41 <| sameK v42 <| loadK h v43 <| sameK v44 <| loadGK h 3 v1 <| sameK v45 <| loadGK h 3 v2 <| sameK v46 <| call (.func 96) [v38, v40] h <| pz K fun v48 h => loadK h v41 <| sameK v42 <| loadK h v43 <| sameK v44 <| loadGK h 3 v1 <| sameK v45 <| loadGK h 3 v2 <| sameK v46 <| call (.func 96) [v42, v44] h <| pz K fun v49 h => loadGK h 3 v1 <| sameK v45 <| loadGK h 3 v2 <| sameK v46 <| call (.func 97) [v45, v46] h <| pz K fun v50 h => optPK (bsliceV h 4 1 [.int .i64 0] [(0, v47), (1, v48), (2, v49), (3, v50)]) fun v51 h => loadK h v22 <| sameK v23 <| loadK h v24 <| sameK v25 <| iadrK h 8 v23 v25 <| sameK v26 <| loadK h v27 <| sameK v28 <| loadK h v30 <| sameK v31 <| loadK h v32 <| sameK v33 <| iadrK h 8 v31 v33 <| sameK v34 <| loadK h v35 <| sameK v36 <| loadK h v37 <| sameK v38 <| loadK h v39 <| sameK v40 <| loadK h v41 <| sameK v42 <| loadK h v43 <| sameK v44 <| loadGK h 3 v1 <| sameK v45 <| loadGK h 3 v2 <| sameK v46 <| call (.func 95) [v51] h <| pz (goneQ [v51] K) fun v52 h => lssK v52 (.int .i64 0) fun v53 => K v53 h

/-! ### 58 (*proctor/agenda.heap[proctor/api.Match]).push -/
set_option maxRecDepth 100000 in
noncomputable def b58_7 (call : CallFn) (n : Nat) (B7 : F2) (x0 x4 : AV) (h : AHeap) (K : Kont) : Bool :=
  gtrK x4 (.int .i64 0) fun v16 => gK v16 true (optK (some x0)) fun v17 => gK v16 true (nilckK v17) fun v18 => gK v16 true (fadrK 1 v18) fun v19 => gK v16 true (loadK h v19) fun v20 => gK v16 true (optK (some x0)) fun v21 => gK v16 true (nilckK v21) fun v22 => gK v16 true (fadrK 0 v22) fun v23 => gK v16 true (loadK h v23) fun v24 => gK v16 true (optK (some x4)) fun v25 => gK v16 true (iadrK h 3 v24 v25) fun v26 => gK v16 true (loadGK h 3 v26) fun v27 => gK v16 true (optK (some x0)) fun v28 => gK v16 true (nilckK v28) fun v29 => gK v16 true (fadrK 0 v29) fun v30 => gK v16 true (loadK h v30) fun v31 => gK v16 true (optK (some x4)) fun v32 => gK v16 true (subK v32 (.int .i64 1)) fun v33 => gK v16 true (optK (binA .quo v33 (.int .i64 2))) fun v34 => gK v16 true (iadrK h 3 v31 v34) fun v35 => gK v16 true (loadGK h 3 v35) fun v36 => gP v16 true (fun k => callV call v20 [v27, v36] h (pz K k)) h fun v37 h => pickK v16 v37 (.bool false) fun v38 => condK v38 (nilckK x0 fun v39 => fadrK 0 v39 fun v40 => loadK h v40 fun v41 => nilckK x0 fun v42 => fadrK 0 v42 fun v43 => loadK h v43 fun v44 => subK x4 (.int .i64 1) fun v45 => optK (binA .quo v45 (.int .i64 2)) fun v46 => nilckK x0 fun v47 => fadrK 0 v47 fun v48 => loadK h v48 fun v49 => subK x4 (.int .i64 1) fun v50 => optK (binA .quo v50 (.int .i64 2)) fun v51 => iadrK h 3 v49 v51 fun v52 => loadGK h 3 v52 fun v53 => nilckK x0 fun v54 => fadrK 0 v54 fun v55 => loadK h v55 fun v56 => iadrK h 3 v56 x4 fun v57 => loadGK h 3 v57 fun v58 => iadrK h 3 v41 x4 fun v59 => storeNK h 3 v59 v53 fun h => iadrK h 3 v44 v46 fun v61 => storeNK h 3 v61 v58 fun h => subK x4 (.int .i64 1) fun v63 => optK (binA .quo v63 (.int .i64 2)) fun v64 => B7 x0 v64 h) (K (.tup []) h)
noncomputable def l58_7 (call : CallFn) (n : Nat) : Nat → AV → AV → AHeap → Kont → Bool :=
  @Nat.rec (fun _ => AV → AV → AHeap → Kont → Bool) (fun _ _ _ _ => false) (fun _ ih x0 x4 h K => b58_7 call n (fun x0 x4 h => ih x0 x4 h K) x0 x4 h K)
noncomputable def s58 (call : CallFn) (n : Nat) (x0 x1 : AV) (h : AHeap) (K : Kont) : Bool :=
  optPK (boxA h 3 x1) fun v1 h => nilckK x0 fun v2 => fadrK 0 v2 fun v3 => loadK h v3 fun v4 => loadGK h 3 v1 fun v5 => optPK (bsliceV h 1 3 [.int .i64 0, .nilSlc, .nilSlc] [(0, v5)]) fun v6 h => loadK h v3 <| sameK v4 <| loadGK h 3 v1 <| sameK v5 <| optPK (appendA h 3 56 v4 v6) fun v7 h => nilckK x0 fun v8 => fadrK 0 v8 fun v9 => storeK h v9 v7 fun h => nilckK x0 fun v11 => fadrK 0 v11 fun v12 => loadK h v12 fun v13 => lenK v13 fun v14 => subK v14 (.int .i64 1) fun v15 => l58_7 call n n x0 v15 h K

/-! ### 59 slices.pdqsortOrdered[string] -/
noncomputable def p59_67001 (call : CallFn) (n : Nat) (B5 : F6) (x0 x1 x2 x3 x10 x99 : AV) (h : AHeap) (K : Kont) : Bool :=
  extK 0 x99 fun v38 => extK 1 x99 fun v39 => subK v38 x1 fun v40 => subK x2 v38 fun v41 => optK (binA .quo x10 (.int .i64 8)) fun v42 => lssK v40 v41 fun v43 => condK v43 (geqK v40 v42 fun v44 => call (.func 59) [x0, x1, v38, x3] h <| pz K fun v45 h => addK v38 (.int .i64 1) fun v46 => B5 x0 v46 x2 x3 v44 v39 h) (geqK v41 v42 fun v47 => addK v38 (.int .i64 1) fun v48 => call (.func 59) [x0, v48, x2, x3] h <| pz K fun v49 h => B5 x0 x1 v38 x3 v47 v39 h)
noncomputable def p59_55 (call : CallFn) (n : Nat) (B5 : F6) (x0 x1 x2 x3 x8 x9 x10 x11 : AV) (h : AHeap) (K : Kont) : Bool :=
  gtrK x1 (.int .i64 0) fun v23 => gK v23 true (optK (some x0)) fun v24 => gK v23 true (optK (some x1)) fun v25 => gK v23 true (subK v25 (.int .i64 1)) fun v26 => gK v23 true (iadrK h 1 v24 v26) fun v27 => gK v23 true (loadK h v27) fun v28 => gK v23 true (optK (some x0)) fun v29 => gK v23 true (optK (some x11)) fun v30 => gK v23 true (iadrK h 1 v29 v30) fun v31 => gK v23 true (loadK h v31) fun v32 => gP v23 true (fun k => call (.func 104) [v28, v32] h (pz K k)) h fun v33 h => gK v23 true (notK v33) fun v34 => pickK v23 v34 (.bool false) fun v35 => condK v35 (call (.func 105) [x0, x1, x2, x11] h <| pz K fun v36 h => B5 x0 v36 x2 x3 x8 x9 h) (call (.func 106) [x0, x1, x2, x11] h <| pz K fun v37 h => p59_67001 call n B5 x0 x1 x2 x3 x10 v37 h K)
noncomputable def p59_45 (call : CallFn) (n : Nat) (B5 : F6) (x0 x1 x2 x3 x8 x9 x10 x11 x12 : AV) (h : AHeap) (K : Kont) : Bool :=
  gK x8 true (optK (some x9)) fun v17 => pickK x8 v17 (.bool false) fun v18 => gK v18 true (optK (some x12)) fun v19 => gK v18 true (eqlK v19 (.int .i64 1)) fun v20 => pickK v18 v20 (.bool false) fun v21 => condK v21 (call (.func 103) [x0, x1, x2] h <| pz K fun v22 h => condK v22 (K (.tup []) h) (p59_55 call n B5 x0 x1 x2 x3 x8 x9 x10 x11 h K)) (p59_55 call n B5 x0 x1 x2 x3 x8 x9 x10 x11 h K)
noncomputable def p59_35001 (call : CallFn) (n : Nat) (B5 : F6) (x0 x1 x2 x3 x8 x9 x10 x46 : AV) (h : AHeap) (K : Kont) : Bool :=
  extK 0 x46 fun v10 => extK 1 x46 fun v11 => eqlK v11 (.int .i64 2) fun v12 => condK v12 (call (.func 102) [x0, x1, x2] h <| pz K fun v13 h => subK x2 (.int .i64 1) fun v14 => subK v10 x1 fun v15 => subK v14 v15 fun v16 => p59_45 call n B5 x0 x1 x2 x3 x8 x9 x10 v16 (.int .i64 1) h K) (p59_45 call n B5 x0 x1 x2 x3 x8 x9 x10 v10 v11 h K)
noncomputable def p59_33 (call : CallFn) (n : Nat) (B5 : F6) (x0 x1 x2 x3 x8 x9 x10 : AV) (h : AHeap) (K : Kont) : Bool :=
  call (.func 101) [x0, x1, x2] h <| pz K fun v9 h => p59_35001 call n B5 x0 x1 x2 x3 x8 x9 x10 v9 h K
noncomputable def b59_5 (call : CallFn) (n : Nat) (B5 : F6) (x0 x1 x2 x3 x8 x9 : AV) (h : AHeap) (K : Kont) : Bool :=
  subK x2 x1 fun v1 => leqK v1 (.int .i64 12) fun v2 => condK v2 (call (.func 98) [x0, x1, x2] h <| pz K fun v3 h => K (.tup []) h) (eqlK x3 (.int .i64 0) fun v4 => condK v4 (call (.func 99) [x0, x1, x2] h <| pz K fun v5 h => K (.tup []) h) (notK x8 fun v6 => condK v6 (call (.func 100) [x0, x1, x2] h <| pz K fun v7 h => subK x3 (.int .i64 1) fun v8 => p59_33 call n B5 x0 x1 x2 v8 x8 x9 v1 h K) (p59_33 call n B5 x0 x1 x2 x3 x8 x9 v1 h K)))
noncomputable def l59_5 (call : CallFn) (n : Nat) : Nat → AV → AV → AV → AV → AV → AV → AHeap → Kont → Bool :=
  @Nat.rec (fun _ => AV → AV → AV → AV → AV → AV → AHeap → Kont → Bool) (fun _ _ _ _ _ _ _ _ => false) (fun _ ih x0 x1 x2 x3 x8 x9 h K => b59_5 call n (fun x0 x1 x2 x3 x8 x9 h => ih x0 x1 x2 x3 x8 x9 h K) x0 x1 x2 x3 x8 x9 h K)
noncomputable def s59 (call : CallFn) (n : Nat) (x0 x1 x2 x3 : AV) (h : AHeap) (K : Kont) : Bool :=
  l59_5 call n n x0 x1 x2 x3 (.bool true) (.bool true) h K

/-! ### 60 math/bits.Len -/
noncomputable def s60 (call : CallFn) (n : Nat) (x0 : AV) (h : AHeap) (K : Kont) : Bool :=
  condK (.bool false) (optK (convA .u32 x0) fun v1 => call (.func 107) [v1] h <| pz K fun v2 h => K v2 h) (call (.func 108) [x0] h <| pz K fun v3 h => K v3 h)

/-! ### 63 proctor/parse.operators -/
set_option maxRecDepth 100000 in
noncomputable def s63 (call : CallFn) (n : Nat) (h : AHeap) (K : Kont) : Bool :=
  optPK (mkmapV h) fun v1 h => optPK (mkmapV h) fun v2 h => optPK (unit (mupdA h (.leaf .str) v2 (.str [124, 124]) (.int .i64 9))) fun _ h => optPK (unit (mupdA h (.leaf .int) v1 (.int .i64 0) v2)) fun _ h => optPK (mkmapV h) fun v5 h => optPK (unit (mupdA h (.leaf .str) v5 (.str [38, 38]) (.int .i64 8))) fun _ h => optPK (unit (mupdA h (.leaf .int) v1 (.int .i64 1) v5)) fun _ h => optPK (mkmapV h) fun v8 h => optPK (unit (mupdA h (.leaf .str) v8 (.str [61, 61]) (.int .i64 10))) fun _ h => optPK (unit (mupdA h (.leaf .str) v8 (.str [33, 61]) (.int .i64 11))) fun _ h => optPK (unit (mupdA h (.leaf .str) v8 (.str [60]) (.int .i64 12))) fun _ h => optPK (unit (mupdA h (.leaf .str) v8 (.str [60, 61]) (.int .i64 13))) fun _ h => optPK (unit (mupdA h (.leaf .str) v8 (.str [62]) (.int .i64 14))) fun _ h => optPK (unit (mupdA h (.leaf .str) v8 (.str [62, 61]) (.int .i64 15))) fun _ h => optPK (unit (mupdA h (.leaf .int) v1 (.int .i64 2) v8)) fun _ h => optPK (mkmapV h) fun v16 h => optPK (unit (mupdA h (.leaf .str) v16 (.str [43]) (.int .i64 16))) fun _ h => optPK (unit (mupdA h (.leaf .str) v16 (.str [45]) (.int .i64 17))) fun _ h => optPK (unit (mupdA h (.leaf .int) v1 (.int .i64 3) v16)) fun _ h => optPK (mkmapV h) fun v20 h => optPK (unit (mupdA h (.leaf .str) v20 (.str [42]) (.int .i64 18))) fun _ h => optPK (unit (mupdA h (.leaf .str) v20 (.str [47]) (.int .i64 19))) fun _ h => optPK (unit (mupdA h (.leaf .str) v20 (.str [37]) (.int .i64 20))) fun _ h => optPK (unit (mupdA h (.leaf .int) v1 (.int .i64 4) v20)) fun _ h => K v1 h

/-! ### 64 (*proctor/parse.parser).need -/
noncomputable def p64_4001 (call : CallFn) (n : Nat) (x7 : AV) (h : AHeap) (K : Kont) : Bool :=
  call (.func 110) [x7] h <| pz K fun v3 h => K (.tup []) h
noncomputable def s64 (call : CallFn) (n : Nat) (x0 x1 : AV) (h : AHeap) (K : Kont) : Bool :=
  notK x1 fun v1 => condK v1 (call (.func 111) [x0] h <| pz K fun v2 h => p64_4001 call n v2 h K) (K (.tup []) h)

/-! ### 65 (*proctor/parse.parser).is -/
noncomputable def p65_6001 (call : CallFn) (n : Nat) (x15 x19 x23 x25 : AV) (h : AHeap) (K : Kont) : Bool :=
  gK x19 false (pickK x23 x25 (.bool false)) fun v17 => gK x15 true (pickK x19 (.bool true) v17) fun v18 => pickK x15 v18 (.bool false) fun v19 => K v19 h
noncomputable def p65_4001 (call : CallFn) (n : Nat) (x2 x10 : AV) (h : AHeap) (K : Kont) : Bool :=
  allocK h [.int .i64 0, .str [], .int .i64 0, .int .i64 0] 4 fun v2 h => storeNK h 4 v2 x10 fun h => fadrK 1 v2 fun v4 => loadK h v4 fun v5 => eqlK v5 x2 fun v6 => gK v6 true (fadrK 0 v2) fun v7 => gK v6 true (loadK h v7) fun v8 => gK v6 true (eqlK v8 (.int .i64 4)) fun v9 => gK v6 true (optK (some v9)) fun v10 => gK v10 false (fadrK 0 v2) fun v11 => gK v10 false (loadK h v11) fun v12 => gK v10 false (eqlK v12 (.int .i64 0)) fun v13 => gK v10 false (optK (some v13)) fun v14 => gK v14 true (optK (some x2)) fun v15 => gP v14 true (fun k => call (.func 113) [v15] h (pz K k)) h fun v16 h => p65_6001 call n v6 v10 v14 v16 h K
noncomputable def s65 (call : CallFn) (n : Nat) (x0 x1 x2 : AV) (h : AHeap) (K : Kont) : Bool :=
  call (.func 112) [x0, x1] h <| pz K fun v1 h => p65_4001 call n x2 v1 h K

/-! ### 66 (*proctor/parse.parser).name -/
noncomputable def p66_4002 (call : CallFn) (n : Nat) (x0 x3 x6 x8 : AV) (h : AHeap) (K : Kont) : Bool :=
  gK x6 true (fldK 1 x8) fun v4 => gK x6 true (lenSK v4) fun v5 => gK x6 true (leqK v5 (.int .i64 64)) fun v6 => pickK x6 v6 (.bool false) fun v7 => call (.func 64) [x3, v7] h <| pz K fun v8 h => call (.func 114) [x0] h <| pz K fun v9 h => K v9 h
noncomputable def p66_4001 (call : CallFn) (n : Nat) (x0 x3 x5 : AV) (h : AHeap) (K : Kont) : Bool :=
  gK x5 true (optK (some x0)) fun v2 => gP x5 true (fun k => call (.func 112) [v2, (.int .i64 0)] h (pz K k)) h fun v3 h => p66_4002 call n x0 x3 x5 v3 h K
noncomputable def s66 (call : CallFn) (n : Nat) (x0 : AV) (h : AHeap) (K : Kont) : Bool :=
  call (.func 68) [x0, (.int .i64 0)] h <| pz K fun v1 h => p66_4001 call n x0 x0 v1 h K

/-! ### 67 (*proctor/parse.parser).opens -/
noncomputable def s67 (call : CallFn) (n : Nat) (x0 x1 : AV) (h : AHeap) (K : Kont) : Bool :=
  call (.func 111) [x0] h <| pz K fun v1 h => optPK (bsliceV h 1 1 [.str []] [(0, x1)]) fun v2 h => call (.func 44) [x0, v2] h <| pz K fun v3 h => call (.func 115) [x0, v1] h <| pz K fun v4 h => K (.tup []) h

/-! ### 68 (*proctor/parse.parser).named -/
noncomputable def p68_6001 (call : CallFn) (n : Nat) (x12 x15 : AV) (h : AHeap) (K : Kont) : Bool :=
  gK x12 true (notK x15) fun v10 => pickK x12 v10 (.bool false) fun v11 => K v11 h
noncomputable def p68_4001 (call : CallFn) (n : Nat) (x8 : AV) (h : AHeap) (K : Kont) : Bool :=
  allocK h [.int .i64 0, .str [], .int .i64 0, .int .i64 0] 4 fun v2 h => storeNK h 4 v2 x8 fun h => fadrK 0 v2 fun v4 => loadK h v4 fun v5 => eqlK v5 (.int .i64 0) fun v6 => gK v6 true (fadrK 1 v2) fun v7 => gK v6 true (loadK h v7) fun v8 => gP v6 true (fun k => call (.func 113) [v8] h (pz K k)) h fun v9 h => p68_6001 call n v6 v9 h K
noncomputable def s68 (call : CallFn) (n : Nat) (x0 x1 : AV) (h : AHeap) (K : Kont) : Bool :=
  call (.func 112) [x0, x1] h <| pz K fun v1 h => p68_4001 call n v1 h K

/-! ### 70 (*proctor/parse.parser).closes -/
noncomputable def s70 (call : CallFn) (n : Nat) (x0 x1 : AV) (h : AHeap) (K : Kont) : Bool :=
  optPK (bsliceV h 1 1 [.str []] [(0, x1)]) fun v1 h => call (.func 44) [x0, v1] h <| pz K fun v2 h => nilckK x0 fun v3 => fadrK 3 v3 fun v4 => loadK h v4 fun v5 => subK v5 (.int .i64 1) fun v6 => nilckK x0 fun v7 => fadrK 3 v7 fun v8 => storeK h v8 v6 fun h => K (.tup []) h

/-! ### 71 (*proctor/parse.parser).quoted -/
noncomputable def p71_4001 (call : CallFn) (n : Nat) (x0 x3 x5 : AV) (h : AHeap) (K : Kont) : Bool :=
  call (.func 64) [x3, x5] h <| pz K fun v2 h => call (.func 114) [x0] h <| pz K fun v3 h => K v3 h
noncomputable def s71 (call : CallFn) (n : Nat) (x0 : AV) (h : AHeap) (K : Kont) : Bool :=
  call (.func 116) [x0, (.int .i64 3)] h <| pz K fun v1 h => p71_4001 call n x0 x0 v1 h K

/-! ### 72 (*proctor/parse.parser).salience -/
noncomputable def p72_8002 (call : CallFn) (n : Nat) (x0 x3 x16 : AV) (h : AHeap) (K : Kont) : Bool :=
  extK 0 x16 fun v7 => extK 1 x16 fun v8 => optK (eqV h false .ifn v8 .nilIf) fun v9 => gK v9 true (optK (some v7)) fun v10 => gK v9 true (leqK v10 (.int .i64 2147483648)) fun v11 => pickK v9 v11 (.bool false) fun v12 => call (.func 64) [x0, v12] h <| pz K fun v13 h => nilckK x0 fun v14 => fadrK 1 v14 fun v15 => loadK h v15 fun v16 => addK v16 (.int .i64 1) fun v17 => nilckK x0 fun v18 => fadrK 1 v18 fun v19 => storeK h v19 v17 fun h => condK x3 (optK (negA v7) fun v21 => K v21 h) (K v7 h)
noncomputable def p72_8001 (call : CallFn) (n : Nat) (x0 x3 x14 : AV) (h : AHeap) (K : Kont) : Bool :=
  fldK 1 x14 fun v5 => call (.func 117) [v5, (.int .i64 10), (.int .i64 64)] h <| pz K fun v6 h => p72_8002 call n x0 x3 v6 h K
noncomputable def p72_6001 (call : CallFn) (n : Nat) (x0 x3 x8 x10 : AV) (h : AHeap) (K : Kont) : Bool :=
  call (.func 64) [x8, x10] h <| pz K fun v3 h => call (.func 112) [x0, (.int .i64 0)] h <| pz K fun v4 h => p72_8001 call n x0 x3 v4 h K
noncomputable def s72 (call : CallFn) (n : Nat) (x0 : AV) (h : AHeap) (K : Kont) : Bool :=
  call (.func 41) [x0, (.str [45])] h <| pz K fun v1 h => call (.func 116) [x0, (.int .i64 2)] h <| pz K fun v2 h => p72_6001 call n x0 v1 x0 v2 h K

/-! ### 73 (*proctor/parse.parser).conds -/
noncomputable def p73_31001 (call : CallFn) (n : Nat) (B5 : F3) (x0 x1 x19 x21 : AV) (h : AHeap) (K : Kont) : Bool :=
  optPK (bsliceV h 1 19 [.int .i64 0, .str [], .str [], .nilSlc, .nilSlc, .nilSlc, .nilSlc, .nilSlc, .int .i64 0, .str [], .int .i64 0, .bool false, .int .i64 0, .str [], .nilSlc, .nilSlc, .str [], .str [], .nilSlc] [(0, x21)]) fun v8 h => optPK (appendA h 19 328 x19 v8) fun v9 h => B5 x0 x1 v9 h
noncomputable def p73_30 (call : CallFn) (n : Nat) (B5 : F3) (x0 x1 x5 : AV) (h : AHeap) (K : Kont) : Bool :=
  call (.func 118) [x0] h <| pz K fun v7 h => p73_31001 call n B5 x0 x1 x5 v7 h K
noncomputable def b73_11 (call : CallFn) (n : Nat) (B5 : F3) (B11 : F6) (x0 x1 x5 x8 x9 x10 : AV) (h : AHeap) (K : Kont) : Bool :=
  lssK x10 x9 fun v2 => condK v2 (iadrK h 1 x8 x10 fun v3 => loadK h v3 fun v4 => call (.func 65) [x0, (.int .i64 0), v4] h <| pz K fun v5 h => condK v5 (K x5 h) (addK x10 (.int .i64 1) fun v6 => B11 x0 x1 x5 x8 x9 v6 h)) (p73_30 call n B5 x0 x1 x5 h K)
noncomputable def l73_11 (call : CallFn) (n : Nat) (B5 : F3) : Nat → AV → AV → AV → AV → AV → AV → AHeap → Kont → Bool :=
  @Nat.rec (fun _ => AV → AV → AV → AV → AV → AV → AHeap → Kont → Bool) (fun _ _ _ _ _ _ _ _ => false) (fun _ ih x0 x1 x5 x8 x9 x10 h K => b73_11 call n B5 (fun x0 x1 x5 x8 x9 x10 h => ih x0 x1 x5 x8 x9 x10 h K) x0 x1 x5 x8 x9 x10 h K)
noncomputable def b73_5 (call : CallFn) (n : Nat) (B5 : F3) (x0 x1 x5 : AV) (h : AHeap) (K : Kont) : Bool :=
  lenK x1 fun v1 => l73_11 call n B5 n x0 x1 x5 x1 v1 (.int .i64 0) h K
noncomputable def l73_5 (call : CallFn) (n : Nat) : Nat → AV → AV → AV → AHeap → Kont → Bool :=
  @Nat.rec (fun _ => AV → AV → AV → AHeap → Kont → Bool) (fun _ _ _ _ _ => false) (fun _ ih x0 x1 x5 h K => b73_5 call n (fun x0 x1 x5 h => ih x0 x1 x5 h K) x0 x1 x5 h K)
noncomputable def s73 (call : CallFn) (n : Nat) (x0 x1 : AV) (h : AHeap) (K : Kont) : Bool :=
  l73_5 call n n x0 x1 .nilSlc h K

/-! ### 75 (*proctor/parse.parser).list -/
noncomputable def p75_15 (call : CallFn) (n : Nat) (x0 x1 : AV) (h : AHeap) (K : Kont) : Bool :=
  call (.func 70) [x0, x1] h <| pz K fun v14 h => K (.tup []) h
noncomputable def p75_8002 (call : CallFn) (n : Nat) (B4 : F4) (x0 x1 x2 x14 x17 x19 : AV) (h : AHeap) (K : Kont) : Bool :=
  gK x14 false (pickK x17 x19 (.bool false)) fun v11 => pickK x14 (.bool true) v11 fun v12 => condK v12 (callV call x2 [] h <| pz K fun v13 h => B4 x0 x1 x2 (.bool false) h) (p75_15 call n x0 x1 h K)
noncomputable def p75_8001 (call : CallFn) (n : Nat) (B4 : F4) (x0 x1 x2 x6 x8 x11 : AV) (h : AHeap) (K : Kont) : Bool :=
  gK x8 true (notK x11) fun v4 => pickK x8 v4 (.bool false) fun v5 => gK v5 false (optK (some x6)) fun v6 => gK v5 false (notK v6) fun v7 => gK v5 false (optK (some v7)) fun v8 => gK v8 true (optK (some x0)) fun v9 => gP v8 true (fun k => call (.func 41) [v9, (.str [44])] h (pz K k)) h fun v10 h => p75_8002 call n B4 x0 x1 x2 v5 v8 v10 h K
noncomputable def b75_4 (call : CallFn) (n : Nat) (B4 : F4) (x0 x1 x2 x6 : AV) (h : AHeap) (K : Kont) : Bool :=
  gK x6 true (optK (some x0)) fun v1 => gK x6 true (optK (some x1)) fun v2 => gP x6 true (fun k => call (.func 65) [v1, (.int .i64 0), v2] h (pz K k)) h fun v3 h => p75_8001 call n B4 x0 x1 x2 x6 x6 v3 h K
noncomputable def l75_4 (call : CallFn) (n : Nat) : Nat → AV → AV → AV → AV → AHeap → Kont → Bool :=
  @Nat.rec (fun _ => AV → AV → AV → AV → AHeap → Kont → Bool) (fun _ _ _ _ _ _ => false) (fun _ ih x0 x1 x2 x6 h K => b75_4 call n (fun x0 x1 x2 x6 h => ih x0 x1 x2 x6 h K) x0 x1 x2 x6 h K)
noncomputable def s75 (call : CallFn) (n : Nat) (x0 x1 x2 : AV) (h : AHeap) (K : Kont) : Bool :=
  l75_4 call n n x0 x1 x2 (.bool true) h K

/-! ### 78 proctor/print.Print -/
noncomputable def p78_24001 (call : CallFn) (n : Nat) (x29 : AV) (h : AHeap) (K : Kont) : Bool :=
  extK 0 x29 fun v19 => extK 1 x29 fun v20 => K (.tup [v19, v20]) h
noncomputable def p78_17001 (call : CallFn) (n : Nat) (x4 x22 x25 : AV) (h : AHeap) (K : Kont) : Bool :=
  gK x22 false (notK x25) fun v16 => pickK x22 (.bool true) v16 fun v17 => condK v17 (K (.tup [(.str []), (.int .i64 1)]) h) (call (.func 126) [x4] h <| pz K fun v18 h => p78_24001 call n v18 h K)
noncomputable def p78_15001 (call : CallFn) (n : Nat) (x1 x4 x17 : AV) (h : AHeap) (K : Kont) : Bool :=
  extK 0 x17 fun v8 => extK 1 x17 fun v9 => allocK h [.nilSlc, .nilSlc, .nilSlc] 3 fun v10 h => storeNK h 3 v10 v8 fun h => notK v9 fun v12 => gK v12 false (loadGK h 3 x1) fun v13 => gK v12 false (loadGK h 3 v10) fun v14 => gP v12 false (fun k => call (.func 125) [v13, v14] h (pz K k)) h fun v15 h => p78_17001 call n x4 v12 v15 h K
noncomputable def p78_4001 (call : CallFn) (n : Nat) (x1 x10 : AV) (h : AHeap) (K : Kont) : Bool :=
  extK 0 x10 fun v4 => extK 1 x10 fun v5 => notK v5 fun v6 => condK v6 (K (.tup [(.str []), (.int .i64 1)]) h) (call (.func 124) [v4] h <| pz K fun v7 h => p78_15001 call n x1 v4 v7 h K)
noncomputable def s78 (call : CallFn) (n : Nat) (x0 : AV) (h : AHeap) (K : Kont) : Bool :=
  optPK (boxA h 3 x0) fun v1 h => optK (some (.fn (.func 122) [] [v1])) fun v2 => call (.func 121) [v2] h <| pz K fun v3 h => p78_4001 call n v1 v3 h K

/-! ### 79 proctor/class.New -/
noncomputable def p79_39001 (call : CallFn) (n : Nat) (B16 : F5) (x0 x4 x6 x13 x14 x15 x43 : AV) (h : AHeap) (K : Kont) : Bool :=
  fadrK 2 x6 fun v35 => storeK h v35 x43 fun h => nilckK x4 fun v37 => fadrK 0 v37 fun v38 => loadK h v38 fun v39 => loadGK h 3 x6 fun v40 => optPK (bsliceV h 1 3 [.str [], .str [], .nilSlc] [(0, v40)]) fun v41 h => loadK h v38 <| sameK v39 <| loadGK h 3 x6 <| sameK v40 <| optPK (appendA h 3 56 v39 v41) fun v42 h => nilckK x4 fun v43 => fadrK 0 v43 fun v44 => storeK h v44 v42 fun h => addK x15 (.int .i64 1) fun v46 => B16 x0 x4 x13 x14 v46 h
noncomputable def p79_30001 (call : CallFn) (n : Nat) (B16 : F5) (x0 x4 x6 x13 x14 x15 x23 x27 : AV) (h : AHeap) (K : Kont) : Bool :=
  gK x23 false (notK x27) fun v20 => pickK x23 (.bool true) v20 fun v21 => condK v21 (K (.tup [.nilPtr, (.int .i64 10)]) h) (nilckK x4 fun v22 => fadrK 1 v22 fun v23 => loadK h v23 fun v24 => fadrK 0 x6 fun v25 => loadK h v25 fun v26 => nilckK x4 fun v27 => fadrK 0 v27 fun v28 => loadK h v28 fun v29 => lenK v29 fun v30 => optPK (unit (mupdA h (.leaf .str) v24 v26 v30)) fun _ h => fadrK 2 x6 fun v32 => loadK h v32 fun v33 => call (.func 128) [v33] h <| pz K fun v34 h => p79_39001 call n B16 x0 x4 x6 x13 x14 x15 v34 h K)
noncomputable def b79_16 (call : CallFn) (n : Nat) (B16 : F5) (x0 x4 x13 x14 x15 : AV) (h : AHeap) (K : Kont) : Bool :=
  lssK x15 x14 fun v7 => condK v7 (iadrK h 3 x13 x15 fun v8 => loadGK h 3 v8 fun v9 => allocK h [.str [], .str [], .nilSlc] 3 fun v10 h => storeNK h 3 v10 v9 fun h => fadrK 2 v10 fun v12 => loadK h v12 fun v13 => lenK v13 fun v14 => gtrK v14 (.int .i64 62) fun v15 => gK v15 false (optK (some x4)) fun v16 => gK v15 false (loadGK h 3 v10) fun v17 => gK v15 false (optK (some x0)) fun v18 => gP v15 false (fun k => call (.func 127) [v16, v17, v18] h (pz K k)) h fun v19 h => p79_30001 call n B16 x0 x4 v10 x13 x14 x15 v15 v19 h K) (K (.tup [x4, (.int .i64 0)]) h)
noncomputable def l79_16 (call : CallFn) (n : Nat) : Nat → AV → AV → AV → AV → AV → AHeap → Kont → Bool :=
  @Nat.rec (fun _ => AV → AV → AV → AV → AV → AHeap → Kont → Bool) (fun _ _ _ _ _ _ _ => false) (fun _ ih x0 x4 x13 x14 x15 h K => b79_16 call n (fun x0 x4 x13 x14 x15 h => ih x0 x4 x13 x14 x15 h K) x0 x4 x13 x14 x15 h K)
noncomputable def p79_12 (call : CallFn) (n : Nat) (x0 x4 : AV) (h : AHeap) (K : Kont) : Bool :=
  lenK x0 fun v6 => l79_16 call n n x0 x4 x0 v6 (.int .i64 0) h K
noncomputable def s79 (call : CallFn) (n : Nat) (x0 : AV) (h : AHeap) (K : Kont) : Bool :=
  optPK (mkmapV h) fun v1 h => buildK [.nilSlc, .nilMap] [(1, 1, v1)] fun v2 => optPK (boxA h 2 v2) fun v3 h => lenK x0 fun v4 => gtrK v4 (.int .i64 64) fun v5 => condK v5 (K (.tup [.nilPtr, (.int .i64 10)]) h) (p79_12 call n x0 v3 h K)

/-! ### 80 (*proctor/check.checker).names -/
noncomputable def p80_16 (call : CallFn) (n : Nat) (x0 x8 x9 : AV) (h : AHeap) (K : Kont) : Bool :=
  gK x9 true (optK (some x0)) fun v17 => gK x9 true (nilckK v17) fun v18 => gK x9 true (fadrK 0 v18) fun v19 => gK x9 true (fadrK 1 v19) fun v20 => gK x9 true (loadK h v20) fun v21 => gK x9 true (lenK v21) fun v22 => gK x9 true (optK (some x0)) fun v23 => gK x9 true (nilckK v23) fun v24 => gK x9 true (fadrK 0 v24) fun v25 => gK x9 true (fadrK 2 v25) fun v26 => gK x9 true (loadK h v26) fun v27 => gK x9 true (lenK v27) fun v28 => gK x9 true (addK v22 v28) fun v29 => gK x9 true (gtrK v29 (.int .i64 256)) fun v30 => pickK x9 v30 (.bool false) fun v31 => condK v31 (K (.tup [(.str []), (.bool false)]) h) (K (.tup [x8, x9]) h)
noncomputable def p80_15001 (call : CallFn) (n : Nat) (x0 x23 : AV) (h : AHeap) (K : Kont) : Bool :=
  extK 0 x23 fun v15 => extK 1 x23 fun v16 => p80_16 call n x0 v15 v16 h K
noncomputable def p80_10001 (call : CallFn) (n : Nat) (x0 x7 x16 : AV) (h : AHeap) (K : Kont) : Bool :=
  extK 0 x16 fun v12 => extK 1 x16 fun v13 => condK v13 (call (.func 133) [x0, x7, (.fn (.func 136) [] [])] h <| pz K fun v14 h => p80_15001 call n x0 v14 h K) (p80_16 call n x0 v12 v13 h K)
noncomputable def s80 (call : CallFn) (n : Nat) (x0 : AV) (h : AHeap) (K : Kont) : Bool :=
  optPK (mkmapV h) fun v1 h => optPK (mkmapV h) fun v2 h => allocK h [.nilMap] 1 fun v3 h => allocK h [.nilMap] 1 fun v4 h => storeK h v3 v1 fun h => storeK h v4 v2 fun h => allocK h [.nilFn] 1 fun v7 h => storeK h v7 (.fn (.func 129) [] []) fun h => optK (some (.fn (.func 134) [] [v7, v3])) fun v9 => optK (some (.fn (.func 135) [] [v7, v4])) fun v10 => call (.func 133) [x0, v9, v10] h <| pz K fun v11 h => p80_10001 call n x0 (.fn (.func 132) [] []) v11 h K

/-! ### 81 (*proctor/check.checker).conditions -/
noncomputable def p81_4001 (call : CallFn) (n : Nat) (x7 : AV) (h : AHeap) (K : Kont) : Bool :=
  extK 0 x7 fun v6 => extK 1 x7 fun v7 => K (.tup [v6, v7]) h
noncomputable def s81 (call : CallFn) (n : Nat) (x0 : AV) (h : AHeap) (K : Kont) : Bool :=
  boxK h x0 fun v1 h => loadK h v1 fun v2 => optK (some (.fn (.func 138) [] [v1])) fun v3 => optK (some (.fn (.func 142) [] [v1])) fun v4 => call (.func 133) [v2, v3, v4] h <| pz K fun v5 h => p81_4001 call n v5 h K

/-! ### 82 (*proctor/check.checker).actions -/
noncomputable def p82_4001 (call : CallFn) (n : Nat) (x6 : AV) (h : AHeap) (K : Kont) : Bool :=
  extK 0 x6 fun v5 => extK 1 x6 fun v6 => K (.tup [v5, v6]) h
noncomputable def s82 (call : CallFn) (n : Nat) (x0 : AV) (h : AHeap) (K : Kont) : Bool :=
  boxK h x0 fun v1 h => loadK h v1 fun v2 => optK (some (.fn (.func 145) [] [v1])) fun v3 => call (.func 133) [v2, v3, (.fn (.func 148) [] [])] h <| pz K fun v4 h => p82_4001 call n v4 h K

/-! ### 83 (*proctor/check.checker).queries -/
noncomputable def p83_76 (call : CallFn) (n : Nat) (B33 : F5) (B46 : F8) (B60 : F11) (x1 x4 x5 x6 x9 x11 x50 x51 x52 x56 x57 : AV) (h : AHeap) (K : Kont) : Bool :=
  addK x57 (.int .i64 1) fun v74 => B60 x1 x4 x5 x6 x9 x11 x50 x51 x52 x56 v74 h
noncomputable def p83_77 (call : CallFn) (n : Nat) (B33 : F5) (B46 : F8) (x1 x4 x5 x6 x9 x50 x51 x52 : AV) (h : AHeap) (K : Kont) : Bool :=
  addK x52 (.int .i64 1) fun v75 => B46 x1 x4 x5 x6 x9 x50 x51 v75 h
noncomputable def b83_60 (call : CallFn) (n : Nat) (B33 : F5) (B46 : F8) (B60 : F11) (x1 x4 x5 x6 x9 x11 x50 x51 x52 x56 x57 : AV) (h : AHeap) (K : Kont) : Bool :=
  lssK x57 x56 fun v49 => condK v49 (loadK h x6 fun v50 => fadrK 1 x11 fun v51 => loadK h v51 fun v52 => iadrK h 1 v50 v52 fun v53 => loadK h v53 fun v54 => iadrK h 1 v54 x57 fun v55 => loadK h v55 fun v56 => gK v56 true (loadK h x6) fun v57 => gK v56 true (fadrK 0 x11) fun v58 => gK v56 true (loadK h v58) fun v59 => gK v56 true (iadrK h 1 v57 v59) fun v60 => gK v56 true (loadK h v60) fun v61 => gK v56 true (optK (some x57)) fun v62 => gK v56 true (iadrK h 1 v61 v62) fun v63 => gK v56 true (loadK h v63) fun v64 => gK v56 true (notK v64) fun v65 => pickK v56 v65 (.bool false) fun v66 => condK v66 (loadK h x6 fun v67 => fadrK 0 x11 fun v68 => loadK h v68 fun v69 => iadrK h 1 v67 v69 fun v70 => loadK h v70 fun v71 => iadrK h 1 v71 x57 fun v72 => storeK h v72 (.bool true) fun h => p83_76 call n B33 B46 B60 x1 x4 x5 x6 (.bool true) x11 x50 x51 x52 x56 x57 h K) (p83_76 call n B33 B46 B60 x1 x4 x5 x6 x9 x11 x50 x51 x52 x56 x57 h K)) (p83_77 call n B33 B46 x1 x4 x5 x6 x9 x50 x51 x52 h K)
noncomputable def l83_60 (call : CallFn) (n : Nat) (B33 : F5) (B46 : F8) : Nat → AV → AV → AV → AV → AV → AV → AV → AV → AV → AV → AV → AHeap → Kont → Bool :=
  @Nat.rec (fun _ => AV → AV → AV → AV → AV → AV → AV → AV → AV → AV → AV → AHeap → Kont → Bool) (fun _ _ _ _ _ _ _ _ _ _ _ _ _ => false) (fun _ ih x1 x4 x5 x6 x9 x11 x50 x51 x52 x56 x57 h K => b83_60 call n B33 B46 (fun x1 x4 x5 x6 x9 x11 x50 x51 x52 x56 x57 h => ih x1 x4 x5 x6 x9 x11 x50 x51 x52 x56 x57 h K) x1 x4 x5 x6 x9 x11 x50 x51 x52 x56 x57 h K)
noncomputable def p83_53 (call : CallFn) (n : Nat) (B33 : F5) (B46 : F8) (x1 x4 x5 x6 x9 x50 x51 x52 : AV) (h : AHeap) (K : Kont) : Bool :=
  iadrK h 3 x50 x52 fun v45 => loadGK h 3 v45 fun v46 => allocK h [.int .i64 0, .int .i64 0, .bool false] 3 fun v47 h => storeNK h 3 v47 v46 fun h => l83_60 call n B33 B46 n x1 x4 x5 x6 x9 v47 x50 x51 x52 x5 (.int .i64 0) h K
noncomputable def b83_46 (call : CallFn) (n : Nat) (B33 : F5) (B46 : F8) (x1 x4 x5 x6 x9 x50 x51 x52 : AV) (h : AHeap) (K : Kont) : Bool :=
  lssK x52 x51 fun v44 => condK v44 (p83_53 call n B33 B46 x1 x4 x5 x6 x9 x50 x51 x52 h K) (B33 x1 x4 x5 x6 x9 h)
noncomputable def l83_46 (call : CallFn) (n : Nat) (B33 : F5) : Nat → AV → AV → AV → AV → AV → AV → AV → AV → AHeap → Kont → Bool :=
  @Nat.rec (fun _ => AV → AV → AV → AV → AV → AV → AV → AV → AHeap → Kont → Bool) (fun _ _ _ _ _ _ _ _ _ _ => false) (fun _ ih x1 x4 x5 x6 x9 x50 x51 x52 h K => b83_46 call n B33 (fun x1 x4 x5 x6 x9 x50 x51 x52 h => ih x1 x4 x5 x6 x9 x50 x51 x52 h K) x1 x4 x5 x6 x9 x50 x51 x52 h K)
noncomputable def p83_40 (call : CallFn) (n : Nat) (B33 : F5) (x1 x4 x5 x6 : AV) (h : AHeap) (K : Kont) : Bool :=
  loadK h x4 fun v42 => lenK v42 fun v43 => l83_46 call n B33 n x1 x4 x5 x6 (.bool false) v42 v43 (.int .i64 0) h K
noncomputable def p83_82001 (call : CallFn) (n : Nat) (x90 : AV) (h : AHeap) (K : Kont) : Bool :=
  extK 0 x90 fun v81 => extK 1 x90 fun v82 => K (.tup [v81, v82]) h
noncomputable def p83_78 (call : CallFn) (n : Nat) (x1 x4 x6 : AV) (h : AHeap) (K : Kont) : Bool :=
  allocK h [.int .i64 0] 1 fun v76 h => storeK h v76 (.int .i64 (-1)) fun h => loadK h x1 fun v78 => optK (some (.fn (.func 154) [] [v76, x4, x6])) fun v79 => call (.func 133) [v78, (.fn (.func 153) [] []), v79] h <| pz K fun v80 h => p83_82001 call n v80 h K
noncomputable def b83_33 (call : CallFn) (n : Nat) (B33 : F5) (x1 x4 x5 x6 x9 : AV) (h : AHeap) (K : Kont) : Bool :=
  condK x9 (p83_40 call n B33 x1 x4 x5 x6 h K) (p83_78 call n x1 x4 x6 h K)
noncomputable def l83_33 (call : CallFn) (n : Nat) : Nat → AV → AV → AV → AV → AV → AHeap → Kont → Bool :=
  @Nat.rec (fun _ => AV → AV → AV → AV → AV → AHeap → Kont → Bool) (fun _ _ _ _ _ _ _ => false) (fun _ ih x1 x4 x5 x6 x9 h K => b83_33 call n (fun x1 x4 x5 x6 x9 h => ih x1 x4 x5 x6 x9 h K) x1 x4 x5 x6 x9 h K)
noncomputable def p83_29 (call : CallFn) (n : Nat) (x1 x4 x5 x6 : AV) (h : AHeap) (K : Kont) : Bool :=
  l83_33 call n n x1 x4 x5 x6 (.bool true) h K
noncomputable def b83_12 (call : CallFn) (n : Nat) (B12 : F7) (x1 x4 x5 x6 x26 x27 x28 : AV) (h : AHeap) (K : Kont) : Bool :=
  lssK x28 x27 fun v18 => condK v18 (iadrK h 3 x26 x28 fun v19 => loadGK h 3 v19 fun v20 => allocK h [.int .i64 0] 1 fun v21 h => allocK h [.str [], .nilSlc, .nilSlc] 3 fun v22 h => storeK h v21 x28 fun h => storeNK h 3 v22 v20 fun h => loadK h x6 fun v25 => loadK h v21 fun v26 => optPK (mkslA h 1 1 [.bool false] x5 x5) fun v27 h => loadK h x6 <| sameK v25 <| loadK h v21 <| sameK v26 <| iadrK h 1 v25 v26 fun v28 => storeK h v28 v27 fun h => loadK h x6 fun v30 => loadK h v21 fun v31 => iadrK h 1 v30 v31 fun v32 => loadK h v32 fun v33 => loadK h v21 fun v34 => iadrK h 1 v33 v34 fun v35 => storeK h v35 (.bool true) fun h => fadrK 2 v22 fun v37 => loadK h v37 fun v38 => optK (some (.fn (.func 150) [] [x1, x4, v21])) fun v39 => call (.func 149) [v38, (.bool false), v39] h <| pz K fun v40 h => addK x28 (.int .i64 1) fun v41 => B12 x1 x4 x5 x6 x26 x27 v41 h) (p83_29 call n x1 x4 x5 x6 h K)
noncomputable def l83_12 (call : CallFn) (n : Nat) : Nat → AV → AV → AV → AV → AV → AV → AV → AHeap → Kont → Bool :=
  @Nat.rec (fun _ => AV → AV → AV → AV → AV → AV → AV → AHeap → Kont → Bool) (fun _ _ _ _ _ _ _ _ _ => false) (fun _ ih x1 x4 x5 x6 x26 x27 x28 h K => b83_12 call n (fun x1 x4 x5 x6 x26 x27 x28 h => ih x1 x4 x5 x6 x26 x27 x28 h K) x1 x4 x5 x6 x26 x27 x28 h K)
noncomputable def s83 (call : CallFn) (n : Nat) (x0 : AV) (h : AHeap) (K : Kont) : Bool :=
  boxK h x0 fun v1 h => allocK h [.nilSlc] 1 fun v2 h => loadK h v1 fun v3 => nilckK v3 fun v4 => fadrK 0 v4 fun v5 => fadrK 2 v5 fun v6 => loadK h v6 fun v7 => lenK v7 fun v8 => optPK (mkslA h 1 24 [.nilSlc] v8 v8) fun v9 h => allocK h [.nilSlc] 1 fun v10 h => storeK h v10 v9 fun h => loadK h v1 fun v12 => nilckK v12 fun v13 => fadrK 0 v13 fun v14 => fadrK 2 v14 fun v15 => loadK h v15 fun v16 => lenK v16 fun v17 => l83_12 call n n v1 v2 v8 v10 v16 v17 (.int .i64 0) h K

/-! ### 84 (*proctor/check.checker).sizes -/
noncomputable def p84_6001 (call : CallFn) (n : Nat) (x4 x10 : AV) (h : AHeap) (K : Kont) : Bool :=
  extK 0 x10 fun v5 => extK 1 x10 fun v6 => gK v6 true (loadK h x4) fun v7 => gK v6 true (gtrK v7 (.int .i64 512)) fun v8 => pickK v6 v8 (.bool false) fun v9 => condK v9 (K (.tup [(.str []), (.bool false)]) h) (K (.tup [v5, v6]) h)
noncomputable def s84 (call : CallFn) (n : Nat) (x0 : AV) (h : AHeap) (K : Kont) : Bool :=
  allocK h [.int .i64 0] 1 fun v1 h => storeK h v1 (.int .i64 0) fun h => optK (some (.fn (.func 158) [] [v1])) fun v3 => call (.func 133) [x0, v3, (.fn (.func 162) [] [])] h <| pz K fun v4 h => p84_6001 call n v1 v4 h K

/-! ### 86 proctor/desugar.need -/
noncomputable def s86 (call : CallFn) (n : Nat) (x0 : AV) (h : AHeap) (K : Kont) : Bool :=
  notK x0 fun v1 => condK v1 (buildK [] [] fun v2 => optK (mkifA 161 v2) fun v3 => pncK K v3 h) (K (.tup []) h)

/-! ### 87 proctor/desugar.shallow -/
noncomputable def p87_12001 (call : CallFn) (n : Nat) (x14 : AV) (h : AHeap) (K : Kont) : Bool :=
  notK x14 fun v9 => K v9 h
noncomputable def s87 (call : CallFn) (n : Nat) (x0 x1 : AV) (h : AHeap) (K : Kont) : Bool :=
  boxK h x1 fun v1 h => lenK x0 fun v2 => gtrK v2 (.int .i64 0) fun v3 => gK v3 true (loadK h v1) fun v4 => gK v3 true (gtrK v4 (.int .i64 30)) fun v5 => pickK v3 v5 (.bool false) fun v6 => condK v6 (K (.bool false) h) (optK (some (.fn (.func 164) [] [v1])) fun v7 => call (.func 163) [x0, v7] h <| pz K fun v8 h => p87_12001 call n v8 h K)

/-! ### 88 proctor/desugar.alternatives -/
noncomputable def p88_27 (call : CallFn) (n : Nat) (x3 : AV) (h : AHeap) (K : Kont) : Bool :=
  allocK h [.nilSlc] 1 fun v25 h => allocK h [.nilFn] 1 fun v26 h => optK (some (.fn (.func 168) [] [x3, v26])) fun v27 => storeK h v26 v27 fun h => loadK h v26 fun v29 => optK (some (.fn (.func 170) [] [v25])) fun v30 => callV call v29 [(.int .i64 0), .nilSlc, v30] h <| pz K fun v31 h => loadK h v25 fun v32 => K v32 h
noncomputable def b88_10 (call : CallFn) (n : Nat) (B10 : F5) (x3 x4 x9 x10 x11 : AV) (h : AHeap) (K : Kont) : Bool :=
  lssK x11 x10 fun v3 => condK v3 (iadrK h 19 x9 x11 fun v4 => loadGK h 19 v4 fun v5 => allocK h [.int .i64 0, .str [], .str [], .nilSlc, .nilSlc, .nilSlc, .nilSlc, .nilSlc, .int .i64 0, .str [], .int .i64 0, .bool false, .int .i64 0, .str [], .nilSlc, .nilSlc, .str [], .str [], .nilSlc] 19 fun v6 h => storeNK h 19 v6 v5 fun h => loadK h x3 fun v8 => loadGK h 19 v6 fun v9 => call (.func 167) [v9] h <| pz K fun v10 h => loadK h x3 <| sameK v8 <| optPK (bsliceV h 1 1 [.nilSlc] [(0, v10)]) fun v11 h => loadK h x3 <| sameK v8 <| loadGK h 19 v6 <| sameK v9 <| optPK (appendA h 1 24 v8 v11) fun v12 h => storeK h x3 v12 fun h => loadK h x3 fun v14 => loadK h x3 fun v15 => lenK v15 fun v16 => subK v16 (.int .i64 1) fun v17 => iadrK h 1 v14 v17 fun v18 => loadK h v18 fun v19 => lenK v19 fun v20 => optK (binA .mul x4 v20) fun v21 => leqK v21 (.int .i64 512) fun v22 => call (.func 86) [v22] h <| pz K fun v23 h => addK x11 (.int .i64 1) fun v24 => B10 x3 v21 x9 x10 v24 h) (p88_27 call n x3 h K)
noncomputable def l88_10 (call : CallFn) (n : Nat) : Nat → AV → AV → AV → AV → AV → AHeap → Kont → Bool :=
  @Nat.rec (fun _ => AV → AV → AV → AV → AV → AHeap → Kont → Bool) (fun _ _ _ _ _ _ _ => false) (fun _ ih x3 x4 x9 x10 x11 h K => b88_10 call n (fun x3 x4 x9 x10 x11 h => ih x3 x4 x9 x10 x11 h K) x3 x4 x9 x10 x11 h K)
noncomputable def s88 (call : CallFn) (n : Nat) (x0 : AV) (h : AHeap) (K : Kont) : Bool :=
  allocK h [.nilSlc] 1 fun v1 h => lenK x0 fun v2 => l88_10 call n n v1 (.int .i64 1) x0 v2 (.int .i64 0) h K

/-! ### 89 proctor/desugar.all -/
noncomputable def p89_20001 (call : CallFn) (n : Nat) (B8 : F4) (x6 x7 x8 x12 x14 : AV) (h : AHeap) (K : Kont) : Bool :=
  optPK (bsliceV h 1 19 [.int .i64 0, .str [], .str [], .nilSlc, .nilSlc, .nilSlc, .nilSlc, .nilSlc, .int .i64 0, .str [], .int .i64 0, .bool false, .int .i64 0, .str [], .nilSlc, .nilSlc, .str [], .str [], .nilSlc] [(0, x14)]) fun v9 h => optPK (appendA h 19 328 x12 v9) fun v10 h => addK x8 (.int .i64 1) fun v11 => B8 v10 x6 x7 v11 h
noncomputable def b89_8 (call : CallFn) (n : Nat) (B8 : F4) (x3 x6 x7 x8 : AV) (h : AHeap) (K : Kont) : Bool :=
  lssK x8 x7 fun v2 => condK v2 (iadrK h 19 x6 x8 fun v3 => loadGK h 19 v3 fun v4 => allocK h [.int .i64 0, .str [], .str [], .nilSlc, .nilSlc, .nilSlc, .nilSlc, .nilSlc, .int .i64 0, .str [], .int .i64 0, .bool false, .int .i64 0, .str [], .nilSlc, .nilSlc, .str [], .str [], .nilSlc] 19 fun v5 h => storeNK h 19 v5 v4 fun h => loadGK h 19 v5 fun v7 => call (.func 172) [v7] h <| pz K fun v8 h => p89_20001 call n B8 x6 x7 x8 x3 v8 h K) (K x3 h)
noncomputable def l89_8 (call : CallFn) (n : Nat) : Nat → AV → AV → AV → AV → AHeap → Kont → Bool :=
  @Nat.rec (fun _ => AV → AV → AV → AV → AHeap → Kont → Bool) (fun _ _ _ _ _ _ => false) (fun _ ih x3 x6 x7 x8 h K => b89_8 call n (fun x3 x6 x7 x8 h => ih x3 x6 x7 x8 h K) x3 x6 x7 x8 h K)
noncomputable def s89 (call : CallFn) (n : Nat) (x0 : AV) (h : AHeap) (K : Kont) : Bool :=
  lenK x0 fun v1 => l89_8 call n n .nilSlc x0 v1 (.int .i64 0) h K

/-! ### 90 slices.IndexFunc[[]proctor/api.Elem,proctor/api.Elem] -/
noncomputable def b90_6 (call : CallFn) (n : Nat) (B6 : F4) (x0 x1 x7 x8 : AV) (h : AHeap) (K : Kont) : Bool :=
  lssK x8 x7 fun v2 => condK v2 (iadrK h 3 x0 x8 fun v3 => loadGK h 3 v3 fun v4 => callV call x1 [v4] h <| pz K fun v5 h => condK v5 (K x8 h) (addK x8 (.int .i64 1) fun v6 => B6 x0 x1 x7 v6 h)) (K (.int .i64 (-1)) h)
noncomputable def l90_6 (call : CallFn) (n : Nat) : Nat → AV → AV → AV → AV → AHeap → Kont → Bool :=
  @Nat.rec (fun _ => AV → AV → AV → AV → AHeap → Kont → Bool) (fun _ _ _ _ _ _ => false) (fun _ ih x0 x1 x7 x8 h K => b90_6 call n (fun x0 x1 x7 x8 h => ih x0 x1 x7 x8 h K) x0 x1 x7 x8 h K)
noncomputable def s90 (call : CallFn) (n : Nat) (x0 x1 : AV) (h : AHeap) (K : Kont) : Bool :=
  lenK x0 fun v1 => l90_6 call n n x0 x1 v1 (.int .i64 0) h K

/-! ### 91 slices.IndexFunc[[]proctor/api.Value,proctor/api.Value] -/
noncomputable def b91_6 (call : CallFn) (n : Nat) (B6 : F4) (x0 x1 x7 x8 : AV) (h : AHeap) (K : Kont) : Bool :=
  lssK x8 x7 fun v2 => condK v2 (iadrK h 5 x0 x8 fun v3 => loadGK h 5 v3 fun v4 => callV call x1 [v4] h <| pz K fun v5 h => condK v5 (K x8 h) (addK x8 (.int .i64 1) fun v6 => B6 x0 x1 x7 v6 h)) (K (.int .i64 (-1)) h)
noncomputable def l91_6 (call : CallFn) (n : Nat) : Nat → AV → AV → AV → AV → AHeap → Kont → Bool :=
  @Nat.rec (fun _ => AV → AV → AV → AV → AHeap → Kont → Bool) (fun _ _ _ _ _ _ => false) (fun _ ih x0 x1 x7 x8 h K => b91_6 call n (fun x0 x1 x7 x8 h => ih x0 x1 x7 x8 h K) x0 x1 x7 x8 h K)
noncomputable def s91 (call : CallFn) (n : Nat) (x0 x1 : AV) (h : AHeap) (K : Kont) : Bool :=
  lenK x0 fun v1 => l91_6 call n n x0 x1 v1 (.int .i64 0) h K

/-! ### 93 proctor/match.key$1 -/
noncomputable def b93_3 (call : CallFn) (n : Nat) (B3 : F3) (x0 x1 x3 : AV) (h : AHeap) (K : Kont) : Bool :=
  geqK x3 (.int .i64 0) fun v1 => condK v1 (loadK h x1 fun v2 => optK (binA .mul (.int .i64 8) x3) fun v3 => optK (binA .shr x0 v3) fun v4 => optK (convA .u8 v4) fun v5 => optPK (bsliceV h 1 1 [.int .u8 0] [(0, v5)]) fun v6 h => loadK h x1 <| sameK v2 <| optPK (appbA h 5 v2 v6) fun v7 h => storeK h x1 v7 fun h => subK x3 (.int .i64 1) fun v9 => B3 x0 x1 v9 h) (K (.tup []) h)
noncomputable def l93_3 (call : CallFn) (n : Nat) : Nat → AV → AV → AV → AHeap → Kont → Bool :=
  @Nat.rec (fun _ => AV → AV → AV → AHeap → Kont → Bool) (fun _ _ _ _ _ => false) (fun _ ih x0 x1 x3 h K => b93_3 call n (fun x0 x1 x3 h => ih x0 x1 x3 h K) x0 x1 x3 h K)
noncomputable def s93 (call : CallFn) (n : Nat) (x0 x1 : AV) (h : AHeap) (K : Kont) : Bool :=
  l93_3 call n n x0 x1 (.int .i64 7) h K

/-! ### 95 cmp.Or[int] -/
noncomputable def b95_8 (call : CallFn) (n : Nat) (B8 : F4) (x3 x6 x7 x8 : AV) (h : AHeap) (K : Kont) : Bool :=
  lssK x8 x7 fun v2 => condK v2 (iadrK h 1 x6 x8 fun v3 => loadK h v3 fun v4 => neqK v4 x3 fun v5 => condK v5 (K v4 h) (addK x8 (.int .i64 1) fun v6 => B8 x3 x6 x7 v6 h)) (K x3 h)
noncomputable def l95_8 (call : CallFn) (n : Nat) : Nat → AV → AV → AV → AV → AHeap → Kont → Bool :=
  @Nat.rec (fun _ => AV → AV → AV → AV → AHeap → Kont → Bool) (fun _ _ _ _ _ _ => false) (fun _ ih x3 x6 x7 x8 h K => b95_8 call n (fun x3 x6 x7 x8 h => ih x3 x6 x7 x8 h K) x3 x6 x7 x8 h K)
noncomputable def s95 (call : CallFn) (n : Nat) (x0 : AV) (h : AHeap) (K : Kont) : Bool :=
  lenK x0 fun v1 => l95_8 call n n (.int .i64 0) x0 v1 (.int .i64 0) h K

/-! ### 96 cmp.Compare[int] -/
noncomputable def s96 (call : CallFn) (n : Nat) (x0 x1 : AV) (h : AHeap) (K : Kont) : Bool :=
  call (.func 174) [x0] h <| pz K fun v1 h => call (.func 174) [x1] h <| pz K fun v2 h => condK v1 (condK v2 (K (.int .i64 0) h) (K (.int .i64 (-1)) h)) (condK v2 (K (.int .i64 1) h) (lssK x0 x1 fun v3 => condK v3 (K (.int .i64 (-1)) h) (gtrK x0 x1 fun v4 => condK v4 (K (.int .i64 1) h) (K (.int .i64 0) h))))

/-! ### 97 proctor/match.Order -/
noncomputable def s97 (call : CallFn) (n : Nat) (x0 x1 : AV) (h : AHeap) (K : Kont) : Bool :=
  optPK (boxA h 3 x0) fun v1 h => optPK (boxA h 3 x1) fun v2 h => fadrK 0 v1 fun v3 => loadK h v3 fun v4 => fadrK 0 v2 fun v5 => loadK h v5 fun v6 => call (.func 96) [v4, v6] h <| pz K fun v7 h => neqK v7 (.int .i64 0) fun v8 => condK v8 (K v7 h) (fadrK 1 v1 fun v9 => loadK h v9 fun v10 => fadrK 1 v2 fun v11 => loadK h v11 fun v12 => call (.func 175) [v10, v12, (.fn (.func 176) [] [])] h <| pz K fun v13 h => K v13 h)

/-! ### 98 slices.insertionSortOrdered[string] -/
noncomputable def p98_26 (call : CallFn) (n : Nat) (B3 : F4) (x0 x1 x2 x6 : AV) (h : AHeap) (K : Kont) : Bool :=
  addK x6 (.int .i64 1) fun v26 => B3 x0 x1 x2 v26 h
noncomputable def b98_15 (call : CallFn) (n : Nat) (B3 : F4) (B15 : F5) (x0 x1 x2 x6 x7 : AV) (h : AHeap) (K : Kont) : Bool :=
  gtrK x7 x1 fun v3 => gK v3 true (optK (some x0)) fun v4 => gK v3 true (optK (some x7)) fun v5 => gK v3 true (iadrK h 1 v4 v5) fun v6 => gK v3 true (loadK h v6) fun v7 => gK v3 true (optK (some x0)) fun v8 => gK v3 true (optK (some x7)) fun v9 => gK v3 true (subK v9 (.int .i64 1)) fun v10 => gK v3 true (iadrK h 1 v8 v10) fun v11 => gK v3 true (loadK h v11) fun v12 => gP v3 true (fun k => call (.func 104) [v7, v12] h (pz K k)) h fun v13 h => pickK v3 v13 (.bool false) fun v14 => condK v14 (subK x7 (.int .i64 1) fun v15 => subK x7 (.int .i64 1) fun v16 => iadrK h 1 x0 v16 fun v17 => loadK h v17 fun v18 => iadrK h 1 x0 x7 fun v19 => loadK h v19 fun v20 => iadrK h 1 x0 x7 fun v21 => storeK h v21 v18 fun h => iadrK h 1 x0 v15 fun v23 => storeK h v23 v20 fun h => subK x7 (.int .i64 1) fun v25 => B15 x0 x1 x2 x6 v25 h) (p98_26 call n B3 x0 x1 x2 x6 h K)
noncomputable def l98_15 (call : CallFn) (n : Nat) (B3 : F4) : Nat → AV → AV → AV → AV → AV → AHeap → Kont → Bool :=
  @Nat.rec (fun _ => AV → AV → AV → AV → AV → AHeap → Kont → Bool) (fun _ _ _ _ _ _ _ => false) (fun _ ih x0 x1 x2 x6 x7 h K => b98_15 call n B3 (fun x0 x1 x2 x6 x7 h => ih x0 x1 x2 x6 x7 h K) x0 x1 x2 x6 x7 h K)
noncomputable def p98_10 (call : CallFn) (n : Nat) (B3 : F4) (x0 x1 x2 x6 : AV) (h : AHeap) (K : Kont) : Bool :=
  l98_15 call n B3 n x0 x1 x2 x6 x6 h K
noncomputable def b98_3 (call : CallFn) (n : Nat) (B3 : F4) (x0 x1 x2 x6 : AV) (h : AHeap) (K : Kont) : Bool :=
  lssK x6 x2 fun v2 => condK v2 (p98_10 call n B3 x0 x1 x2 x6 h K) (K (.tup []) h)
noncomputable def l98_3 (call : CallFn) (n : Nat) : Nat → AV → AV → AV → AV → AHeap → Kont → Bool :=
  @Nat.rec (fun _ => AV → AV → AV → AV → AHeap → Kont → Bool) (fun _ _ _ _ _ _ => false) (fun _ ih x0 x1 x2 x6 h K => b98_3 call n (fun x0 x1 x2 x6 h => ih x0 x1 x2 x6 h K) x0 x1 x2 x6 h K)
noncomputable def s98 (call : CallFn) (n : Nat) (x0 x1 x2 : AV) (h : AHeap) (K : Kont) : Bool :=
  addK x1 (.int .i64 1) fun v1 => l98_3 call n n x0 x1 x2 v1 h K

/-! ### 108 math/bits.Len64 -/
noncomputable def p108_26 (call : CallFn) (n : Nat) (x0 x2 : AV) (h : AHeap) (K : Kont) : Bool :=
  optK (convA .u8 x0) fun v9 => idxsK (.str [0, 1, 2, 2, 3, 3, 3, 3, 4, 4, 4, 4, 4, 4, 4, 4, 5, 5, 5, 5, 5, 5, 5, 5, 5, 5, 5, 5, 5, 5, 5, 5, 6, 6, 6, 6, 6, 6, 6, 6, 6, 6, 6, 6, 6, 6, 6, 6, 6, 6, 6, 6, 6, 6, 6, 6, 6, 6, 6, 6, 6, 6, 6, 6, 7, 7, 7, 7, 7, 7, 7, 7, 7, 7, 7, 7, 7, 7, 7, 7, 7, 7, 7, 7, 7, 7, 7, 7, 7, 7, 7, 7, 7, 7, 7, 7, 7, 7, 7, 7, 7, 7, 7, 7, 7, 7, 7, 7, 7, 7, 7, 7, 7, 7, 7, 7, 7, 7, 7, 7, 7, 7, 7, 7, 7, 7, 7, 7, 8, 8, 8, 8, 8, 8, 8, 8, 8, 8, 8, 8, 8, 8, 8, 8, 8, 8, 8, 8, 8, 8, 8, 8, 8, 8, 8, 8, 8, 8, 8, 8, 8, 8, 8, 8, 8, 8, 8, 8, 8, 8, 8, 8, 8, 8, 8, 8, 8, 8, 8, 8, 8, 8, 8, 8, 8, 8, 8, 8, 8, 8, 8, 8, 8, 8, 8, 8, 8, 8, 8, 8, 8, 8, 8, 8, 8, 8, 8, 8, 8, 8, 8, 8, 8, 8, 8, 8, 8, 8, 8, 8, 8, 8, 8, 8, 8, 8, 8, 8, 8, 8, 8, 8, 8, 8, 8, 8, 8, 8, 8, 8, 8, 8, 8, 8, 8, 8, 8, 8, 8, 8, 8, 8, 8, 8, 8, 8]) v9 fun v10 => optK (convA .i64 v10) fun v11 => addK x2 v11 fun v12 => K v12 h
noncomputable def p108_18 (call : CallFn) (n : Nat) (x0 x2 : AV) (h : AHeap) (K : Kont) : Bool :=
  geqK x0 (.int .u64 256) fun v6 => condK v6 (optK (binA .shr x0 (.int .u64 8)) fun v7 => addK x2 (.int .i64 8) fun v8 => p108_26 call n v7 v8 h K) (p108_26 call n x0 x2 h K)
noncomputable def p108_10 (call : CallFn) (n : Nat) (x0 x2 : AV) (h : AHeap) (K : Kont) : Bool :=
  geqK x0 (.int .u64 65536) fun v3 => condK v3 (optK (binA .shr x0 (.int .u64 16)) fun v4 => addK x2 (.int .i64 16) fun v5 => p108_18 call n v4 v5 h K) (p108_18 call n x0 x2 h K)
noncomputable def s108 (call : CallFn) (n : Nat) (x0 : AV) (h : AHeap) (K : Kont) : Bool :=
  geqK x0 (.int .u64 4294967296) fun v1 => condK v1 (optK (binA .shr x0 (.int .u64 32)) fun v2 => p108_10 call n v2 (.int .i64 32) h K) (p108_10 call n x0 (.int .i64 0) h K)

/-! ### 109 (*proctor/lex.lexer).all -/
noncomputable def s109 (call : CallFn) (n : Nat) (x0 : AV) (h : AHeap) (K : Kont) : Bool :=
  boxK h x0 fun v1 h => optK (some (.fn (.func 184) [] [v1])) fun v2 => K v2 h

/-! ### 111 (*proctor/parse.parser).place -/
noncomputable def s111 (call : CallFn) (n : Nat) (x0 : AV) (h : AHeap) (K : Kont) : Bool :=
  nilckK x0 fun v1 => fadrK 1 v1 fun v2 => loadK h v2 fun v3 => nilckK x0 fun v4 => fadrK 0 v4 fun v5 => loadK h v5 fun v6 => lenK v6 fun v7 => lssK v3 v7 fun v8 => condK v8 (nilckK x0 fun v9 => fadrK 0 v9 fun v10 => loadK h v10 fun v11 => nilckK x0 fun v12 => fadrK 1 v12 fun v13 => loadK h v13 fun v14 => iadrK h 4 v11 v14 fun v15 => fadrK 2 v15 fun v16 => loadK h v16 fun v17 => K v17 h) (nilckK x0 fun v18 => fadrK 2 v18 fun v19 => loadK h v19 fun v20 => K v20 h)

/-! ### 112 (*proctor/parse.parser).ahead -/
noncomputable def s112 (call : CallFn) (n : Nat) (x0 x1 : AV) (h : AHeap) (K : Kont) : Bool :=
  allocK h [.int .i64 0, .str [], .int .i64 0, .int .i64 0] 4 fun v1 h => nilckK x0 fun v2 => fadrK 1 v2 fun v3 => loadK h v3 fun v4 => addK v4 x1 fun v5 => nilckK x0 fun v6 => fadrK 0 v6 fun v7 => loadK h v7 fun v8 => lenK v8 fun v9 => lssK v5 v9 fun v10 => condK v10 (nilckK x0 fun v11 => fadrK 0 v11 fun v12 => loadK h v12 fun v13 => nilckK x0 fun v14 => fadrK 1 v14 fun v15 => loadK h v15 fun v16 => addK v16 x1 fun v17 => iadrK h 4 v13 v17 fun v18 => loadGK h 4 v18 fun v19 => storeNK h 4 v1 v19 fun h => optR (resV h [(v1, some (true, 4))]) h K) (buildK [.int .i64 0, .str [], .int .i64 0, .int .i64 0] [(0, 1, (.int .i64 (-1)))] fun v21 => storeNK h 4 v1 v21 fun h => optR (resV h [(v1, some (true, 4))]) h K)

/-! ### 113 proctor/lex.Key -/
noncomputable def p113_156 (call : CallFn) (n : Nat) (x4 : AV) (h : AHeap) (K : Kont) : Bool :=
  condK x4 (K (.bool true) h) (K (.bool false) h)
set_option maxRecDepth 100000 in
noncomputable def s113 (call : CallFn) (n : Nat) (x0 : AV) (h : AHeap) (K : Kont) : Bool :=
  eqlK x0 (.str [99, 108, 97, 115, 115]) fun v1 => condK v1 (p113_156 call n v1 h K) (eqlK x0 (.str [101, 120, 116, 101, 110, 100, 115]) fun v2 => condK v2 (p113_156 call n v2 h K) (eqlK x0 (.str [114, 117, 108, 101]) fun v3 => condK v3 (p113_156 call n v3 h K) (eqlK x0 (.str [113, 117, 101, 114, 121]) fun v4 => condK v4 (p113_156 call n v4 h K) (eqlK x0 (.str [119, 104, 101, 110]) fun v5 => condK v5 (p113_156 call n v5 h K) (eqlK x0 (.str [116, 104, 101, 110]) fun v6 => condK v6 (p113_156 call n v6 h K) (eqlK x0 (.str [101, 110, 100]) fun v7 => condK v7 (p113_156 call n v7 h K) (eqlK x0 (.str [115, 97, 108, 105, 101, 110, 99, 101]) fun v8 => condK v8 (p113_156 call n v8 h K) (eqlK x0 (.str [103, 114, 111, 117, 112]) fun v9 => condK v9 (p113_156 call n v9 h K) (eqlK x0 (.str [102, 108, 111, 119]) fun v10 => condK v10 (p113_156 call n v10 h K) (eqlK x0 (.str [110, 111, 108, 111, 111, 112]) fun v11 => condK v11 (p113_156 call n v11 h K) (eqlK x0 (.str [108, 111, 99, 107]) fun v12 => condK v12 (p113_156 call n v12 h K) (eqlK x0 (.str [110, 111, 116]) fun v13 => condK v13 (p113_156 call n v13 h K) (eqlK x0 (.str [101, 120, 105, 115, 116, 115]) fun v14 => condK v14 (p113_156 call n v14 h K) (eqlK x0 (.str [102, 111, 114, 97, 108, 108]) fun v15 => condK v15 (p113_156 call n v15 h K) (eqlK x0 (.str [111, 114]) fun v16 => condK v16 (p113_156 call n v16 h K) (eqlK x0 (.str [102, 114, 111, 109]) fun v17 => condK v17 (p113_156 call n v17 h K) (eqlK x0 (.str [101, 118, 97, 108]) fun v18 => condK v18 (p113_156 call n v18 h K) (eqlK x0 (.str [97, 99, 99]) fun v19 => condK v19 (p113_156 call n v19 h K) (eqlK x0 (.str [111, 118, 101, 114]) fun v20 => condK v20 (p113_156 call n v20 h K) (eqlK x0 (.str [105, 110, 115, 101, 114, 116]) fun v21 => condK v21 (p113_156 call n v21 h K) (eqlK x0 (.str [108, 111, 103, 105, 99, 97, 108]) fun v22 => condK v22 (p113_156 call n v22 h K) (eqlK x0 (.str [117, 112, 100, 97, 116, 101]) fun v23 => condK v23 (p113_156 call n v23 h K) (eqlK x0 (.str [100, 101, 108, 101, 116, 101]) fun v24 => condK v24 (p113_156 call n v24 h K) (eqlK x0 (.str [102, 111, 99, 117, 115]) fun v25 => condK v25 (p113_156 call n v25 h K) (eqlK x0 (.str [112, 114, 105, 110, 116]) fun v26 => condK v26 (p113_156 call n v26 h K) (eqlK x0 (.str [104, 97, 108, 116]) fun v27 => condK v27 (p113_156 call n v27 h K) (eqlK x0 (.str [116, 114, 117, 101]) fun v28 => condK v28 (p113_156 call n v28 h K) (eqlK x0 (.str [102, 97, 108, 115, 101]) fun v29 => condK v29 (p113_156 call n v29 h K) (eqlK x0 (.str [110, 117, 108, 108]) fun v30 => condK v30 (p113_156 call n v30 h K) (eqlK x0 (.str [115, 105, 122, 101]) fun v31 => condK v31 (p113_156 call n v31 h K) (eqlK x0 (.str [104, 97, 115]) fun v32 => condK v32 (p113_156 call n v32 h K) (eqlK x0 (.str [105, 110, 116]) fun v33 => condK v33 (p113_156 call n v33 h K) (eqlK x0 (.str [98, 111, 111, 108]) fun v34 => condK v34 (p113_156 call n v34 h K) (eqlK x0 (.str [116, 101, 120, 116]) fun v35 => condK v35 (p113_156 call n v35 h K) (eqlK x0 (.str [108, 105, 115, 116]) fun v36 => condK v36 (p113_156 call n v36 h K) (eqlK x0 (.str [97, 110, 121]) fun v37 => condK v37 (p113_156 call n v37 h K) (eqlK x0 (.str [114, 101, 102]) fun v38 => p113_156 call n v38 h K)))))))))))))))))))))))))))))))))))))

/-! ### 114 (*proctor/parse.parser).text -/
noncomputable def s114 (call : CallFn) (n : Nat) (x0 : AV) (h : AHeap) (K : Kont) : Bool :=
  nilckK x0 fun v1 => fadrK 1 v1 fun v2 => loadK h v2 fun v3 => addK v3 (.int .i64 1) fun v4 => nilckK x0 fun v5 => fadrK 1 v5 fun v6 => storeK h v6 v4 fun h => nilckK x0 fun v8 => fadrK 0 v8 fun v9 => loadK h v9 fun v10 => nilckK x0 fun v11 => fadrK 1 v11 fun v12 => loadK h v12 fun v13 => subK v13 (.int .i64 1) fun v14 => iadrK h 4 v10 v14 fun v15 => fadrK 1 v15 fun v16 => loadK h v16 fun v17 => K v17 h

/-! ### 115 (*proctor/parse.parser).enter -/
noncomputable def s115 (call : CallFn) (n : Nat) (x0 x1 : AV) (h : AHeap) (K : Kont) : Bool :=
  nilckK x0 fun v1 => fadrK 3 v1 fun v2 => loadK h v2 fun v3 => addK v3 (.int .i64 1) fun v4 => nilckK x0 fun v5 => fadrK 3 v5 fun v6 => storeK h v6 v4 fun h => nilckK x0 fun v8 => fadrK 3 v8 fun v9 => loadK h v9 fun v10 => gtrK v10 (.int .i64 30) fun v11 => condK v11 (call (.func 110) [x1] h <| pz K fun v12 h => K (.tup []) h) (K (.tup []) h)

/-! ### 116 (*proctor/parse.parser).kind -/
noncomputable def p116_4001 (call : CallFn) (n : Nat) (x1 x6 : AV) (h : AHeap) (K : Kont) : Bool :=
  fldK 0 x6 fun v2 => eqlK v2 x1 fun v3 => K v3 h
noncomputable def s116 (call : CallFn) (n : Nat) (x0 x1 : AV) (h : AHeap) (K : Kont) : Bool :=
  call (.func 112) [x0, (.int .i64 0)] h <| pz K fun v1 h => p116_4001 call n x1 v1 h K

/-! ### 118 (*proctor/parse.parser).cond -/
noncomputable def p118_9001 (call : CallFn) (n : Nat) (x2 x10 : AV) (h : AHeap) (K : Kont) : Bool :=
  buildK [.int .i64 0, .str [], .str [], .nilSlc, .nilSlc, .nilSlc, .nilSlc, .nilSlc, .int .i64 0, .str [], .int .i64 0, .bool false, .int .i64 0, .str [], .nilSlc, .nilSlc, .str [], .str [], .nilSlc] [(0, 1, (.int .i64 2)), (5, 1, x10)] fun v4 => storeNK h 19 x2 v4 fun h => optR (resV h [(x2, some (true, 19))]) h K
noncomputable def p118_15001 (call : CallFn) (n : Nat) (x2 x16 : AV) (h : AHeap) (K : Kont) : Bool :=
  buildK [.int .i64 0, .str [], .str [], .nilSlc, .nilSlc, .nilSlc, .nilSlc, .nilSlc, .int .i64 0, .str [], .int .i64 0, .bool false, .int .i64 0, .str [], .nilSlc, .nilSlc, .str [], .str [], .nilSlc] [(0, 1, (.int .i64 3)), (5, 1, x16)] fun v8 => storeNK h 19 x2 v8 fun h => optR (resV h [(x2, some (true, 19))]) h K
noncomputable def p118_27001 (call : CallFn) (n : Nat) (x0 x2 x3 x32 : AV) (h : AHeap) (K : Kont) : Bool :=
  fadrK 6 x3 fun v21 => storeK h v21 x32 fun h => call (.func 70) [x0, (.str [41])] h <| pz K fun v23 h => loadGK h 19 x3 fun v24 => storeNK h 19 x2 v24 fun h => optR (resV h [(x2, some (true, 19))]) h K
noncomputable def p118_23001 (call : CallFn) (n : Nat) (x0 x2 x25 : AV) (h : AHeap) (K : Kont) : Bool :=
  buildK [.int .i64 0, .str [], .str [], .nilSlc, .nilSlc, .nilSlc, .nilSlc, .nilSlc, .int .i64 0, .str [], .int .i64 0, .bool false, .int .i64 0, .str [], .nilSlc, .nilSlc, .str [], .str [], .nilSlc] [(0, 1, (.int .i64 4)), (5, 1, x25)] fun v14 => allocK h [.int .i64 0, .str [], .str [], .nilSlc, .nilSlc, .nilSlc, .nilSlc, .nilSlc, .int .i64 0, .str [], .int .i64 0, .bool false, .int .i64 0, .str [], .nilSlc, .nilSlc, .str [], .str [], .nilSlc] 19 fun v15 h => storeNK h 19 v15 v14 fun h => optPK (bsliceV h 1 1 [.str []] [(0, (.str [59]))]) fun v17 h => call (.func 44) [x0, v17] h <| pz K fun v18 h => optPK (bsliceV h 1 1 [.str []] [(0, (.str [41]))]) fun v19 h => call (.func 190) [x0, v19] h <| pz K fun v20 h => p118_27001 call n x0 x2 v15 v20 h K
noncomputable def p118_37001 (call : CallFn) (n : Nat) (x2 x41 : AV) (h : AHeap) (K : Kont) : Bool :=
  storeNK h 19 x2 x41 fun h => optR (resV h [(x2, some (true, 19))]) h K
noncomputable def p118_45001 (call : CallFn) (n : Nat) (x0 x2 x48 : AV) (h : AHeap) (K : Kont) : Bool :=
  buildK [.int .i64 0, .str [], .str [], .nilSlc, .nilSlc, .nilSlc, .nilSlc, .nilSlc, .int .i64 0, .str [], .int .i64 0, .bool false, .int .i64 0, .str [], .nilSlc, .nilSlc, .str [], .str [], .nilSlc] [(0, 1, (.int .i64 8)), (8, 8, x48)] fun v32 => allocK h [.int .i64 0, .str [], .str [], .nilSlc, .nilSlc, .nilSlc, .nilSlc, .nilSlc, .int .i64 0, .str [], .int .i64 0, .bool false, .int .i64 0, .str [], .nilSlc, .nilSlc, .str [], .str [], .nilSlc] 19 fun v33 h => storeNK h 19 v33 v32 fun h => call (.func 70) [x0, (.str [41])] h <| pz K fun v35 h => loadGK h 19 v33 fun v36 => storeNK h 19 x2 v36 fun h => optR (resV h [(x2, some (true, 19))]) h K
noncomputable def p118_55001 (call : CallFn) (n : Nat) (x2 x57 : AV) (h : AHeap) (K : Kont) : Bool :=
  storeNK h 19 x2 x57 fun h => optR (resV h [(x2, some (true, 19))]) h K
noncomputable def p118_61001 (call : CallFn) (n : Nat) (x2 x62 : AV) (h : AHeap) (K : Kont) : Bool :=
  storeNK h 19 x2 x62 fun h => optR (resV h [(x2, some (true, 19))]) h K
noncomputable def p118_71001 (call : CallFn) (n : Nat) (x2 x5 x78 : AV) (h : AHeap) (K : Kont) : Bool :=
  fadrK 8 x5 fun v56 => storeNK h 8 v56 x78 fun h => loadGK h 19 x5 fun v58 => storeNK h 19 x2 v58 fun h => optR (resV h [(x2, some (true, 19))]) h K
noncomputable def p118_67001 (call : CallFn) (n : Nat) (x0 x2 x72 : AV) (h : AHeap) (K : Kont) : Bool :=
  buildK [.int .i64 0, .str [], .str [], .nilSlc, .nilSlc, .nilSlc, .nilSlc, .nilSlc, .int .i64 0, .str [], .int .i64 0, .bool false, .int .i64 0, .str [], .nilSlc, .nilSlc, .str [], .str [], .nilSlc] [(0, 1, (.int .i64 6)), (1, 1, x72)] fun v50 => allocK h [.int .i64 0, .str [], .str [], .nilSlc, .nilSlc, .nilSlc, .nilSlc, .nilSlc, .int .i64 0, .str [], .int .i64 0, .bool false, .int .i64 0, .str [], .nilSlc, .nilSlc, .str [], .str [], .nilSlc] 19 fun v51 h => storeNK h 19 v51 v50 fun h => optPK (bsliceV h 1 1 [.str []] [(0, (.str [102, 114, 111, 109]))]) fun v53 h => call (.func 44) [x0, v53] h <| pz K fun v54 h => call (.func 120) [x0] h <| pz K fun v55 h => p118_71001 call n x2 v51 v55 h K
noncomputable def p118_77001 (call : CallFn) (n : Nat) (x2 x82 : AV) (h : AHeap) (K : Kont) : Bool :=
  storeNK h 19 x2 x82 fun h => optR (resV h [(x2, some (true, 19))]) h K
noncomputable def p118_64002 (call : CallFn) (n : Nat) (x0 x2 x66 x68 : AV) (h : AHeap) (K : Kont) : Bool :=
  gK x66 true (notK x68) fun v47 => pickK x66 v47 (.bool false) fun v48 => condK v48 (call (.func 77) [x0] h <| pz K fun v49 h => p118_67001 call n x0 x2 v49 h K) (call (.func 194) [x0] h <| pz K fun v60 h => p118_77001 call n x2 v60 h K)
noncomputable def p118_64001 (call : CallFn) (n : Nat) (x0 x2 x65 : AV) (h : AHeap) (K : Kont) : Bool :=
  gK x65 true (optK (some x0)) fun v45 => gP x65 true (fun k => call (.func 65) [v45, (.int .i64 1), (.str [58])] h (pz K k)) h fun v46 h => p118_64002 call n x0 x2 x65 v46 h K
set_option maxRecDepth 100000 in
noncomputable def s118 (call : CallFn) (n : Nat) (x0 : AV) (h : AHeap) (K : Kont) : Bool :=
  allocK h [.int .i64 0, .str [], .str [], .nilSlc, .nilSlc, .nilSlc, .nilSlc, .nilSlc, .int .i64 0, .str [], .int .i64 0, .bool false, .int .i64 0, .str [], .nilSlc, .nilSlc, .str [], .str [], .nilSlc] 19 fun v1 h => call (.func 41) [x0, (.str [110, 111, 116])] h <| pz K fun v2 h => condK v2 (call (.func 189) [x0] h <| pz K fun v3 h => p118_9001 call n v1 v3 h K) (call (.func 41) [x0, (.str [101, 120, 105, 115, 116, 115])] h <| pz K fun v6 h => condK v6 (call (.func 189) [x0] h <| pz K fun v7 h => p118_15001 call n v1 v7 h K) (call (.func 41) [x0, (.str [102, 111, 114, 97, 108, 108])] h <| pz K fun v10 h => condK v10 (call (.func 67) [x0, (.str [40])] h <| pz K fun v11 h => optPK (bsliceV h 1 1 [.str []] [(0, (.str [59]))]) fun v12 h => call (.func 190) [x0, v12] h <| pz K fun v13 h => p118_23001 call n x0 v1 v13 h K) (call (.func 65) [x0, (.int .i64 0), (.str [40])] h <| pz K fun v26 h => condK v26 (call (.func 191) [x0] h <| pz K fun v27 h => p118_37001 call n v1 v27 h K) (call (.func 41) [x0, (.str [101, 118, 97, 108])] h <| pz K fun v29 h => condK v29 (call (.func 67) [x0, (.str [40])] h <| pz K fun v30 h => call (.func 120) [x0] h <| pz K fun v31 h => p118_45001 call n x0 v1 v31 h K) (call (.func 41) [x0, (.str [97, 99, 99])] h <| pz K fun v38 h => condK v38 (call (.func 192) [x0] h <| pz K fun v39 h => p118_55001 call n v1 v39 h K) (call (.func 41) [x0, (.str [63])] h <| pz K fun v41 h => condK v41 (call (.func 193) [x0] h <| pz K fun v42 h => p118_61001 call n v1 v42 h K) (call (.func 116) [x0, (.int .i64 1)] h <| pz K fun v44 h => p118_64001 call n x0 v1 v44 h K)))))))

/-! ### 122 proctor/print.Print$1 -/
noncomputable def s122 (call : CallFn) (n : Nat) (x0 x1 : AV) (h : AHeap) (K : Kont) : Bool :=
  loadGK h 3 x1 fun v1 => call (.func 123) [x0, v1] h <| pz K fun v2 h => K (.tup []) h

/-! ### 123 (*proctor/print.writer).base -/
noncomputable def b123_39 (call : CallFn) (n : Nat) (B39 : F4) (x0 x33 x34 x35 : AV) (h : AHeap) (K : Kont) : Bool :=
  lssK x35 x34 fun v27 => condK v27 (iadrK h 3 x33 x35 fun v28 => loadGK h 3 v28 fun v29 => allocK h [.str [], .nilSlc, .nilSlc] 3 fun v30 h => storeNK h 3 v30 v29 fun h => loadGK h 3 v30 fun v32 => call (.func 200) [x0, v32] h <| pz K fun v33 h => addK x35 (.int .i64 1) fun v34 => B39 x0 x33 x34 v34 h) (K (.tup []) h)
noncomputable def l123_39 (call : CallFn) (n : Nat) : Nat → AV → AV → AV → AV → AHeap → Kont → Bool :=
  @Nat.rec (fun _ => AV → AV → AV → AV → AHeap → Kont → Bool) (fun _ _ _ _ _ _ => false) (fun _ ih x0 x33 x34 x35 h K => b123_39 call n (fun x0 x33 x34 x35 h => ih x0 x33 x34 x35 h K) x0 x33 x34 x35 h K)
noncomputable def p123_36 (call : CallFn) (n : Nat) (x0 x3 : AV) (h : AHeap) (K : Kont) : Bool :=
  fadrK 2 x3 fun v24 => loadK h v24 fun v25 => lenK v25 fun v26 => l123_39 call n n x0 v25 v26 (.int .i64 0) h K
noncomputable def b123_23 (call : CallFn) (n : Nat) (B23 : F5) (x0 x3 x22 x23 x24 : AV) (h : AHeap) (K : Kont) : Bool :=
  lssK x24 x23 fun v16 => condK v16 (iadrK h 8 x22 x24 fun v17 => loadGK h 8 v17 fun v18 => allocK h [.str [], .int .i64 0, .str [], .str [], .bool false, .bool false, .nilSlc, .nilSlc] 8 fun v19 h => storeNK h 8 v19 v18 fun h => loadGK h 8 v19 fun v21 => call (.func 199) [x0, v21] h <| pz K fun v22 h => addK x24 (.int .i64 1) fun v23 => B23 x0 x3 x22 x23 v23 h) (p123_36 call n x0 x3 h K)
noncomputable def l123_23 (call : CallFn) (n : Nat) : Nat → AV → AV → AV → AV → AV → AHeap → Kont → Bool :=
  @Nat.rec (fun _ => AV → AV → AV → AV → AV → AHeap → Kont → Bool) (fun _ _ _ _ _ _ _ => false) (fun _ ih x0 x3 x22 x23 x24 h K => b123_23 call n (fun x0 x3 x22 x23 x24 h => ih x0 x3 x22 x23 x24 h K) x0 x3 x22 x23 x24 h K)
noncomputable def p123_19 (call : CallFn) (n : Nat) (x0 x3 : AV) (h : AHeap) (K : Kont) : Bool :=
  fadrK 1 x3 fun v13 => loadK h v13 fun v14 => lenK v14 fun v15 => l123_23 call n n x0 x3 v14 v15 (.int .i64 0) h K
noncomputable def b123_6 (call : CallFn) (n : Nat) (B6 : F5) (x0 x3 x11 x12 x13 : AV) (h : AHeap) (K : Kont) : Bool :=
  lssK x13 x12 fun v5 => condK v5 (iadrK h 3 x11 x13 fun v6 => loadGK h 3 v6 fun v7 => allocK h [.str [], .str [], .nilSlc] 3 fun v8 h => storeNK h 3 v8 v7 fun h => loadGK h 3 v8 fun v10 => call (.func 198) [x0, v10] h <| pz K fun v11 h => addK x13 (.int .i64 1) fun v12 => B6 x0 x3 x11 x12 v12 h) (p123_19 call n x0 x3 h K)
noncomputable def l123_6 (call : CallFn) (n : Nat) : Nat → AV → AV → AV → AV → AV → AHeap → Kont → Bool :=
  @Nat.rec (fun _ => AV → AV → AV → AV → AV → AHeap → Kont → Bool) (fun _ _ _ _ _ _ _ => false) (fun _ ih x0 x3 x11 x12 x13 h K => b123_6 call n (fun x0 x3 x11 x12 x13 h => ih x0 x3 x11 x12 x13 h K) x0 x3 x11 x12 x13 h K)
noncomputable def s123 (call : CallFn) (n : Nat) (x0 x1 : AV) (h : AHeap) (K : Kont) : Bool :=
  optPK (boxA h 3 x1) fun v1 h => fadrK 0 v1 fun v2 => loadK h v2 fun v3 => lenK v3 fun v4 => l123_6 call n n x0 v1 v3 v4 (.int .i64 0) h K

/-! ### 124 proctor/parse.Long -/
noncomputable def p124_16001 (call : CallFn) (n : Nat) (x2 x7 x22 : AV) (h : AHeap) (K : Kont) : Bool :=
  extK 0 x22 fun v13 => extK 1 x22 fun v14 => loadGK h 3 x7 fun v15 => eqlK v14 (.int .i64 0) fun v16 => storeNK h 3 x2 v15 fun h => optR (resV h [(x2, some (true, 3)), (v16, none)]) h K
noncomputable def p124_4001 (call : CallFn) (n : Nat) (x0 x2 x10 : AV) (h : AHeap) (K : Kont) : Bool :=
  extK 0 x10 fun v3 => extK 1 x10 fun v4 => extK 2 x10 fun v5 => neqK v5 (.int .i64 0) fun v6 => condK v6 (buildK [.nilSlc, .nilSlc, .nilSlc] [] fun v7 => storeNK h 3 x2 v7 fun h => optR (resV h [(x2, some (true, 3)), ((.bool false), none)]) h K) (allocK h [.nilSlc, .nilSlc, .nilSlc] 3 fun v9 h => lenSK x0 fun v10 => optK (some (.fn (.func 201) [] [v9])) fun v11 => call (.func 40) [v3, v10, v11] h <| pz K fun v12 h => p124_16001 call n x2 v9 v12 h K)
noncomputable def s124 (call : CallFn) (n : Nat) (x0 : AV) (h : AHeap) (K : Kont) : Bool :=
  allocK h [.nilSlc, .nilSlc, .nilSlc] 3 fun v1 h => call (.func 61) [x0] h <| pz K fun v2 h => p124_4001 call n x0 v1 v2 h K

/-! ### 125 proctor/print.sameBase -/
noncomputable def p125_4003 (call : CallFn) (n : Nat) (x17 x22 : AV) (h : AHeap) (K : Kont) : Bool :=
  pickK x17 x22 (.bool false) fun v19 => K v19 h
noncomputable def p125_4002 (call : CallFn) (n : Nat) (x2 x3 x10 x15 : AV) (h : AHeap) (K : Kont) : Bool :=
  pickK x10 x15 (.bool false) fun v13 => gK v13 true (fadrK 2 x2) fun v14 => gK v13 true (loadK h v14) fun v15 => gK v13 true (fadrK 2 x3) fun v16 => gK v13 true (loadK h v16) fun v17 => gP v13 true (fun k => call (.func 206) [v15, v17, (.fn (.func 207) [] [])] h (pz K k)) h fun v18 h => p125_4003 call n v13 v18 h K
noncomputable def p125_4001 (call : CallFn) (n : Nat) (x2 x3 x9 : AV) (h : AHeap) (K : Kont) : Bool :=
  gK x9 true (fadrK 1 x2) fun v8 => gK x9 true (loadK h v8) fun v9 => gK x9 true (fadrK 1 x3) fun v10 => gK x9 true (loadK h v10) fun v11 => gP x9 true (fun k => call (.func 204) [v9, v11, (.fn (.func 205) [] [])] h (pz K k)) h fun v12 h => p125_4002 call n x2 x3 x9 v12 h K
noncomputable def s125 (call : CallFn) (n : Nat) (x0 x1 : AV) (h : AHeap) (K : Kont) : Bool :=
  optPK (boxA h 3 x0) fun v1 h => optPK (boxA h 3 x1) fun v2 h => fadrK 0 v1 fun v3 => loadK h v3 fun v4 => fadrK 0 v2 fun v5 => loadK h v5 fun v6 => call (.func 202) [v4, v6, (.fn (.func 203) [] [])] h <| pz K fun v7 h => p125_4001 call n v1 v2 v7 h K

/-! ### 126 proctor/print.told -/
noncomputable def s126 (call : CallFn) (n : Nat) (x0 : AV) (h : AHeap) (K : Kont) : Bool :=
  lenSK x0 fun v1 => gtrK v1 (.int .i64 65536) fun v2 => condK v2 (K (.tup [(.str []), (.int .i64 21)]) h) (K (.tup [x0, (.int .i64 0)]) h)

/-! ### 128 slices.Clone[[]proctor/api.Field,proctor/api.Field] -/
noncomputable def s128 (call : CallFn) (n : Nat) (x0 : AV) (h : AHeap) (K : Kont) : Bool :=
  optK (eqV h false .slc x0 .nilSlc) fun v1 => condK v1 (K .nilSlc h) (optPK (bsliceV h 0 3 [.str [], .int .i64 0, .str []] []) fun v2 h => optPK (appendA h 3 40 v2 x0) fun v3 h => K v3 h)

/-! ### 129 (*proctor/check.checker).names$1 -/
noncomputable def p129_4001 (call : CallFn) (n : Nat) (x0 x1 x8 : AV) (h : AHeap) (K : Kont) : Bool :=
  notK x8 fun v2 => call (.func 131) [x0, x1] h <| pz K fun v3 h => K v2 h
noncomputable def s129 (call : CallFn) (n : Nat) (x0 x1 : AV) (h : AHeap) (K : Kont) : Bool :=
  call (.func 130) [x0, x1] h <| pz K fun v1 h => p129_4001 call n x0 x1 v1 h K

/-! ### 130 (proctor/check.scope).has -/
noncomputable def s130 (call : CallFn) (n : Nat) (x0 x1 : AV) (h : AHeap) (K : Kont) : Bool :=
  optK (lookA h (.leaf .str) false (.int .i64 0) x0 x1) fun v1 => eqlK v1 (.int .i64 1) fun v2 => K v2 h

/-! ### 131 (proctor/check.scope).put -/
noncomputable def s131 (call : CallFn) (n : Nat) (x0 x1 : AV) (h : AHeap) (K : Kont) : Bool :=
  optK (lookA h (.leaf .str) false (.int .i64 0) x0 x1) fun v1 => neqK v1 (.int .i64 2) fun v2 => call (.func 213) [v2] h <| pz K fun v3 h => optPK (unit (mupdA h (.leaf .str) x0 x1 (.int .i64 1))) fun _ h => K (.tup []) h

/-! ### 132 (*proctor/check.checker).names$2 -/
noncomputable def s132 (call : CallFn) (n : Nat) (x0 : AV) (h : AHeap) (K : Kont) : Bool :=
  optPK (boxA h 8 x0) fun v1 h => K (.bool true) h

/-! ### 133 (*proctor/check.checker).each -/
noncomputable def p133_19001 (call : CallFn) (n : Nat) (B6 : F6) (x0 x1 x2 x9 x16 x17 x18 x24 : AV) (h : AHeap) (K : Kont) : Bool :=
  notK x24 fun v13 => condK v13 (fadrK 0 x9 fun v14 => loadK h v14 fun v15 => K (.tup [v15, (.bool false)]) h) (addK x18 (.int .i64 1) fun v16 => B6 x0 x1 x2 x16 x17 v16 h)
noncomputable def p133_42001 (call : CallFn) (n : Nat) (B29 : F4) (x2 x11 x33 x34 x35 x41 : AV) (h : AHeap) (K : Kont) : Bool :=
  notK x41 fun v29 => condK v29 (fadrK 0 x11 fun v30 => loadK h v30 fun v31 => K (.tup [v31, (.bool false)]) h) (addK x35 (.int .i64 1) fun v32 => B29 x2 x33 x34 v32 h)
noncomputable def b133_29 (call : CallFn) (n : Nat) (B29 : F4) (x2 x33 x34 x35 : AV) (h : AHeap) (K : Kont) : Bool :=
  lssK x35 x34 fun v22 => condK v22 (iadrK h 3 x33 x35 fun v23 => loadGK h 3 v23 fun v24 => allocK h [.str [], .nilSlc, .nilSlc] 3 fun v25 h => storeNK h 3 v25 v24 fun h => loadGK h 3 v25 fun v27 => callV call x2 [v27] h <| pz K fun v28 h => p133_42001 call n B29 x2 v25 x33 x34 x35 v28 h K) (K (.tup [(.str []), (.bool true)]) h)
noncomputable def l133_29 (call : CallFn) (n : Nat) : Nat → AV → AV → AV → AV → AHeap → Kont → Bool :=
  @Nat.rec (fun _ => AV → AV → AV → AV → AHeap → Kont → Bool) (fun _ _ _ _ _ _ => false) (fun _ ih x2 x33 x34 x35 h K => b133_29 call n (fun x2 x33 x34 x35 h => ih x2 x33 x34 x35 h K) x2 x33 x34 x35 h K)
noncomputable def p133_25 (call : CallFn) (n : Nat) (x0 x2 : AV) (h : AHeap) (K : Kont) : Bool :=
  nilckK x0 fun v17 => fadrK 0 v17 fun v18 => fadrK 2 v18 fun v19 => loadK h v19 fun v20 => lenK v20 fun v21 => l133_29 call n n x2 v20 v21 (.int .i64 0) h K
noncomputable def b133_6 (call : CallFn) (n : Nat) (B6 : F6) (x0 x1 x2 x16 x17 x18 : AV) (h : AHeap) (K : Kont) : Bool :=
  lssK x18 x17 fun v6 => condK v6 (iadrK h 8 x16 x18 fun v7 => loadGK h 8 v7 fun v8 => allocK h [.str [], .int .i64 0, .str [], .str [], .bool false, .bool false, .nilSlc, .nilSlc] 8 fun v9 h => storeNK h 8 v9 v8 fun h => loadGK h 8 v9 fun v11 => callV call x1 [v11] h <| pz K fun v12 h => p133_19001 call n B6 x0 x1 x2 v9 x16 x17 x18 v12 h K) (p133_25 call n x0 x2 h K)
noncomputable def l133_6 (call : CallFn) (n : Nat) : Nat → AV → AV → AV → AV → AV → AV → AHeap → Kont → Bool :=
  @Nat.rec (fun _ => AV → AV → AV → AV → AV → AV → AHeap → Kont → Bool) (fun _ _ _ _ _ _ _ _ => false) (fun _ ih x0 x1 x2 x16 x17 x18 h K => b133_6 call n (fun x0 x1 x2 x16 x17 x18 h => ih x0 x1 x2 x16 x17 x18 h K) x0 x1 x2 x16 x17 x18 h K)
noncomputable def s133 (call : CallFn) (n : Nat) (x0 x1 x2 : AV) (h : AHeap) (K : Kont) : Bool :=
  nilckK x0 fun v1 => fadrK 0 v1 fun v2 => fadrK 1 v2 fun v3 => loadK h v3 fun v4 => lenK v4 fun v5 => l133_6 call n n x0 x1 x2 v4 v5 (.int .i64 0) h K

/-! ### 134 (*proctor/check.checker).names$3 -/
noncomputable def s134 (call : CallFn) (n : Nat) (x0 x1 x2 : AV) (h : AHeap) (K : Kont) : Bool :=
  optPK (boxA h 8 x0) fun v1 h => loadK h x1 fun v2 => loadK h x2 fun v3 => fadrK 0 v1 fun v4 => loadK h v4 fun v5 => callV call v2 [v3, v5] h <| pz K fun v6 h => K v6 h

/-! ### 138 (*proctor/check.checker).conditions$1 -/
noncomputable def s138 (call : CallFn) (n : Nat) (x0 x1 : AV) (h : AHeap) (K : Kont) : Bool :=
  optPK (boxA h 8 x0) fun v1 h => optK (some (.fn (.func 140) [] [x1, v1])) fun v2 => call (.func 139) [v2] h <| pz K fun v3 h => K v3 h

/-! ### 140 (*proctor/check.checker).conditions$1$1 -/
noncomputable def s140 (call : CallFn) (n : Nat) (x0 x1 : AV) (h : AHeap) (K : Kont) : Bool :=
  loadK h x0 fun v1 => fadrK 6 x1 fun v2 => loadK h v2 fun v3 => optPK (mkmapV h) fun v4 h => call (.func 141) [v1, v3, v4] h <| pz K fun v5 h => K (.tup []) h

/-! ### 141 (*proctor/check.checker).list -/
noncomputable def b141_8 (call : CallFn) (n : Nat) (B8 : F5) (x0 x2 x11 x12 x13 : AV) (h : AHeap) (K : Kont) : Bool :=
  lssK x13 x12 fun v3 => condK v3 (iadrK h 19 x11 x13 fun v4 => loadGK h 19 v4 fun v5 => allocK h [.int .i64 0, .str [], .str [], .nilSlc, .nilSlc, .nilSlc, .nilSlc, .nilSlc, .int .i64 0, .str [], .int .i64 0, .bool false, .int .i64 0, .str [], .nilSlc, .nilSlc, .str [], .str [], .nilSlc] 19 fun v6 h => storeNK h 19 v6 v5 fun h => loadGK h 19 v6 fun v8 => call (.func 216) [x0, v8, x2] h <| pz K fun v9 h => addK x13 (.int .i64 1) fun v10 => B8 x0 x2 x11 x12 v10 h) (K x2 h)
noncomputable def l141_8 (call : CallFn) (n : Nat) : Nat → AV → AV → AV → AV → AV → AHeap → Kont → Bool :=
  @Nat.rec (fun _ => AV → AV → AV → AV → AV → AHeap → Kont → Bool) (fun _ _ _ _ _ _ _ => false) (fun _ ih x0 x2 x11 x12 x13 h K => b141_8 call n (fun x0 x2 x11 x12 x13 h => ih x0 x2 x11 x12 x13 h K) x0 x2 x11 x12 x13 h K)
noncomputable def s141 (call : CallFn) (n : Nat) (x0 x1 x2 : AV) (h : AHeap) (K : Kont) : Bool :=
  call (.func 215) [x2] h <| pz K fun v1 h => lenK x1 fun v2 => l141_8 call n n x0 v1 x1 v2 (.int .i64 0) h K

/-! ### 145 (*proctor/check.checker).actions$1 -/
noncomputable def s145 (call : CallFn) (n : Nat) (x0 x1 : AV) (h : AHeap) (K : Kont) : Bool :=
  optPK (boxA h 8 x0) fun v1 h => optK (some (.fn (.func 146) [] [x1, v1])) fun v2 => call (.func 139) [v2] h <| pz K fun v3 h => K v3 h

/-! ### 146 (*proctor/check.checker).actions$1$1 -/
noncomputable def b146_5 (call : CallFn) (n : Nat) (B5 : F5) (x0 x2 x11 x12 x13 : AV) (h : AHeap) (K : Kont) : Bool :=
  lssK x13 x12 fun v9 => condK v9 (iadrK h 12 x11 x13 fun v10 => loadGK h 12 v10 fun v11 => allocK h [.int .i64 0, .str [], .nilSlc, .int .i64 0, .str [], .int .i64 0, .bool false, .int .i64 0, .str [], .nilSlc, .nilSlc, .str []] 12 fun v12 h => storeNK h 12 v12 v11 fun h => loadK h x0 fun v14 => loadGK h 12 v12 fun v15 => call (.func 147) [v14, v15, x2] h <| pz K fun v16 h => addK x13 (.int .i64 1) fun v17 => B5 x0 x2 x11 x12 v17 h) (K (.tup []) h)
noncomputable def l146_5 (call : CallFn) (n : Nat) : Nat → AV → AV → AV → AV → AV → AHeap → Kont → Bool :=
  @Nat.rec (fun _ => AV → AV → AV → AV → AV → AHeap → Kont → Bool) (fun _ _ _ _ _ _ _ => false) (fun _ ih x0 x2 x11 x12 x13 h K => b146_5 call n (fun x0 x2 x11 x12 x13 h => ih x0 x2 x11 x12 x13 h K) x0 x2 x11 x12 x13 h K)
noncomputable def s146 (call : CallFn) (n : Nat) (x0 x1 : AV) (h : AHeap) (K : Kont) : Bool :=
  loadK h x0 fun v1 => fadrK 6 x1 fun v2 => loadK h v2 fun v3 => optPK (mkmapV h) fun v4 h => call (.func 141) [v1, v3, v4] h <| pz K fun v5 h => fadrK 7 x1 fun v6 => loadK h v6 fun v7 => lenK v7 fun v8 => l146_5 call n n x0 v5 v7 v8 (.int .i64 0) h K

/-! ### 153 (*proctor/check.checker).queries$2 -/
noncomputable def s153 (call : CallFn) (n : Nat) (x0 : AV) (h : AHeap) (K : Kont) : Bool :=
  optPK (boxA h 8 x0) fun v1 h => K (.bool true) h

/-! ### 158 (*proctor/check.checker).sizes$1 -/
noncomputable def p158_4002 (call : CallFn) (n : Nat) (x8 x10 : AV) (h : AHeap) (K : Kont) : Bool :=
  pickK x8 x10 (.bool false) fun v8 => K v8 h
noncomputable def p158_4001 (call : CallFn) (n : Nat) (x1 x2 x6 : AV) (h : AHeap) (K : Kont) : Bool :=
  leqK x6 (.int .i64 64) fun v5 => gK v5 true (optK (some (.fn (.func 160) [] [x1, x2]))) fun v6 => gP v5 true (fun k => call (.func 139) [v6] h (pz K k)) h fun v7 h => p158_4002 call n v5 v7 h K
noncomputable def s158 (call : CallFn) (n : Nat) (x0 x1 : AV) (h : AHeap) (K : Kont) : Bool :=
  optPK (boxA h 8 x0) fun v1 h => fadrK 6 v1 fun v2 => loadK h v2 fun v3 => call (.func 159) [v3] h <| pz K fun v4 h => p158_4001 call n x1 v1 v4 h K

/-! ### 159 proctor/check.count -/
noncomputable def p159_36001 (call : CallFn) (n : Nat) (B8 : F4) (B24 : F7) (x8 x9 x10 x25 x26 x27 x31 x33 : AV) (h : AHeap) (K : Kont) : Bool :=
  addK x31 x33 fun v23 => addK x27 (.int .i64 1) fun v24 => B24 v23 x8 x9 x10 x25 x26 v24 h
noncomputable def p159_37 (call : CallFn) (n : Nat) (B8 : F4) (x3 x8 x9 x10 : AV) (h : AHeap) (K : Kont) : Bool :=
  addK x10 (.int .i64 1) fun v25 => B8 x3 x8 x9 v25 h
noncomputable def b159_24 (call : CallFn) (n : Nat) (B8 : F4) (B24 : F7) (x3 x8 x9 x10 x25 x26 x27 : AV) (h : AHeap) (K : Kont) : Bool :=
  lssK x27 x26 fun v19 => condK v19 (iadrK h 1 x25 x27 fun v20 => loadK h v20 fun v21 => call (.func 159) [v21] h <| pz K fun v22 h => p159_36001 call n B8 B24 x8 x9 x10 x25 x26 x27 x3 v22 h K) (p159_37 call n B8 x3 x8 x9 x10 h K)
noncomputable def l159_24 (call : CallFn) (n : Nat) (B8 : F4) : Nat → AV → AV → AV → AV → AV → AV → AV → AHeap → Kont → Bool :=
  @Nat.rec (fun _ => AV → AV → AV → AV → AV → AV → AV → AHeap → Kont → Bool) (fun _ _ _ _ _ _ _ _ _ => false) (fun _ ih x3 x8 x9 x10 x25 x26 x27 h K => b159_24 call n B8 (fun x3 x8 x9 x10 x25 x26 x27 h => ih x3 x8 x9 x10 x25 x26 x27 h K) x3 x8 x9 x10 x25 x26 x27 h K)
noncomputable def p159_15 (call : CallFn) (n : Nat) (B8 : F4) (x3 x8 x9 x10 : AV) (h : AHeap) (K : Kont) : Bool :=
  iadrK h 19 x8 x10 fun v3 => loadGK h 19 v3 fun v4 => allocK h [.int .i64 0, .str [], .str [], .nilSlc, .nilSlc, .nilSlc, .nilSlc, .nilSlc, .int .i64 0, .str [], .int .i64 0, .bool false, .int .i64 0, .str [], .nilSlc, .nilSlc, .str [], .str [], .nilSlc] 19 fun v5 h => storeNK h 19 v5 v4 fun h => fadrK 5 v5 fun v7 => loadK h v7 fun v8 => fadrK 6 v5 fun v9 => loadK h v9 fun v10 => call (.func 159) [v8] h <| pz K fun v11 h => loadK h v9 <| sameK v10 <| addK (.int .i64 1) v11 fun v12 => call (.func 159) [v10] h <| pz K fun v13 h => addK v12 v13 fun v14 => addK x3 v14 fun v15 => fadrK 7 v5 fun v16 => loadK h v16 fun v17 => lenK v17 fun v18 => l159_24 call n B8 n v15 x8 x9 x10 v17 v18 (.int .i64 0) h K
noncomputable def b159_8 (call : CallFn) (n : Nat) (B8 : F4) (x3 x8 x9 x10 : AV) (h : AHeap) (K : Kont) : Bool :=
  lssK x10 x9 fun v2 => condK v2 (p159_15 call n B8 x3 x8 x9 x10 h K) (K x3 h)
noncomputable def l159_8 (call : CallFn) (n : Nat) : Nat → AV → AV → AV → AV → AHeap → Kont → Bool :=
  @Nat.rec (fun _ => AV → AV → AV → AV → AHeap → Kont → Bool) (fun _ _ _ _ _ _ => false) (fun _ ih x3 x8 x9 x10 h K => b159_8 call n (fun x3 x8 x9 x10 h => ih x3 x8 x9 x10 h K) x3 x8 x9 x10 h K)
noncomputable def s159 (call : CallFn) (n : Nat) (x0 : AV) (h : AHeap) (K : Kont) : Bool :=
  lenK x0 fun v1 => l159_8 call n n (.int .i64 0) x0 v1 (.int .i64 0) h K

/-! ### 160 (*proctor/check.checker).sizes$1$1 -/
noncomputable def s160 (call : CallFn) (n : Nat) (x0 x1 : AV) (h : AHeap) (K : Kont) : Bool :=
  loadK h x0 fun v1 => fadrK 6 x1 fun v2 => loadK h v2 fun v3 => call (.func 161) [v3] h <| pz K fun v4 h => loadK h x0 <| sameK v1 <| lenK v4 fun v5 => addK v1 v5 fun v6 => storeK h x0 v6 fun h => K (.tup []) h

/-! ### 161 proctor/check.alternatives -/
noncomputable def p161_58 (call : CallFn) (n : Nat) (B8 : F4) (B29 : F8) (x6 x7 x13 x14 x15 x28 x29 x30 : AV) (h : AHeap) (K : Kont) : Bool :=
  addK x30 (.int .i64 1) fun v30 => B29 x6 x7 x13 x14 x15 x28 x29 v30 h
noncomputable def b161_43 (call : CallFn) (n : Nat) (B8 : F4) (B29 : F8) (B43 : F12) (x6 x7 x9 x13 x14 x15 x28 x29 x30 x34 x35 x36 : AV) (h : AHeap) (K : Kont) : Bool :=
  lssK x36 x35 fun v20 => condK v20 (iadrK h 1 x34 x36 fun v21 => loadK h v21 fun v22 => addK x9 v22 fun v23 => leqK v23 (.int .i64 64) fun v24 => call (.func 213) [v24] h <| pz K fun v25 h => addK x9 v22 fun v26 => optPK (bsliceV h 1 1 [.int .i64 0] [(0, v26)]) fun v27 h => optPK (appendA h 1 8 x7 v27) fun v28 h => addK x36 (.int .i64 1) fun v29 => B43 x6 v28 x9 x13 x14 x15 x28 x29 x30 x34 x35 v29 h) (p161_58 call n B8 B29 x6 x7 x13 x14 x15 x28 x29 x30 h K)
noncomputable def l161_43 (call : CallFn) (n : Nat) (B8 : F4) (B29 : F8) : Nat → AV → AV → AV → AV → AV → AV → AV → AV → AV → AV → AV → AV → AHeap → Kont → Bool :=
  @Nat.rec (fun _ => AV → AV → AV → AV → AV → AV → AV → AV → AV → AV → AV → AV → AHeap → Kont → Bool) (fun _ _ _ _ _ _ _ _ _ _ _ _ _ _ => false) (fun _ ih x6 x7 x9 x13 x14 x15 x28 x29 x30 x34 x35 x36 h K => b161_43 call n B8 B29 (fun x6 x7 x9 x13 x14 x15 x28 x29 x30 x34 x35 x36 h => ih x6 x7 x9 x13 x14 x15 x28 x29 x30 x34 x35 x36 h K) x6 x7 x9 x13 x14 x15 x28 x29 x30 x34 x35 x36 h K)
noncomputable def p161_36 (call : CallFn) (n : Nat) (B8 : F4) (B29 : F8) (x6 x7 x13 x14 x15 x28 x29 x30 : AV) (h : AHeap) (K : Kont) : Bool :=
  iadrK h 1 x28 x30 fun v17 => loadK h v17 fun v18 => lenK x6 fun v19 => l161_43 call n B8 B29 n x6 x7 v18 x13 x14 x15 x28 x29 x30 x6 v19 (.int .i64 0) h K
noncomputable def p161_60 (call : CallFn) (n : Nat) (B8 : F4) (x3 x13 x14 x15 : AV) (h : AHeap) (K : Kont) : Bool :=
  addK x15 (.int .i64 1) fun v31 => B8 x3 x13 x14 v31 h
noncomputable def b161_29 (call : CallFn) (n : Nat) (B8 : F4) (B29 : F8) (x6 x7 x13 x14 x15 x28 x29 x30 : AV) (h : AHeap) (K : Kont) : Bool :=
  lssK x30 x29 fun v16 => condK v16 (p161_36 call n B8 B29 x6 x7 x13 x14 x15 x28 x29 x30 h K) (p161_60 call n B8 x7 x13 x14 x15 h K)
noncomputable def l161_29 (call : CallFn) (n : Nat) (B8 : F4) : Nat → AV → AV → AV → AV → AV → AV → AV → AV → AHeap → Kont → Bool :=
  @Nat.rec (fun _ => AV → AV → AV → AV → AV → AV → AV → AV → AHeap → Kont → Bool) (fun _ _ _ _ _ _ _ _ _ _ => false) (fun _ ih x6 x7 x13 x14 x15 x28 x29 x30 h K => b161_29 call n B8 (fun x6 x7 x13 x14 x15 x28 x29 x30 h => ih x6 x7 x13 x14 x15 x28 x29 x30 h K) x6 x7 x13 x14 x15 x28 x29 x30 h K)
noncomputable def p161_15 (call : CallFn) (n : Nat) (B8 : F4) (x3 x13 x14 x15 : AV) (h : AHeap) (K : Kont) : Bool :=
  iadrK h 19 x13 x15 fun v4 => loadGK h 19 v4 fun v5 => allocK h [.int .i64 0, .str [], .str [], .nilSlc, .nilSlc, .nilSlc, .nilSlc, .nilSlc, .int .i64 0, .str [], .int .i64 0, .bool false, .int .i64 0, .str [], .nilSlc, .nilSlc, .str [], .str [], .nilSlc] 19 fun v6 h => storeNK h 19 v6 v5 fun h => loadGK h 19 v6 fun v8 => call (.func 224) [v8] h <| pz K fun v9 h => lenK x3 fun v10 => lenK v9 fun v11 => optK (binA .mul v10 v11) fun v12 => leqK v12 (.int .i64 512) fun v13 => call (.func 213) [v13] h <| pz K fun v14 h => lenK x3 fun v15 => l161_29 call n B8 n v9 .nilSlc x13 x14 x15 x3 v15 (.int .i64 0) h K
noncomputable def b161_8 (call : CallFn) (n : Nat) (B8 : F4) (x3 x13 x14 x15 : AV) (h : AHeap) (K : Kont) : Bool :=
  lssK x15 x14 fun v3 => condK v3 (p161_15 call n B8 x3 x13 x14 x15 h K) (K x3 h)
noncomputable def l161_8 (call : CallFn) (n : Nat) : Nat → AV → AV → AV → AV → AHeap → Kont → Bool :=
  @Nat.rec (fun _ => AV → AV → AV → AV → AHeap → Kont → Bool) (fun _ _ _ _ _ _ => false) (fun _ ih x3 x13 x14 x15 h K => b161_8 call n (fun x3 x13 x14 x15 h => ih x3 x13 x14 x15 h K) x3 x13 x14 x15 h K)
noncomputable def s161 (call : CallFn) (n : Nat) (x0 : AV) (h : AHeap) (K : Kont) : Bool :=
  optPK (bsliceV h 1 1 [.int .i64 0] [(0, (.int .i64 0))]) fun v1 h => lenK x0 fun v2 => l161_8 call n n v1 x0 v2 (.int .i64 0) h K

/-! ### 163 slices.ContainsFunc[[]proctor/api.Cond,proctor/api.Cond] -/
noncomputable def p163_4001 (call : CallFn) (n : Nat) (x7 : AV) (h : AHeap) (K : Kont) : Bool :=
  geqK x7 (.int .i64 0) fun v2 => K v2 h
noncomputable def s163 (call : CallFn) (n : Nat) (x0 x1 : AV) (h : AHeap) (K : Kont) : Bool :=
  call (.func 225) [x0, x1] h <| pz K fun v1 h => p163_4001 call n v1 h K

/-! ### 164 proctor/desugar.shallow$1 -/
noncomputable def p164_4003 (call : CallFn) (n : Nat) (x18 x22 : AV) (h : AHeap) (K : Kont) : Bool :=
  pickK x18 (.bool true) x22 fun v19 => K v19 h
noncomputable def p164_4002 (call : CallFn) (n : Nat) (x1 x2 x10 x15 : AV) (h : AHeap) (K : Kont) : Bool :=
  gK x10 false (notK x15) fun v13 => pickK x10 (.bool true) v13 fun v14 => gK v14 false (fadrK 7 x2) fun v15 => gK v14 false (loadK h v15) fun v16 => gK v14 false (optK (some (.fn (.func 166) [] [x1]))) fun v17 => gP v14 false (fun k => call (.func 165) [v16, v17] h (pz K k)) h fun v18 h => p164_4003 call n v14 v18 h K
noncomputable def p164_4001 (call : CallFn) (n : Nat) (x1 x2 x8 : AV) (h : AHeap) (K : Kont) : Bool :=
  notK x8 fun v7 => gK v7 false (fadrK 6 x2) fun v8 => gK v7 false (loadK h v8) fun v9 => gK v7 false (loadK h x1) fun v10 => gK v7 false (addK v10 (.int .i64 1)) fun v11 => gP v7 false (fun k => call (.func 87) [v9, v11] h (pz K k)) h fun v12 h => p164_4002 call n x1 x2 v7 v12 h K
noncomputable def s164 (call : CallFn) (n : Nat) (x0 x1 : AV) (h : AHeap) (K : Kont) : Bool :=
  optPK (boxA h 19 x0) fun v1 h => fadrK 5 v1 fun v2 => loadK h v2 fun v3 => loadK h x1 fun v4 => addK v4 (.int .i64 1) fun v5 => call (.func 87) [v3, v5] h <| pz K fun v6 h => p164_4001 call n x1 v1 v6 h K

/-! ### 165 slices.ContainsFunc[[][]proctor/api.Cond,[]proctor/api.Cond] -/
noncomputable def p165_4001 (call : CallFn) (n : Nat) (x7 : AV) (h : AHeap) (K : Kont) : Bool :=
  geqK x7 (.int .i64 0) fun v2 => K v2 h
noncomputable def s165 (call : CallFn) (n : Nat) (x0 x1 : AV) (h : AHeap) (K : Kont) : Bool :=
  call (.func 226) [x0, x1] h <| pz K fun v1 h => p165_4001 call n v1 h K

/-! ### 167 proctor/desugar.choices -/
noncomputable def p167_11002 (call : CallFn) (n : Nat) (x19 : AV) (h : AHeap) (K : Kont) : Bool :=
  optPK (bsliceV h 1 1 [.nilSlc] [(0, x19)]) fun v9 h => K v9 h
noncomputable def p167_11001 (call : CallFn) (n : Nat) (x18 : AV) (h : AHeap) (K : Kont) : Bool :=
  call (.func 227) [x18] h <| pz K fun v8 h => p167_11002 call n v8 h K
noncomputable def p167_27002 (call : CallFn) (n : Nat) (x37 : AV) (h : AHeap) (K : Kont) : Bool :=
  optPK (bsliceV h 1 19 [.int .i64 0, .str [], .str [], .nilSlc, .nilSlc, .nilSlc, .nilSlc, .nilSlc, .int .i64 0, .str [], .int .i64 0, .bool false, .int .i64 0, .str [], .nilSlc, .nilSlc, .str [], .str [], .nilSlc] [(0, x37)]) fun v23 h => optPK (bsliceV h 1 1 [.nilSlc] [(0, v23)]) fun v24 h => K v24 h
noncomputable def p167_27001 (call : CallFn) (n : Nat) (x36 : AV) (h : AHeap) (K : Kont) : Bool :=
  call (.func 228) [x36] h <| pz K fun v22 h => p167_27002 call n v22 h K
noncomputable def p167_51002 (call : CallFn) (n : Nat) (B39 : F5) (x4 x48 x49 x50 x54 x58 : AV) (h : AHeap) (K : Kont) : Bool :=
  optPK (bsliceV h 1 19 [.int .i64 0, .str [], .str [], .nilSlc, .nilSlc, .nilSlc, .nilSlc, .nilSlc, .int .i64 0, .str [], .int .i64 0, .bool false, .int .i64 0, .str [], .nilSlc, .nilSlc, .str [], .str [], .nilSlc] [(0, x58)]) fun v39 h => optPK (appendA h 19 328 x54 v39) fun v40 h => addK x50 (.int .i64 1) fun v41 => B39 x4 v40 x48 x49 v41 h
noncomputable def p167_51001 (call : CallFn) (n : Nat) (B39 : F5) (x4 x48 x49 x50 x54 x57 : AV) (h : AHeap) (K : Kont) : Bool :=
  call (.func 228) [x57] h <| pz K fun v38 h => p167_51002 call n B39 x4 x48 x49 x50 x54 v38 h K
noncomputable def p167_52 (call : CallFn) (n : Nat) (x5 : AV) (h : AHeap) (K : Kont) : Bool :=
  optPK (bsliceV h 1 1 [.nilSlc] [(0, x5)]) fun v42 h => K v42 h
noncomputable def b167_39 (call : CallFn) (n : Nat) (B39 : F5) (x4 x5 x48 x49 x50 : AV) (h : AHeap) (K : Kont) : Bool :=
  lssK x50 x49 fun v34 => condK v34 (iadrK h 1 x48 x50 fun v35 => loadK h v35 fun v36 => call (.func 169) [v36, x4] h <| pz K fun v37 h => p167_51001 call n B39 x4 x48 x49 x50 x5 v37 h K) (p167_52 call n x5 h K)
noncomputable def l167_39 (call : CallFn) (n : Nat) : Nat → AV → AV → AV → AV → AV → AHeap → Kont → Bool :=
  @Nat.rec (fun _ => AV → AV → AV → AV → AV → AHeap → Kont → Bool) (fun _ _ _ _ _ _ _ => false) (fun _ ih x4 x5 x48 x49 x50 h K => b167_39 call n (fun x4 x5 x48 x49 x50 h => ih x4 x5 x48 x49 x50 h K) x4 x5 x48 x49 x50 h K)
noncomputable def p167_38001 (call : CallFn) (n : Nat) (x4 x5 x48 : AV) (h : AHeap) (K : Kont) : Bool :=
  lenK x48 fun v33 => l167_39 call n n x4 x5 x48 v33 (.int .i64 0) h K
noncomputable def p167_33001 (call : CallFn) (n : Nat) (x1 x44 : AV) (h : AHeap) (K : Kont) : Bool :=
  call (.func 227) [x44] h <| pz K fun v29 h => fadrK 5 x1 fun v30 => loadK h v30 fun v31 => call (.func 88) [v31] h <| pz K fun v32 h => p167_38001 call n v29 .nilSlc v32 h K
noncomputable def p167_91 (call : CallFn) (n : Nat) (x1 : AV) (h : AHeap) (K : Kont) : Bool :=
  loadGK h 19 x1 fun v54 => optPK (bsliceV h 1 19 [.int .i64 0, .str [], .str [], .nilSlc, .nilSlc, .nilSlc, .nilSlc, .nilSlc, .int .i64 0, .str [], .int .i64 0, .bool false, .int .i64 0, .str [], .nilSlc, .nilSlc, .str [], .str [], .nilSlc] [(0, v54)]) fun v55 h => optPK (bsliceV h 1 1 [.nilSlc] [(0, v55)]) fun v56 h => K v56 h
noncomputable def p167_85001 (call : CallFn) (n : Nat) (B72 : F4) (x80 x81 x82 x86 x88 : AV) (h : AHeap) (K : Kont) : Bool :=
  optPK (appendA h 1 24 x86 x88) fun v65 h => lenK v65 fun v66 => leqK v66 (.int .i64 512) fun v67 => call (.func 86) [v67] h <| pz K fun v68 h => addK x82 (.int .i64 1) fun v69 => B72 v65 x80 x81 v69 h
noncomputable def b167_72 (call : CallFn) (n : Nat) (B72 : F4) (x9 x80 x81 x82 : AV) (h : AHeap) (K : Kont) : Bool :=
  lssK x82 x81 fun v61 => condK v61 (iadrK h 1 x80 x82 fun v62 => loadK h v62 fun v63 => call (.func 88) [v63] h <| pz K fun v64 h => p167_85001 call n B72 x80 x81 x82 x9 v64 h K) (K x9 h)
noncomputable def l167_72 (call : CallFn) (n : Nat) : Nat → AV → AV → AV → AV → AHeap → Kont → Bool :=
  @Nat.rec (fun _ => AV → AV → AV → AV → AHeap → Kont → Bool) (fun _ _ _ _ _ _ => false) (fun _ ih x9 x80 x81 x82 h K => b167_72 call n (fun x9 x80 x81 x82 h => ih x9 x80 x81 x82 h K) x9 x80 x81 x82 h K)
set_option maxRecDepth 100000 in
noncomputable def s167 (call : CallFn) (n : Nat) (x0 : AV) (h : AHeap) (K : Kont) : Bool :=
  optPK (boxA h 19 x0) fun v1 h => fadrK 0 v1 fun v2 => loadK h v2 fun v3 => eqlK v3 (.int .i64 2) fun v4 => condK v4 (fadrK 5 v1 fun v5 => loadK h v5 fun v6 => call (.func 88) [v6] h <| pz K fun v7 h => p167_11001 call n v7 h K) (eqlK v3 (.int .i64 3) fun v10 => condK v10 (fadrK 5 v1 fun v11 => loadK h v11 fun v12 => call (.func 88) [v12] h <| pz K fun v13 h => lenK v13 fun v14 => eqlK v14 (.int .i64 1) fun v15 => condK v15 (iadrK h 1 v13 (.int .i64 0) fun v16 => loadK h v16 fun v17 => buildK [.int .i64 0, .str [], .str [], .nilSlc, .nilSlc, .nilSlc, .nilSlc, .nilSlc, .int .i64 0, .str [], .int .i64 0, .bool false, .int .i64 0, .str [], .nilSlc, .nilSlc, .str [], .str [], .nilSlc] [(0, 1, (.int .i64 3)), (5, 1, v17)] fun v18 => optPK (bsliceV h 1 19 [.int .i64 0, .str [], .str [], .nilSlc, .nilSlc, .nilSlc, .nilSlc, .nilSlc, .int .i64 0, .str [], .int .i64 0, .bool false, .int .i64 0, .str [], .nilSlc, .nilSlc, .str [], .str [], .nilSlc] [(0, v18)]) fun v19 h => optPK (bsliceV h 1 1 [.nilSlc] [(0, v19)]) fun v20 h => K v20 h) (call (.func 227) [v13] h <| pz K fun v21 h => p167_27001 call n v21 h K)) (eqlK v3 (.int .i64 4) fun v25 => condK v25 (fadrK 6 v1 fun v26 => loadK h v26 fun v27 => call (.func 88) [v27] h <| pz K fun v28 h => p167_33001 call n v1 v28 h K) (eqlK v3 (.int .i64 7) fun v43 => condK v43 (fadrK 5 v1 fun v44 => loadK h v44 fun v45 => call (.func 88) [v45] h <| pz K fun v46 h => lenK v46 fun v47 => eqlK v47 (.int .i64 1) fun v48 => call (.func 86) [v48] h <| pz K fun v49 h => iadrK h 1 v46 (.int .i64 0) fun v50 => loadK h v50 fun v51 => fadrK 5 v1 fun v52 => storeK h v52 v51 fun h => p167_91 call n v1 h K) (eqlK v3 (.int .i64 5) fun v57 => condK v57 (fadrK 7 v1 fun v58 => loadK h v58 fun v59 => lenK v59 fun v60 => l167_72 call n n .nilSlc v59 v60 (.int .i64 0) h K) (p167_91 call n v1 h K)))))

/-! ### 168 proctor/desugar.alternatives$1 -/
noncomputable def b168_11 (call : CallFn) (n : Nat) (B11 : F7) (x0 x1 x2 x4 x20 x21 x22 : AV) (h : AHeap) (K : Kont) : Bool :=
  lssK x22 x21 fun v9 => condK v9 (iadrK h 1 x20 x22 fun v10 => loadK h v10 fun v11 => loadK h x4 fun v12 => addK x0 (.int .i64 1) fun v13 => call (.func 169) [x1, v11] h <| pz K fun v14 h => loadK h x4 <| sameK v12 <| callV call v12 [v13, v14, x2] h <| pz K fun v15 h => addK x22 (.int .i64 1) fun v16 => B11 x0 x1 x2 x4 x20 x21 v16 h) (K (.tup []) h)
noncomputable def l168_11 (call : CallFn) (n : Nat) : Nat → AV → AV → AV → AV → AV → AV → AV → AHeap → Kont → Bool :=
  @Nat.rec (fun _ => AV → AV → AV → AV → AV → AV → AV → AHeap → Kont → Bool) (fun _ _ _ _ _ _ _ _ _ => false) (fun _ ih x0 x1 x2 x4 x20 x21 x22 h K => b168_11 call n (fun x0 x1 x2 x4 x20 x21 x22 h => ih x0 x1 x2 x4 x20 x21 x22 h K) x0 x1 x2 x4 x20 x21 x22 h K)
noncomputable def p168_8 (call : CallFn) (n : Nat) (x0 x1 x2 x3 x4 : AV) (h : AHeap) (K : Kont) : Bool :=
  loadK h x3 fun v5 => iadrK h 1 v5 x0 fun v6 => loadK h v6 fun v7 => lenK v7 fun v8 => l168_11 call n n x0 x1 x2 x4 v7 v8 (.int .i64 0) h K
noncomputable def s168 (call : CallFn) (n : Nat) (x0 x1 x2 x3 x4 : AV) (h : AHeap) (K : Kont) : Bool :=
  loadK h x3 fun v1 => lenK v1 fun v2 => eqlK x0 v2 fun v3 => condK v3 (callV call x2 [x1] h <| pz K fun v4 h => K (.tup []) h) (p168_8 call n x0 x1 x2 x3 x4 h K)

/-! ### 169 proctor/desugar.joined[proctor/api.Cond] -/
noncomputable def p169_4001 (call : CallFn) (n : Nat) (x1 x6 : AV) (h : AHeap) (K : Kont) : Bool :=
  optPK (appendA h 19 328 x6 x1) fun v2 h => K v2 h
noncomputable def s169 (call : CallFn) (n : Nat) (x0 x1 : AV) (h : AHeap) (K : Kont) : Bool :=
  call (.func 229) [x0] h <| pz K fun v1 h => p169_4001 call n x1 v1 h K

/-! ### 170 proctor/desugar.alternatives$2 -/
noncomputable def p170_2001 (call : CallFn) (n : Nat) (x0 x1 x4 : AV) (h : AHeap) (K : Kont) : Bool :=
  leqK x4 (.int .i64 64) fun v2 => call (.func 86) [v2] h <| pz K fun v3 h => loadK h x1 fun v4 => optPK (bsliceV h 1 1 [.nilSlc] [(0, x0)]) fun v5 h => optPK (appendA h 1 24 v4 v5) fun v6 h => storeK h x1 v6 fun h => K (.tup []) h
noncomputable def s170 (call : CallFn) (n : Nat) (x0 x1 : AV) (h : AHeap) (K : Kont) : Bool :=
  call (.func 171) [x0] h <| pz K fun v1 h => p170_2001 call n x0 x1 v1 h K

/-! ### 171 proctor/desugar.count -/
noncomputable def p171_36001 (call : CallFn) (n : Nat) (B8 : F4) (B24 : F7) (x8 x9 x10 x25 x26 x27 x31 x33 : AV) (h : AHeap) (K : Kont) : Bool :=
  addK x31 x33 fun v23 => addK x27 (.int .i64 1) fun v24 => B24 v23 x8 x9 x10 x25 x26 v24 h
noncomputable def p171_37 (call : CallFn) (n : Nat) (B8 : F4) (x3 x8 x9 x10 : AV) (h : AHeap) (K : Kont) : Bool :=
  addK x10 (.int .i64 1) fun v25 => B8 x3 x8 x9 v25 h
noncomputable def b171_24 (call : CallFn) (n : Nat) (B8 : F4) (B24 : F7) (x3 x8 x9 x10 x25 x26 x27 : AV) (h : AHeap) (K : Kont) : Bool :=
  lssK x27 x26 fun v19 => condK v19 (iadrK h 1 x25 x27 fun v20 => loadK h v20 fun v21 => call (.func 171) [v21] h <| pz K fun v22 h => p171_36001 call n B8 B24 x8 x9 x10 x25 x26 x27 x3 v22 h K) (p171_37 call n B8 x3 x8 x9 x10 h K)
noncomputable def l171_24 (call : CallFn) (n : Nat) (B8 : F4) : Nat → AV → AV → AV → AV → AV → AV → AV → AHeap → Kont → Bool :=
  @Nat.rec (fun _ => AV → AV → AV → AV → AV → AV → AV → AHeap → Kont → Bool) (fun _ _ _ _ _ _ _ _ _ => false) (fun _ ih x3 x8 x9 x10 x25 x26 x27 h K => b171_24 call n B8 (fun x3 x8 x9 x10 x25 x26 x27 h => ih x3 x8 x9 x10 x25 x26 x27 h K) x3 x8 x9 x10 x25 x26 x27 h K)
noncomputable def p171_15 (call : CallFn) (n : Nat) (B8 : F4) (x3 x8 x9 x10 : AV) (h : AHeap) (K : Kont) : Bool :=
  iadrK h 19 x8 x10 fun v3 => loadGK h 19 v3 fun v4 => allocK h [.int .i64 0, .str [], .str [], .nilSlc, .nilSlc, .nilSlc, .nilSlc, .nilSlc, .int .i64 0, .str [], .int .i64 0, .bool false, .int .i64 0, .str [], .nilSlc, .nilSlc, .str [], .str [], .nilSlc] 19 fun v5 h => storeNK h 19 v5 v4 fun h => fadrK 5 v5 fun v7 => loadK h v7 fun v8 => fadrK 6 v5 fun v9 => loadK h v9 fun v10 => call (.func 171) [v8] h <| pz K fun v11 h => loadK h v9 <| sameK v10 <| addK (.int .i64 1) v11 fun v12 => call (.func 171) [v10] h <| pz K fun v13 h => addK v12 v13 fun v14 => addK x3 v14 fun v15 => fadrK 7 v5 fun v16 => loadK h v16 fun v17 => lenK v17 fun v18 => l171_24 call n B8 n v15 x8 x9 x10 v17 v18 (.int .i64 0) h K
noncomputable def b171_8 (call : CallFn) (n : Nat) (B8 : F4) (x3 x8 x9 x10 : AV) (h : AHeap) (K : Kont) : Bool :=
  lssK x10 x9 fun v2 => condK v2 (p171_15 call n B8 x3 x8 x9 x10 h K) (K x3 h)
noncomputable def l171_8 (call : CallFn) (n : Nat) : Nat → AV → AV → AV → AV → AHeap → Kont → Bool :=
  @Nat.rec (fun _ => AV → AV → AV → AV → AHeap → Kont → Bool) (fun _ _ _ _ _ _ => false) (fun _ ih x3 x8 x9 x10 h K => b171_8 call n (fun x3 x8 x9 x10 h => ih x3 x8 x9 x10 h K) x3 x8 x9 x10 h K)
noncomputable def s171 (call : CallFn) (n : Nat) (x0 : AV) (h : AHeap) (K : Kont) : Bool :=
  lenK x0 fun v1 => l171_8 call n n (.int .i64 0) x0 v1 (.int .i64 0) h K

/-! ### 172 proctor/desugar.copied -/
noncomputable def p172_61 (call : CallFn) (n : Nat) (x2 x3 : AV) (h : AHeap) (K : Kont) : Bool :=
  loadGK h 19 x3 fun v84 => storeNK h 19 x2 v84 fun h => optR (resV h [(x2, some (true, 19))]) h K
noncomputable def b172_48 (call : CallFn) (n : Nat) (B48 : F5) (x2 x3 x65 x66 x67 : AV) (h : AHeap) (K : Kont) : Bool :=
  lssK x67 x66 fun v73 => condK v73 (iadrK h 1 x65 x67 fun v74 => loadK h v74 fun v75 => fadrK 7 x3 fun v76 => loadK h v76 fun v77 => call (.func 89) [v75] h <| pz K fun v78 h => loadK h v76 <| sameK v77 <| optPK (bsliceV h 1 1 [.nilSlc] [(0, v78)]) fun v79 h => loadK h v76 <| sameK v77 <| optPK (appendA h 1 24 v77 v79) fun v80 h => fadrK 7 x3 fun v81 => storeK h v81 v80 fun h => addK x67 (.int .i64 1) fun v83 => B48 x2 x3 x65 x66 v83 h) (p172_61 call n x2 x3 h K)
noncomputable def l172_48 (call : CallFn) (n : Nat) : Nat → AV → AV → AV → AV → AV → AHeap → Kont → Bool :=
  @Nat.rec (fun _ => AV → AV → AV → AV → AV → AHeap → Kont → Bool) (fun _ _ _ _ _ _ _ => false) (fun _ ih x2 x3 x65 x66 x67 h K => b172_48 call n (fun x2 x3 x65 x66 x67 h => ih x2 x3 x65 x66 x67 h K) x2 x3 x65 x66 x67 h K)
noncomputable def p172_44 (call : CallFn) (n : Nat) (x1 x2 x3 : AV) (h : AHeap) (K : Kont) : Bool :=
  fadrK 7 x1 fun v70 => loadK h v70 fun v71 => lenK v71 fun v72 => l172_48 call n n x2 x3 v71 v72 (.int .i64 0) h K
noncomputable def b172_31 (call : CallFn) (n : Nat) (B31 : F6) (x1 x2 x3 x46 x47 x48 : AV) (h : AHeap) (K : Kont) : Bool :=
  lssK x48 x47 fun v52 => condK v52 (iadrK h 9 x46 x48 fun v53 => loadGK h 9 v53 fun v54 => allocK h [.str [], .int .i64 0, .str [], .int .i64 0, .bool false, .int .i64 0, .str [], .nilSlc, .nilSlc] 9 fun v55 h => storeNK h 9 v55 v54 fun h => fadrK 18 x3 fun v57 => loadK h v57 fun v58 => fadrK 0 v55 fun v59 => loadK h v59 fun v60 => fadrK 1 v55 fun v61 => loadGK h 8 v61 fun v62 => call (.func 231) [v62] h <| pz K fun v63 h => loadK h v57 <| sameK v58 <| loadK h v59 <| sameK v60 <| buildK [.str [], .int .i64 0, .str [], .int .i64 0, .bool false, .int .i64 0, .str [], .nilSlc, .nilSlc] [(0, 1, v60), (1, 8, v63)] fun v64 => optPK (bsliceV h 1 9 [.str [], .int .i64 0, .str [], .int .i64 0, .bool false, .int .i64 0, .str [], .nilSlc, .nilSlc] [(0, v64)]) fun v65 h => loadK h v57 <| sameK v58 <| loadK h v59 <| sameK v60 <| loadGK h 8 v61 <| sameK v62 <| optPK (appendA h 9 128 v58 v65) fun v66 h => fadrK 18 x3 fun v67 => storeK h v67 v66 fun h => addK x48 (.int .i64 1) fun v69 => B31 x1 x2 x3 x46 x47 v69 h) (p172_44 call n x1 x2 x3 h K)
noncomputable def l172_31 (call : CallFn) (n : Nat) : Nat → AV → AV → AV → AV → AV → AV → AHeap → Kont → Bool :=
  @Nat.rec (fun _ => AV → AV → AV → AV → AV → AV → AHeap → Kont → Bool) (fun _ _ _ _ _ _ _ _ => false) (fun _ ih x1 x2 x3 x46 x47 x48 h K => b172_31 call n (fun x1 x2 x3 x46 x47 x48 h => ih x1 x2 x3 x46 x47 x48 h K) x1 x2 x3 x46 x47 x48 h K)
noncomputable def p172_27 (call : CallFn) (n : Nat) (x1 x2 x3 : AV) (h : AHeap) (K : Kont) : Bool :=
  fadrK 18 x1 fun v49 => loadK h v49 fun v50 => lenK v50 fun v51 => l172_31 call n n x1 x2 x3 v50 v51 (.int .i64 0) h K
noncomputable def b172_14 (call : CallFn) (n : Nat) (B14 : F6) (x1 x2 x3 x31 x32 x33 : AV) (h : AHeap) (K : Kont) : Bool :=
  lssK x33 x32 fun v35 => condK v35 (iadrK h 8 x31 x33 fun v36 => loadGK h 8 v36 fun v37 => allocK h [.int .i64 0, .str [], .int .i64 0, .bool false, .int .i64 0, .str [], .nilSlc, .nilSlc] 8 fun v38 h => storeNK h 8 v38 v37 fun h => fadrK 4 x3 fun v40 => loadK h v40 fun v41 => loadGK h 8 v38 fun v42 => call (.func 231) [v42] h <| pz K fun v43 h => loadK h v40 <| sameK v41 <| optPK (bsliceV h 1 8 [.int .i64 0, .str [], .int .i64 0, .bool false, .int .i64 0, .str [], .nilSlc, .nilSlc] [(0, v43)]) fun v44 h => loadK h v40 <| sameK v41 <| loadGK h 8 v38 <| sameK v42 <| optPK (appendA h 8 112 v41 v44) fun v45 h => fadrK 4 x3 fun v46 => storeK h v46 v45 fun h => addK x33 (.int .i64 1) fun v48 => B14 x1 x2 x3 x31 x32 v48 h) (p172_27 call n x1 x2 x3 h K)
noncomputable def l172_14 (call : CallFn) (n : Nat) : Nat → AV → AV → AV → AV → AV → AV → AHeap → Kont → Bool :=
  @Nat.rec (fun _ => AV → AV → AV → AV → AV → AV → AHeap → Kont → Bool) (fun _ _ _ _ _ _ _ _ => false) (fun _ ih x1 x2 x3 x31 x32 x33 h K => b172_14 call n (fun x1 x2 x3 x31 x32 x33 h => ih x1 x2 x3 x31 x32 x33 h K) x1 x2 x3 x31 x32 x33 h K)
noncomputable def s172 (call : CallFn) (n : Nat) (x0 : AV) (h : AHeap) (K : Kont) : Bool :=
  optPK (boxA h 19 x0) fun v1 h => allocK h [.int .i64 0, .str [], .str [], .nilSlc, .nilSlc, .nilSlc, .nilSlc, .nilSlc, .int .i64 0, .str [], .int .i64 0, .bool false, .int .i64 0, .str [], .nilSlc, .nilSlc, .str [], .str [], .nilSlc] 19 fun v2 h => loadGK h 19 v1 fun v3 => allocK h [.int .i64 0, .str [], .str [], .nilSlc, .nilSlc, .nilSlc, .nilSlc, .nilSlc, .int .i64 0, .str [], .int .i64 0, .bool false, .int .i64 0, .str [], .nilSlc, .nilSlc, .str [], .str [], .nilSlc] 19 fun v4 h => storeNK h 19 v4 v3 fun h => fadrK 3 v1 fun v6 => loadK h v6 fun v7 => fadrK 8 v1 fun v8 => loadGK h 8 v8 fun v9 => call (.func 230) [v7] h <| pz K fun v10 h => loadGK h 8 v8 <| sameK v9 <| fadrK 3 v4 fun v11 => call (.func 231) [v9] h <| pz K fun v12 h => storeK h v11 v10 fun h => fadrK 8 v4 fun v14 => storeNK h 8 v14 v12 fun h => fadrK 4 v4 fun v16 => storeK h v16 .nilSlc fun h => fadrK 18 v4 fun v18 => storeK h v18 .nilSlc fun h => fadrK 7 v4 fun v20 => storeK h v20 .nilSlc fun h => fadrK 5 v1 fun v22 => loadK h v22 fun v23 => fadrK 6 v1 fun v24 => loadK h v24 fun v25 => call (.func 89) [v23] h <| pz K fun v26 h => loadK h v24 <| sameK v25 <| fadrK 5 v4 fun v27 => call (.func 89) [v25] h <| pz K fun v28 h => storeK h v27 v26 fun h => fadrK 6 v4 fun v30 => storeK h v30 v28 fun h => fadrK 4 v1 fun v32 => loadK h v32 fun v33 => lenK v33 fun v34 => l172_14 call n n v1 v2 v4 v33 v34 (.int .i64 0) h K

/-! ### 174 cmp.isNaN[int] -/
noncomputable def s174 (call : CallFn) (n : Nat) (x0 : AV) (h : AHeap) (K : Kont) : Bool :=
  neqK x0 x0 fun v1 => K v1 h

/-! ### 175 slices.CompareFunc[[]proctor/api.Elem,[]proctor/api.Elem,proctor/api.Elem,proctor/api.Elem] -/
noncomputable def p175_37 (call : CallFn) (n : Nat) (x0 x1 : AV) (h : AHeap) (K : Kont) : Bool :=
  lenK x0 fun v18 => lenK x1 fun v19 => lssK v18 v19 fun v20 => condK v20 (K (.int .i64 (-1)) h) (K (.int .i64 0) h)
noncomputable def b175_6 (call : CallFn) (n : Nat) (B6 : F6) (x0 x1 x2 x11 x12 x13 : AV) (h : AHeap) (K : Kont) : Bool :=
  lssK x13 x12 fun v2 => condK v2 (iadrK h 3 x11 x13 fun v3 => loadGK h 3 v3 fun v4 => allocK h [.int .i64 0, .int .i64 0, .nilSlc] 3 fun v5 h => storeNK h 3 v5 v4 fun h => lenK x1 fun v7 => geqK x13 v7 fun v8 => condK v8 (K (.int .i64 1) h) (iadrK h 3 x1 x13 fun v9 => loadGK h 3 v9 fun v10 => allocK h [.int .i64 0, .int .i64 0, .nilSlc] 3 fun v11 h => storeNK h 3 v11 v10 fun h => loadGK h 3 v5 fun v13 => loadGK h 3 v11 fun v14 => callV call x2 [v13, v14] h <| pz K fun v15 h => neqK v15 (.int .i64 0) fun v16 => condK v16 (K v15 h) (addK x13 (.int .i64 1) fun v17 => B6 x0 x1 x2 x11 x12 v17 h))) (p175_37 call n x0 x1 h K)
noncomputable def l175_6 (call : CallFn) (n : Nat) : Nat → AV → AV → AV → AV → AV → AV → AHeap → Kont → Bool :=
  @Nat.rec (fun _ => AV → AV → AV → AV → AV → AV → AHeap → Kont → Bool) (fun _ _ _ _ _ _ _ _ => false) (fun _ ih x0 x1 x2 x11 x12 x13 h K => b175_6 call n (fun x0 x1 x2 x11 x12 x13 h => ih x0 x1 x2 x11 x12 x13 h K) x0 x1 x2 x11 x12 x13 h K)
noncomputable def s175 (call : CallFn) (n : Nat) (x0 x1 x2 : AV) (h : AHeap) (K : Kont) : Bool :=
  lenK x0 fun v1 => l175_6 call n n x0 x1 x2 x0 v1 (.int .i64 0) h K

/-! ### 176 proctor/match.Order$1 -/
noncomputable def s176 (call : CallFn) (n : Nat) (x0 x1 : AV) (h : AHeap) (K : Kont) : Bool :=
  optPK (boxA h 3 x0) fun v1 h => optPK (boxA h 3 x1) fun v2 h => fadrK 1 v2 fun v3 => loadK h v3 fun v4 => fadrK 1 v1 fun v5 => loadK h v5 fun v6 => fadrK 0 v1 fun v7 => loadK h v7 fun v8 => fadrK 0 v2 fun v9 => loadK h v9 fun v10 => fadrK 2 v1 fun v11 => loadK h v11 fun v12 => fadrK 2 v2 fun v13 => loadK h v13 fun v14 => call (.func 96) [v4, v6] h <| pz K fun v15 h => loadK h v7 <| sameK v8 <| loadK h v9 <| sameK v10 <| loadK h v11 <| sameK v12 <| loadK h v13 <| sameK v14 <| call (.func 96) [v8, v10] h <| pz K fun v16 h => loadK h v11 <| sameK v12 <| loadK h v13 <| sameK v14 <| call (.func 177) [v12, v14] h <| pz K fun v17 h => optPK (bsliceV h 3 1 [.int .i64 0] [(0, v15), (1, v16), (2, v17)]) fun v18 h => loadK h v3 <| sameK v4 <| loadK h v5 <| sameK v6 <| loadK h v7 <| sameK v8 <| loadK h v9 <| sameK v10 <| loadK h v11 <| sameK v12 <| loadK h v13 <| sameK v14 <| call (.func 95) [v18] h <| pz (goneQ [v18] K) fun v19 h => K v19 h

/-! ### 177 proctor/match.vals -/
noncomputable def s177 (call : CallFn) (n : Nat) (x0 x1 : AV) (h : AHeap) (K : Kont) : Bool :=
  call (.func 234) [x0, x1, (.fn (.func 235) [] [])] h <| pz K fun v1 h => K v1 h

/-! ### 184 (*proctor/lex.lexer).all$1 -/
noncomputable def p184_27001 (call : CallFn) (n : Nat) (B1 : F2) (x0 x1 x49 : AV) (h : AHeap) (K : Kont) : Bool :=
  notK x49 fun v47 => condK v47 (K (.tup []) h) (B1 x0 x1 h)
noncomputable def p184_13001 (call : CallFn) (n : Nat) (B1 : F2) (x0 x1 x19 : AV) (h : AHeap) (K : Kont) : Bool :=
  extK 0 x19 fun v15 => extK 1 x19 fun v16 => allocK h [.int .i64 0, .str [], .int .i64 0, .int .i64 0] 4 fun v17 h => storeNK h 4 v17 v15 fun h => eqlK v16 (.int .i64 0) fun v19 => condK v19 (loadK h x1 fun v20 => nilckK v20 fun v21 => fadrK 2 v21 fun v22 => storeK h v22 (.bool true) fun h => K (.tup []) h) (loadK h x1 fun v24 => nilckK v24 fun v25 => fadrK 1 v25 fun v26 => loadK h v26 fun v27 => loadK h x1 fun v28 => nilckK v28 fun v29 => fadrK 1 v29 fun v30 => loadK h v30 fun v31 => addK v31 v16 fun v32 => fadrK 2 v17 fun v33 => storeK h v33 v27 fun h => loadK h x1 <| sameK v28 <| loadK h v30 <| sameK v31 <| fadrK 3 v17 fun v35 => storeK h v35 v32 fun h => loadK h x1 fun v37 => nilckK v37 fun v38 => fadrK 1 v38 fun v39 => loadK h v39 fun v40 => addK v40 v16 fun v41 => nilckK v37 fun v42 => fadrK 1 v42 fun v43 => storeK h v43 v41 fun h => loadGK h 4 v17 fun v45 => callV call x0 [v45] h <| pz K fun v46 h => p184_27001 call n B1 x0 x1 v46 h K)
noncomputable def b184_1 (call : CallFn) (n : Nat) (B1 : F2) (x0 x1 : AV) (h : AHeap) (K : Kont) : Bool :=
  loadK h x1 fun v1 => call (.func 185) [v1] h <| pz K fun v2 h => loadK h x1 fun v3 => nilckK v3 fun v4 => fadrK 1 v4 fun v5 => loadK h v5 fun v6 => loadK h x1 fun v7 => nilckK v7 fun v8 => fadrK 0 v8 fun v9 => loadK h v9 fun v10 => lenSK v10 fun v11 => geqK v6 v11 fun v12 => condK v12 (K (.tup []) h) (loadK h x1 fun v13 => call (.func 186) [v13] h <| pz K fun v14 h => p184_13001 call n B1 x0 x1 v14 h K)
noncomputable def l184_1 (call : CallFn) (n : Nat) : Nat → AV → AV → AHeap → Kont → Bool :=
  @Nat.rec (fun _ => AV → AV → AHeap → Kont → Bool) (fun _ _ _ _ => false) (fun _ ih x0 x1 h K => b184_1 call n (fun x0 x1 h => ih x0 x1 h K) x0 x1 h K)
noncomputable def s184 (call : CallFn) (n : Nat) (x0 x1 : AV) (h : AHeap) (K : Kont) : Bool :=
  l184_1 call n n x0 x1 h K

/-! ### 185 (*proctor/lex.lexer).blank -/
noncomputable def p185_49 (call : CallFn) (n : Nat) (B0 : F1) (x0 x3 : AV) (h : AHeap) (K : Kont) : Bool :=
  nilckK x0 fun v41 => fadrK 1 v41 fun v42 => loadK h v42 fun v43 => addK v43 x3 fun v44 => nilckK x0 fun v45 => fadrK 1 v45 fun v46 => storeK h v46 v44 fun h => B0 x0 h
noncomputable def p185_40001 (call : CallFn) (n : Nat) (B0 : F1) (x0 x31 x33 : AV) (h : AHeap) (K : Kont) : Bool :=
  gK x31 true (eqlK x33 (.int .u8 47)) fun v22 => pickK x31 v22 (.bool false) fun v23 => condK v23 (nilckK x0 fun v24 => fadrK 0 v24 fun v25 => loadK h v25 fun v26 => nilckK x0 fun v27 => fadrK 1 v27 fun v28 => loadK h v28 fun v29 => slsK v26 (some v29) none fun v30 => call (.func 238) [v30, (.int .u8 10)] h <| pz K fun v31 h => lssK v31 (.int .i64 0) fun v32 => condK v32 (nilckK x0 fun v33 => fadrK 0 v33 fun v34 => loadK h v34 fun v35 => lenSK v35 fun v36 => nilckK x0 fun v37 => fadrK 1 v37 fun v38 => loadK h v38 fun v39 => subK v36 v39 fun v40 => p185_49 call n B0 x0 v40 h K) (p185_49 call n B0 x0 v31 h K)) (K (.tup []) h)
noncomputable def j185_0 (call : CallFn) (n : Nat) (B0 : F1) (x0 : AV) (h : AHeap) (K : Kont) : Bool :=
  call (.func 237) [x0, (.int .i64 0)] h <| pz K fun v1 h => eqlK v1 (.int .u8 32) fun v2 => gK v2 false (optK (some v1)) fun v3 => gK v2 false (eqlK v3 (.int .u8 9)) fun v4 => pickK v2 (.bool true) v4 fun v5 => gK v5 false (optK (some v1)) fun v6 => gK v5 false (eqlK v6 (.int .u8 13)) fun v7 => pickK v5 (.bool true) v7 fun v8 => gK v8 false (optK (some v1)) fun v9 => gK v8 false (eqlK v9 (.int .u8 10)) fun v10 => pickK v8 (.bool true) v10 fun v11 => condK v11 (nilckK x0 fun v12 => fadrK 1 v12 fun v13 => loadK h v13 fun v14 => addK v14 (.int .i64 1) fun v15 => nilckK x0 fun v16 => fadrK 1 v16 fun v17 => storeK h v17 v15 fun h => B0 x0 h) (eqlK v1 (.int .u8 47) fun v19 => gK v19 true (optK (some x0)) fun v20 => gP v19 true (fun k => call (.func 237) [v20, (.int .i64 1)] h (pz K k)) h fun v21 h => p185_40001 call n B0 x0 v19 v21 h K)
noncomputable def g185_0 (call : CallFn) (n : Nat) : Nat → AV → AHeap → Kont → Bool :=
  @Nat.rec (fun _ => AV → AHeap → Kont → Bool) (fun _ _ _ => false) (fun _ ih x0 h K => j185_0 call n (fun x0 h => ih x0 h K) x0 h K)
noncomputable def p185_23 (call : CallFn) (n : Nat) (B0 : F1) (x0 x3 : AV) (h : AHeap) (K : Kont) : Bool :=
  nilckK x0 fun v88 => fadrK 1 v88 fun v89 => loadK h v89 fun v90 => addK v90 x3 fun v91 => nilckK x0 fun v92 => fadrK 1 v92 fun v93 => storeK h v93 v91 fun h => B0 x0 h
noncomputable def p185_14001 (call : CallFn) (n : Nat) (B0 : F1) (x0 x31 x33 : AV) (h : AHeap) (K : Kont) : Bool :=
  gK x31 true (eqlK x33 (.int .u8 47)) fun v69 => pickK x31 v69 (.bool false) fun v70 => condK v70 (nilckK x0 fun v71 => fadrK 0 v71 fun v72 => loadK h v72 fun v73 => nilckK x0 fun v74 => fadrK 1 v74 fun v75 => loadK h v75 fun v76 => slsK v73 (some v76) none fun v77 => call (.func 238) [v77, (.int .u8 10)] h <| pz K fun v78 h => lssK v78 (.int .i64 0) fun v79 => condK v79 (nilckK x0 fun v80 => fadrK 0 v80 fun v81 => loadK h v81 fun v82 => lenSK v82 fun v83 => nilckK x0 fun v84 => fadrK 1 v84 fun v85 => loadK h v85 fun v86 => subK v83 v86 fun v87 => p185_23 call n B0 x0 v87 h K) (p185_23 call n B0 x0 v78 h K)) (K (.tup []) h)
noncomputable def f185_0 (call : CallFn) (n : Nat) (B0 : F1) (x0 : AV) (h : AHeap) (K : Kont) : Bool :=
  call (.func 237) [x0, (.int .i64 0)] h <| pz K fun v48 h => eqlK v48 (.int .u8 32) fun v49 => gK v49 false (optK (some v48)) fun v50 => gK v49 false (eqlK v50 (.int .u8 9)) fun v51 => pickK v49 (.bool true) v51 fun v52 => gK v52 false (optK (some v48)) fun v53 => gK v52 false (eqlK v53 (.int .u8 13)) fun v54 => pickK v52 (.bool true) v54 fun v55 => gK v55 false (optK (some v48)) fun v56 => gK v55 false (eqlK v56 (.int .u8 10)) fun v57 => pickK v55 (.bool true) v57 fun v58 => condK v58 (nilckK x0 fun v59 => fadrK 1 v59 fun v60 => loadK h v60 fun v61 => addK v61 (.int .i64 1) fun v62 => nilckK x0 fun v63 => fadrK 1 v63 fun v64 => storeK h v64 v62 fun h => B0 x0 h) (eqlK v48 (.int .u8 47) fun v66 => gK v66 true (optK (some x0)) fun v67 => gP v66 true (fun k => call (.func 237) [v67, (.int .i64 1)] h (pz K k)) h fun v68 h => p185_14001 call n B0 x0 v66 v68 h K)
noncomputable def s185 (call : CallFn) (n : Nat) (x0 : AV) (h : AHeap) (K : Kont) : Bool :=
  f185_0 call n (pF1 (pC1 (g185_0 call n n) K)) x0 h K

/-! ### 186 (*proctor/lex.lexer).next -/
noncomputable def p186_15001 (call : CallFn) (n : Nat) (x2 x3 x18 : AV) (h : AHeap) (K : Kont) : Bool :=
  buildK [.int .i64 0, .str [], .int .i64 0, .int .i64 0] [(0, 1, (.int .i64 0)), (1, 1, x18)] fun v10 => storeNK h 4 x2 v10 fun h => optR (resV h [(x2, some (true, 4)), (x3, none)]) h K
noncomputable def p186_27001 (call : CallFn) (n : Nat) (x2 x3 x30 : AV) (h : AHeap) (K : Kont) : Bool :=
  buildK [.int .i64 0, .str [], .int .i64 0, .int .i64 0] [(0, 1, (.int .i64 1)), (1, 1, x30)] fun v17 => addK x3 (.int .i64 1) fun v18 => storeNK h 4 x2 v17 fun h => optR (resV h [(x2, some (true, 4)), (v18, none)]) h K
noncomputable def p186_39001 (call : CallFn) (n : Nat) (x2 x3 x42 : AV) (h : AHeap) (K : Kont) : Bool :=
  buildK [.int .i64 0, .str [], .int .i64 0, .int .i64 0] [(0, 1, (.int .i64 2)), (1, 1, x42)] fun v26 => storeNK h 4 x2 v26 fun h => optR (resV h [(x2, some (true, 4)), (x3, none)]) h K
noncomputable def p186_45001 (call : CallFn) (n : Nat) (x2 x50 : AV) (h : AHeap) (K : Kont) : Bool :=
  extK 0 x50 fun v31 => extK 1 x50 fun v32 => buildK [.int .i64 0, .str [], .int .i64 0, .int .i64 0] [(0, 1, (.int .i64 3)), (1, 1, v31)] fun v33 => storeNK h 4 x2 v33 fun h => optR (resV h [(x2, some (true, 4)), (v32, none)]) h K
noncomputable def p186_53001 (call : CallFn) (n : Nat) (x2 x3 x60 : AV) (h : AHeap) (K : Kont) : Bool :=
  buildK [.int .i64 0, .str [], .int .i64 0, .int .i64 0] [(0, 1, (.int .i64 4)), (1, 1, x60)] fun v38 => storeNK h 4 x2 v38 fun h => optR (resV h [(x2, some (true, 4)), (x3, none)]) h K
noncomputable def s186 (call : CallFn) (n : Nat) (x0 : AV) (h : AHeap) (K : Kont) : Bool :=
  boxK h x0 fun v1 h => allocK h [.int .i64 0, .str [], .int .i64 0, .int .i64 0] 4 fun v2 h => optK (some (.fn (.func 239) [] [v1])) fun v3 => loadK h v1 fun v4 => call (.func 237) [v4, (.int .i64 0)] h <| pz K fun v5 h => call (.func 240) [v5] h <| pz K fun v6 h => condK v6 (loadK h v1 fun v7 => call (.func 241) [v7, (.int .i64 0)] h <| pz K fun v8 h => callV call v3 [(.int .i64 0), v8] h <| pz K fun v9 h => p186_15001 call n v2 v8 v9 h K) (eqlK v5 (.int .u8 36) fun v12 => condK v12 (loadK h v1 fun v13 => call (.func 241) [v13, (.int .i64 1)] h <| pz K fun v14 h => gtrK v14 (.int .i64 0) fun v15 => condK v15 (callV call v3 [(.int .i64 1), v14] h <| pz K fun v16 h => p186_27001 call n v2 v14 v16 h K) (loadGK h 4 v2 fun v20 => storeNK h 4 v2 v20 fun h => optR (resV h [(v2, some (true, 4)), ((.int .i64 0), none)]) h K)) (call (.func 242) [v5] h <| pz K fun v22 h => condK v22 (loadK h v1 fun v23 => call (.func 243) [v23, (.int .i64 0), (.fn (.func 242) [] [])] h <| pz K fun v24 h => callV call v3 [(.int .i64 0), v24] h <| pz K fun v25 h => p186_39001 call n v2 v24 v25 h K) (eqlK v5 (.int .u8 34) fun v28 => condK v28 (loadK h v1 fun v29 => call (.func 244) [v29] h <| pz K fun v30 h => p186_45001 call n v2 v30 h K) (loadK h v1 fun v35 => call (.func 245) [v35] h <| pz K fun v36 h => callV call v3 [(.int .i64 0), v36] h <| pz K fun v37 h => p186_53001 call n v2 v36 v37 h K))))

/-! ### 194 (*proctor/parse.parser).pattern -/
noncomputable def p194_14001 (call : CallFn) (n : Nat) (x1 x2 x3 x14 : AV) (h : AHeap) (K : Kont) : Bool :=
  fadrK 2 x3 fun v17 => storeK h v17 x14 fun h => loadK h x1 fun v19 => call (.func 67) [v19, (.str [40])] h <| pz K fun v20 h => loadK h x1 fun v21 => optK (some (.fn (.func 252) [] [x1, x3])) fun v22 => call (.func 75) [v21, (.str [41]), v22] h <| pz K fun v23 h => loadGK h 19 x3 fun v24 => storeNK h 19 x2 v24 fun h => optR (resV h [(x2, some (true, 19))]) h K
noncomputable def p194_12 (call : CallFn) (n : Nat) (x1 x2 x3 : AV) (h : AHeap) (K : Kont) : Bool :=
  loadK h x1 fun v15 => call (.func 66) [v15] h <| pz K fun v16 h => p194_14001 call n x1 x2 x3 v16 h K
noncomputable def p194_10001 (call : CallFn) (n : Nat) (x1 x2 x3 x8 : AV) (h : AHeap) (K : Kont) : Bool :=
  fadrK 1 x3 fun v10 => storeK h v10 x8 fun h => loadK h x1 fun v12 => optPK (bsliceV h 1 1 [.str []] [(0, (.str [58]))]) fun v13 h => call (.func 44) [v12, v13] h <| pz K fun v14 h => p194_12 call n x1 x2 x3 h K
noncomputable def s194 (call : CallFn) (n : Nat) (x0 : AV) (h : AHeap) (K : Kont) : Bool :=
  boxK h x0 fun v1 h => allocK h [.int .i64 0, .str [], .str [], .nilSlc, .nilSlc, .nilSlc, .nilSlc, .nilSlc, .int .i64 0, .str [], .int .i64 0, .bool false, .int .i64 0, .str [], .nilSlc, .nilSlc, .str [], .str [], .nilSlc] 19 fun v2 h => buildK [.int .i64 0, .str [], .str [], .nilSlc, .nilSlc, .nilSlc, .nilSlc, .nilSlc, .int .i64 0, .str [], .int .i64 0, .bool false, .int .i64 0, .str [], .nilSlc, .nilSlc, .str [], .str [], .nilSlc] [(0, 1, (.int .i64 1))] fun v3 => allocK h [.int .i64 0, .str [], .str [], .nilSlc, .nilSlc, .nilSlc, .nilSlc, .nilSlc, .int .i64 0, .str [], .int .i64 0, .bool false, .int .i64 0, .str [], .nilSlc, .nilSlc, .str [], .str [], .nilSlc] 19 fun v4 h => storeNK h 19 v4 v3 fun h => loadK h v1 fun v6 => call (.func 116) [v6, (.int .i64 1)] h <| pz K fun v7 h => condK v7 (loadK h v1 fun v8 => call (.func 77) [v8] h <| pz K fun v9 h => p194_10001 call n v1 v2 v4 v9 h K) (p194_12 call n v1 v2 v4 h K)

/-! ### 198 (*proctor/print.writer).class -/
noncomputable def p198_57 (call : CallFn) (n : Nat) (B16 : F4) (x0 x23 x24 x25 : AV) (h : AHeap) (K : Kont) : Bool :=
  addK x25 (.int .i64 1) fun v37 => B16 x0 x23 x24 v37 h
noncomputable def p198_50 (call : CallFn) (n : Nat) (B16 : F4) (x0 x5 x23 x24 x25 x35 x38 : AV) (h : AHeap) (K : Kont) : Bool :=
  condK x38 (optPK (bsliceV h 5 1 [.str []] [(0, (.str [97, 110, 121])), (1, (.str [98, 111, 111, 108])), (2, (.str [105, 110, 116])), (3, (.str [116, 101, 120, 116])), (4, (.str [108, 105, 115, 116]))]) fun v30 h => fadrK 1 x5 fun v31 => loadK h v31 fun v32 => iadrK h 1 v30 v32 fun v33 => loadK h v33 fun v34 => optPK (bsliceV h 1 1 [.str []] [(0, v34)]) fun v35 h => call (.func 255) [x0, v35] h <| pz K fun v36 h => p198_57 call n B16 x0 x23 x24 x25 h K) (eqlK x35 (.int .i64 5) fun v38 => condK v38 (fadrK 2 x5 fun v39 => loadK h v39 fun v40 => optPK (bsliceV h 2 1 [.str []] [(0, (.str [114, 101, 102])), (1, v40)]) fun v41 h => call (.func 255) [x0, v41] h <| pz K fun v42 h => p198_57 call n B16 x0 x23 x24 x25 h K) (buildK [] [] fun v43 => optK (mkifA 275 v43) fun v44 => pncK K v44 h))
noncomputable def p198_58 (call : CallFn) (n : Nat) (x0 : AV) (h : AHeap) (K : Kont) : Bool :=
  optPK (bsliceV h 1 1 [.str []] [(0, (.str [125]))]) fun v50 h => call (.func 255) [x0, v50] h <| pz K fun v51 h => K (.tup []) h
noncomputable def b198_16 (call : CallFn) (n : Nat) (B16 : F4) (x0 x23 x24 x25 : AV) (h : AHeap) (K : Kont) : Bool :=
  lssK x25 x24 fun v18 => condK v18 (iadrK h 3 x23 x25 fun v19 => loadGK h 3 v19 fun v20 => allocK h [.str [], .int .i64 0, .str []] 3 fun v21 h => storeNK h 3 v21 v20 fun h => fadrK 0 v21 fun v23 => loadK h v23 fun v24 => optPK (bsliceV h 2 1 [.str []] [(0, v24), (1, (.str [58]))]) fun v25 h => call (.func 255) [x0, v25] h <| pz K fun v26 h => fadrK 1 v21 fun v27 => loadK h v27 fun v28 => eqlK v28 (.int .i64 0) fun v29 => condK v29 (p198_50 call n B16 x0 v21 x23 x24 x25 v28 v29 h K) (eqlK v28 (.int .i64 1) fun v46 => condK v46 (p198_50 call n B16 x0 v21 x23 x24 x25 v28 v46 h K) (eqlK v28 (.int .i64 2) fun v47 => condK v47 (p198_50 call n B16 x0 v21 x23 x24 x25 v28 v47 h K) (eqlK v28 (.int .i64 3) fun v48 => condK v48 (p198_50 call n B16 x0 v21 x23 x24 x25 v28 v48 h K) (eqlK v28 (.int .i64 4) fun v49 => p198_50 call n B16 x0 v21 x23 x24 x25 v28 v49 h K))))) (p198_58 call n x0 h K)
noncomputable def l198_16 (call : CallFn) (n : Nat) : Nat → AV → AV → AV → AV → AHeap → Kont → Bool :=
  @Nat.rec (fun _ => AV → AV → AV → AV → AHeap → Kont → Bool) (fun _ _ _ _ _ _ => false) (fun _ ih x0 x23 x24 x25 h K => b198_16 call n (fun x0 x23 x24 x25 h => ih x0 x23 x24 x25 h K) x0 x23 x24 x25 h K)
noncomputable def p198_10 (call : CallFn) (n : Nat) (x0 x3 : AV) (h : AHeap) (K : Kont) : Bool :=
  optPK (bsliceV h 1 1 [.str []] [(0, (.str [123]))]) fun v13 h => call (.func 255) [x0, v13] h <| pz K fun v14 h => fadrK 2 x3 fun v15 => loadK h v15 fun v16 => lenK v16 fun v17 => l198_16 call n n x0 v16 v17 (.int .i64 0) h K
noncomputable def s198 (call : CallFn) (n : Nat) (x0 x1 : AV) (h : AHeap) (K : Kont) : Bool :=
  optPK (boxA h 3 x1) fun v1 h => fadrK 0 v1 fun v2 => loadK h v2 fun v3 => optPK (bsliceV h 2 1 [.str []] [(0, (.str [99, 108, 97, 115, 115])), (1, v3)]) fun v4 h => call (.func 255) [x0, v4] h <| pz K fun v5 h => fadrK 1 v1 fun v6 => loadK h v6 fun v7 => neqK v7 (.str []) fun v8 => condK v8 (fadrK 1 v1 fun v9 => loadK h v9 fun v10 => optPK (bsliceV h 2 1 [.str []] [(0, (.str [101, 120, 116, 101, 110, 100, 115])), (1, v10)]) fun v11 h => call (.func 255) [x0, v11] h <| pz K fun v12 h => p198_10 call n x0 v1 h K) (p198_10 call n x0 v1 h K)

end Go.Proofs.YtjfhlmakfgbcoaaGreatDoor
