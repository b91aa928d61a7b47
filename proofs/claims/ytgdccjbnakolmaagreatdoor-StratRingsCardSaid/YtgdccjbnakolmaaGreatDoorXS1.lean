/-
  The functions as functions of Lean (printed by wip/tools/gen2.py).
-/
import Derived.Test.YtgdccjbnakolmaaGreatDoorXS0
namespace Go.Proofs.YtgdccjbnakolmaaGreatDoor
open Go.Ab
set_option linter.unusedVariables false

/-! ### 163 proctor/check.binds -/
noncomputable def p163_98 (call : CallFn) (n : Nat) (B8 : F6) (x2 x4 x7 x17 x18 x19 : AV) (h : AHeap) (K : Kont) : Bool :=
  addK x19 (.int .i64 1) fun v27 => B8 x2 x4 x7 x17 x18 v27 h
noncomputable def b163_30 (call : CallFn) (n : Nat) (B8 : F6) (B30 : F9) (x2 x4 x7 x17 x18 x19 x32 x33 x34 : AV) (h : AHeap) (K : Kont) : Bool :=
  lssK x34 x33 fun v18 => condK v18 (iadrK h 2 x32 x34 fun v19 => loadGK h 2 v19 fun v20 => allocK h [.str [], .str []] 2 fun v21 h => storeNK h 2 v21 v20 fun h => fadrK 0 v21 fun v23 => loadK h v23 fun v24 => callV call x7 [v24] h <| pz K fun v25 h => addK x34 (.int .i64 1) fun v26 => B30 x2 x4 x7 x17 x18 x19 x32 x33 v26 h) (p163_98 call n B8 x2 x4 x7 x17 x18 x19 h K)
noncomputable def l163_30 (call : CallFn) (n : Nat) (B8 : F6) : Nat → AV → AV → AV → AV → AV → AV → AV → AV → AV → AHeap → Kont → Bool :=
  @Nat.rec (fun _ => AV → AV → AV → AV → AV → AV → AV → AV → AV → AHeap → Kont → Bool) (fun _ _ _ _ _ _ _ _ _ _ _ => false) (fun _ ih x2 x4 x7 x17 x18 x19 x32 x33 x34 h K => b163_30 call n B8 (fun x2 x4 x7 x17 x18 x19 x32 x33 x34 h => ih x2 x4 x7 x17 x18 x19 x32 x33 x34 h K) x2 x4 x7 x17 x18 x19 x32 x33 x34 h K)
noncomputable def p163_73 (call : CallFn) (n : Nat) (B8 : F6) (B57 : F9) (x2 x4 x7 x17 x18 x19 x53 x54 x55 : AV) (h : AHeap) (K : Kont) : Bool :=
  addK x55 (.int .i64 1) fun v48 => B57 x2 x4 x7 x17 x18 x19 x53 x54 v48 h
noncomputable def b163_57 (call : CallFn) (n : Nat) (B8 : F6) (B57 : F9) (x2 x4 x7 x17 x18 x19 x53 x54 x55 : AV) (h : AHeap) (K : Kont) : Bool :=
  lssK x55 x54 fun v36 => condK v36 (iadrK h 9 x53 x55 fun v37 => loadGK h 9 v37 fun v38 => allocK h [.str [], .int .i64 0, .str [], .int .i64 0, .bool false, .int .i64 0, .str [], .nilSlc, .nilSlc] 9 fun v39 h => storeNK h 9 v39 v38 fun h => fadrK 1 v39 fun v41 => fadrK 0 v41 fun v42 => loadK h v42 fun v43 => eqlK v43 (.int .i64 0) fun v44 => condK v44 (fadrK 0 v39 fun v45 => loadK h v45 fun v46 => callV call x7 [v46] h <| pz K fun v47 h => p163_73 call n B8 B57 x2 x4 x7 x17 x18 x19 x53 x54 x55 h K) (p163_73 call n B8 B57 x2 x4 x7 x17 x18 x19 x53 x54 x55 h K)) (p163_98 call n B8 x2 x4 x7 x17 x18 x19 h K)
noncomputable def l163_57 (call : CallFn) (n : Nat) (B8 : F6) : Nat → AV → AV → AV → AV → AV → AV → AV → AV → AV → AHeap → Kont → Bool :=
  @Nat.rec (fun _ => AV → AV → AV → AV → AV → AV → AV → AV → AV → AHeap → Kont → Bool) (fun _ _ _ _ _ _ _ _ _ _ _ => false) (fun _ ih x2 x4 x7 x17 x18 x19 x53 x54 x55 h K => b163_57 call n B8 (fun x2 x4 x7 x17 x18 x19 x53 x54 x55 h => ih x2 x4 x7 x17 x18 x19 x53 x54 x55 h K) x2 x4 x7 x17 x18 x19 x53 x54 x55 h K)
noncomputable def b163_83 (call : CallFn) (n : Nat) (B8 : F6) (B83 : F9) (x2 x4 x7 x17 x18 x19 x75 x76 x77 : AV) (h : AHeap) (K : Kont) : Bool :=
  lssK x77 x76 fun v55 => condK v55 (iadrK h 1 x75 x77 fun v56 => loadK h v56 fun v57 => callV call x7 [v57] h <| pz K fun v58 h => addK x77 (.int .i64 1) fun v59 => B83 x2 x4 x7 x17 x18 x19 x75 x76 v59 h) (p163_98 call n B8 x2 x4 x7 x17 x18 x19 h K)
noncomputable def l163_83 (call : CallFn) (n : Nat) (B8 : F6) : Nat → AV → AV → AV → AV → AV → AV → AV → AV → AV → AHeap → Kont → Bool :=
  @Nat.rec (fun _ => AV → AV → AV → AV → AV → AV → AV → AV → AV → AHeap → Kont → Bool) (fun _ _ _ _ _ _ _ _ _ _ _ => false) (fun _ ih x2 x4 x7 x17 x18 x19 x75 x76 x77 h K => b163_83 call n B8 (fun x2 x4 x7 x17 x18 x19 x75 x76 x77 h => ih x2 x4 x7 x17 x18 x19 x75 x76 x77 h K) x2 x4 x7 x17 x18 x19 x75 x76 x77 h K)
noncomputable def p163_82001 (call : CallFn) (n : Nat) (B8 : F6) (x2 x4 x7 x17 x18 x19 x75 : AV) (h : AHeap) (K : Kont) : Bool :=
  lenK x75 fun v54 => l163_83 call n B8 n x2 x4 x7 x17 x18 x19 x75 v54 (.int .i64 0) h K
noncomputable def p163_49 (call : CallFn) (n : Nat) (B8 : F6) (x2 x4 x7 x9 x17 x18 x19 x24 x43 : AV) (h : AHeap) (K : Kont) : Bool :=
  condK x43 (fadrK 1 x9 fun v29 => loadK h v29 fun v30 => callV call x7 [v30] h <| pz K fun v31 h => p163_98 call n B8 x2 x4 x7 x17 x18 x19 h K) (eqlK x24 (.int .i64 9) fun v32 => condK v32 (fadrK 18 x9 fun v33 => loadK h v33 fun v34 => lenK v34 fun v35 => l163_57 call n B8 n x2 x4 x7 x17 x18 x19 v34 v35 (.int .i64 0) h K) (eqlK x24 (.int .i64 5) fun v49 => condK v49 (lssK x2 (.int .i64 30) fun v50 => condK v50 (loadGK h 19 x9 fun v51 => addK x2 (.int .i64 1) fun v52 => call (.func 216) [v51, v52] h <| pz K fun v53 h => p163_82001 call n B8 x2 x4 x7 x17 x18 x19 v53 h K) (p163_98 call n B8 x2 x4 x7 x17 x18 x19 h K)) (p163_98 call n B8 x2 x4 x7 x17 x18 x19 h K)))
noncomputable def p163_15 (call : CallFn) (n : Nat) (B8 : F6) (x2 x4 x7 x17 x18 x19 : AV) (h : AHeap) (K : Kont) : Bool :=
  iadrK h 19 x17 x19 fun v5 => loadGK h 19 v5 fun v6 => allocK h [.int .i64 0, .str [], .str [], .nilSlc, .nilSlc, .nilSlc, .nilSlc, .nilSlc, .int .i64 0, .str [], .int .i64 0, .bool false, .int .i64 0, .str [], .nilSlc, .nilSlc, .str [], .str [], .nilSlc] 19 fun v7 h => storeNK h 19 v7 v6 fun h => fadrK 0 v7 fun v9 => loadK h v9 fun v10 => eqlK v10 (.int .i64 1) fun v11 => condK v11 (fadrK 1 v7 fun v12 => loadK h v12 fun v13 => callV call x7 [v13] h <| pz K fun v14 h => fadrK 3 v7 fun v15 => loadK h v15 fun v16 => lenK v16 fun v17 => l163_30 call n B8 n x2 x4 x7 x17 x18 x19 v16 v17 (.int .i64 0) h K) (eqlK v10 (.int .i64 6) fun v28 => condK v28 (p163_49 call n B8 x2 x4 x7 v7 x17 x18 x19 v10 v28 h K) (eqlK v10 (.int .i64 7) fun v60 => p163_49 call n B8 x2 x4 x7 v7 x17 x18 x19 v10 v60 h K))
noncomputable def p163_99 (call : CallFn) (n : Nat) (x4 : AV) (h : AHeap) (K : Kont) : Bool :=
  loadK h x4 fun v61 => K v61 h
noncomputable def b163_8 (call : CallFn) (n : Nat) (B8 : F6) (x2 x4 x7 x17 x18 x19 : AV) (h : AHeap) (K : Kont) : Bool :=
  lssK x19 x18 fun v4 => condK v4 (p163_15 call n B8 x2 x4 x7 x17 x18 x19 h K) (p163_99 call n x4 h K)
noncomputable def l163_8 (call : CallFn) (n : Nat) : Nat → AV → AV → AV → AV → AV → AV → AHeap → Kont → Bool :=
  @Nat.rec (fun _ => AV → AV → AV → AV → AV → AV → AHeap → Kont → Bool) (fun _ _ _ _ _ _ _ _ => false) (fun _ ih x2 x4 x7 x17 x18 x19 h K => b163_8 call n (fun x2 x4 x7 x17 x18 x19 h => ih x2 x4 x7 x17 x18 x19 h K) x2 x4 x7 x17 x18 x19 h K)
noncomputable def s163 (call : CallFn) (n : Nat) (x0 x1 x2 : AV) (h : AHeap) (K : Kont) : Bool :=
  boxK h x1 fun v1 h => optK (some (.fn (.func 215) [] [v1])) fun v2 => lenK x0 fun v3 => l163_8 call n n x2 v1 v2 x0 v3 (.int .i64 0) h K

/-! ### 167 slices.IndexFunc[[]proctor/check.step,proctor/check.step] -/
noncomputable def b167_6 (call : CallFn) (n : Nat) (B6 : F4) (x0 x1 x7 x8 : AV) (h : AHeap) (K : Kont) : Bool :=
  lssK x8 x7 fun v2 => condK v2 (iadrK h 3 x0 x8 fun v3 => loadGK h 3 v3 fun v4 => callV call x1 [v4] h <| pz K fun v5 h => condK v5 (K x8 h) (addK x8 (.int .i64 1) fun v6 => B6 x0 x1 x7 v6 h)) (K (.int .i64 (-1)) h)
noncomputable def l167_6 (call : CallFn) (n : Nat) : Nat → AV → AV → AV → AV → AHeap → Kont → Bool :=
  @Nat.rec (fun _ => AV → AV → AV → AV → AHeap → Kont → Bool) (fun _ _ _ _ _ _ => false) (fun _ ih x0 x1 x7 x8 h K => b167_6 call n (fun x0 x1 x7 x8 h => ih x0 x1 x7 x8 h K) x0 x1 x7 x8 h K)
noncomputable def s167 (call : CallFn) (n : Nat) (x0 x1 : AV) (h : AHeap) (K : Kont) : Bool :=
  lenK x0 fun v1 => l167_6 call n n x0 x1 v1 (.int .i64 0) h K

/-! ### 168 proctor/check.choices -/
noncomputable def p168_11002 (call : CallFn) (n : Nat) (x18 : AV) (h : AHeap) (K : Kont) : Bool :=
  optPK (bsliceV h 1 1 [.int .i64 0] [(0, x18)]) fun v9 h => K v9 h
noncomputable def p168_11001 (call : CallFn) (n : Nat) (x17 : AV) (h : AHeap) (K : Kont) : Bool :=
  call (.func 227) [x17] h <| pz K fun v8 h => p168_11002 call n v8 h K
noncomputable def p168_23001 (call : CallFn) (n : Nat) (x29 : AV) (h : AHeap) (K : Kont) : Bool :=
  addK (.int .i64 1) x29 fun v17 => optPK (bsliceV h 1 1 [.int .i64 0] [(0, v17)]) fun v18 h => K v18 h
noncomputable def p168_27001 (call : CallFn) (n : Nat) (x33 : AV) (h : AHeap) (K : Kont) : Bool :=
  optPK (bsliceV h 1 1 [.int .i64 0] [(0, x33)]) fun v20 h => K v20 h
noncomputable def p168_50 (call : CallFn) (n : Nat) (x4 : AV) (h : AHeap) (K : Kont) : Bool :=
  optPK (bsliceV h 1 1 [.int .i64 0] [(0, x4)]) fun v37 h => K v37 h
noncomputable def b168_37 (call : CallFn) (n : Nat) (B37 : F5) (x4 x5 x43 x44 x45 : AV) (h : AHeap) (K : Kont) : Bool :=
  lssK x45 x44 fun v30 => condK v30 (iadrK h 1 x43 x45 fun v31 => loadK h v31 fun v32 => addK (.int .i64 1) v32 fun v33 => addK v33 x5 fun v34 => addK x4 v34 fun v35 => addK x45 (.int .i64 1) fun v36 => B37 v35 x5 x43 x44 v36 h) (p168_50 call n x4 h K)
noncomputable def l168_37 (call : CallFn) (n : Nat) : Nat → AV → AV → AV → AV → AV → AHeap → Kont → Bool :=
  @Nat.rec (fun _ => AV → AV → AV → AV → AV → AHeap → Kont → Bool) (fun _ _ _ _ _ _ _ => false) (fun _ ih x4 x5 x43 x44 x45 h K => b168_37 call n (fun x4 x5 x43 x44 x45 h => ih x4 x5 x43 x44 x45 h K) x4 x5 x43 x44 x45 h K)
noncomputable def p168_36001 (call : CallFn) (n : Nat) (x4 x5 x43 : AV) (h : AHeap) (K : Kont) : Bool :=
  lenK x43 fun v29 => l168_37 call n n x4 x5 x43 v29 (.int .i64 0) h K
noncomputable def p168_33001 (call : CallFn) (n : Nat) (x1 x39 : AV) (h : AHeap) (K : Kont) : Bool :=
  call (.func 227) [x39] h <| pz K fun v25 h => fadrK 5 x1 fun v26 => loadK h v26 fun v27 => call (.func 115) [v27] h <| pz K fun v28 h => p168_36001 call n (.int .i64 0) v25 v28 h K
noncomputable def p168_58002 (call : CallFn) (n : Nat) (x63 : AV) (h : AHeap) (K : Kont) : Bool :=
  optPK (bsliceV h 1 1 [.int .i64 0] [(0, x63)]) fun v43 h => K v43 h
noncomputable def p168_58001 (call : CallFn) (n : Nat) (x62 : AV) (h : AHeap) (K : Kont) : Bool :=
  call (.func 227) [x62] h <| pz K fun v42 h => p168_58002 call n v42 h K
noncomputable def p168_80001 (call : CallFn) (n : Nat) (B68 : F4) (x68 x69 x70 x74 x76 : AV) (h : AHeap) (K : Kont) : Bool :=
  appK h 1 8 x74 x76 fun v52 h => addK x70 (.int .i64 1) fun v53 => B68 v52 x68 x69 v53 h
noncomputable def p168_81 (call : CallFn) (n : Nat) (x8 : AV) (h : AHeap) (K : Kont) : Bool :=
  lenK x8 fun v54 => leqK v54 (.int .i64 512) fun v55 => call (.func 156) [v55] h <| pz K fun v56 h => K x8 h
noncomputable def b168_68 (call : CallFn) (n : Nat) (B68 : F4) (x8 x68 x69 x70 : AV) (h : AHeap) (K : Kont) : Bool :=
  lssK x70 x69 fun v48 => condK v48 (iadrK h 1 x68 x70 fun v49 => loadK h v49 fun v50 => call (.func 115) [v50] h <| pz K fun v51 h => p168_80001 call n B68 x68 x69 x70 x8 v51 h K) (p168_81 call n x8 h K)
noncomputable def l168_68 (call : CallFn) (n : Nat) : Nat → AV → AV → AV → AV → AHeap → Kont → Bool :=
  @Nat.rec (fun _ => AV → AV → AV → AV → AHeap → Kont → Bool) (fun _ _ _ _ _ _ => false) (fun _ ih x8 x68 x69 x70 h K => b168_68 call n (fun x8 x68 x69 x70 h => ih x8 x68 x69 x70 h K) x8 x68 x69 x70 h K)
noncomputable def p168_87 (call : CallFn) (n : Nat) (h : AHeap) (K : Kont) : Bool :=
  optPK (bsliceV h 1 1 [.int .i64 0] [(0, (.int .i64 1))]) fun v57 h => K v57 h
noncomputable def s168 (call : CallFn) (n : Nat) (x0 : AV) (h : AHeap) (K : Kont) : Bool :=
  optPK (boxA h (none) 19 x0) fun v1 h => fadrK 0 v1 fun v2 => loadK h v2 fun v3 => eqlK v3 (.int .i64 2) fun v4 => condK v4 (fadrK 5 v1 fun v5 => loadK h v5 fun v6 => call (.func 115) [v6] h <| pz K fun v7 h => p168_11001 call n v7 h K) (eqlK v3 (.int .i64 3) fun v10 => condK v10 (fadrK 5 v1 fun v11 => loadK h v11 fun v12 => call (.func 115) [v12] h <| pz K fun v13 h => lenK v13 fun v14 => gtrK v14 (.int .i64 1) fun v15 => condK v15 (call (.func 227) [v13] h <| pz K fun v16 h => p168_23001 call n v16 h K) (call (.func 227) [v13] h <| pz K fun v19 h => p168_27001 call n v19 h K)) (eqlK v3 (.int .i64 4) fun v21 => condK v21 (fadrK 6 v1 fun v22 => loadK h v22 fun v23 => call (.func 115) [v23] h <| pz K fun v24 h => p168_33001 call n v1 v24 h K) (eqlK v3 (.int .i64 7) fun v38 => condK v38 (fadrK 5 v1 fun v39 => loadK h v39 fun v40 => call (.func 115) [v40] h <| pz K fun v41 h => p168_58001 call n v41 h K) (eqlK v3 (.int .i64 5) fun v44 => condK v44 (fadrK 7 v1 fun v45 => loadK h v45 fun v46 => lenK v46 fun v47 => l168_68 call n n .nilSlc v46 v47 (.int .i64 0) h K) (p168_87 call n  h K)))))

/-! ### 174 proctor/class.key -/
noncomputable def p174_156 (call : CallFn) (n : Nat) (x4 : AV) (h : AHeap) (K : Kont) : Bool :=
  condK x4 (K (.bool true) h) (K (.bool false) h)
set_option maxRecDepth 100000 in
noncomputable def s174 (call : CallFn) (n : Nat) (x0 : AV) (h : AHeap) (K : Kont) : Bool :=
  eqlK x0 (.str [99, 108, 97, 115, 115]) fun v1 => condK v1 (p174_156 call n v1 h K) (eqlK x0 (.str [101, 120, 116, 101, 110, 100, 115]) fun v2 => condK v2 (p174_156 call n v2 h K) (eqlK x0 (.str [114, 117, 108, 101]) fun v3 => condK v3 (p174_156 call n v3 h K) (eqlK x0 (.str [113, 117, 101, 114, 121]) fun v4 => condK v4 (p174_156 call n v4 h K) (eqlK x0 (.str [119, 104, 101, 110]) fun v5 => condK v5 (p174_156 call n v5 h K) (eqlK x0 (.str [116, 104, 101, 110]) fun v6 => condK v6 (p174_156 call n v6 h K) (eqlK x0 (.str [101, 110, 100]) fun v7 => condK v7 (p174_156 call n v7 h K) (eqlK x0 (.str [115, 97, 108, 105, 101, 110, 99, 101]) fun v8 => condK v8 (p174_156 call n v8 h K) (eqlK x0 (.str [103, 114, 111, 117, 112]) fun v9 => condK v9 (p174_156 call n v9 h K) (eqlK x0 (.str [102, 108, 111, 119]) fun v10 => condK v10 (p174_156 call n v10 h K) (eqlK x0 (.str [110, 111, 108, 111, 111, 112]) fun v11 => condK v11 (p174_156 call n v11 h K) (eqlK x0 (.str [108, 111, 99, 107]) fun v12 => condK v12 (p174_156 call n v12 h K) (eqlK x0 (.str [110, 111, 116]) fun v13 => condK v13 (p174_156 call n v13 h K) (eqlK x0 (.str [101, 120, 105, 115, 116, 115]) fun v14 => condK v14 (p174_156 call n v14 h K) (eqlK x0 (.str [102, 111, 114, 97, 108, 108]) fun v15 => condK v15 (p174_156 call n v15 h K) (eqlK x0 (.str [111, 114]) fun v16 => condK v16 (p174_156 call n v16 h K) (eqlK x0 (.str [102, 114, 111, 109]) fun v17 => condK v17 (p174_156 call n v17 h K) (eqlK x0 (.str [101, 118, 97, 108]) fun v18 => condK v18 (p174_156 call n v18 h K) (eqlK x0 (.str [97, 99, 99]) fun v19 => condK v19 (p174_156 call n v19 h K) (eqlK x0 (.str [111, 118, 101, 114]) fun v20 => condK v20 (p174_156 call n v20 h K) (eqlK x0 (.str [105, 110, 115, 101, 114, 116]) fun v21 => condK v21 (p174_156 call n v21 h K) (eqlK x0 (.str [108, 111, 103, 105, 99, 97, 108]) fun v22 => condK v22 (p174_156 call n v22 h K) (eqlK x0 (.str [117, 112, 100, 97, 116, 101]) fun v23 => condK v23 (p174_156 call n v23 h K) (eqlK x0 (.str [100, 101, 108, 101, 116, 101]) fun v24 => condK v24 (p174_156 call n v24 h K) (eqlK x0 (.str [102, 111, 99, 117, 115]) fun v25 => condK v25 (p174_156 call n v25 h K) (eqlK x0 (.str [112, 114, 105, 110, 116]) fun v26 => condK v26 (p174_156 call n v26 h K) (eqlK x0 (.str [104, 97, 108, 116]) fun v27 => condK v27 (p174_156 call n v27 h K) (eqlK x0 (.str [116, 114, 117, 101]) fun v28 => condK v28 (p174_156 call n v28 h K) (eqlK x0 (.str [102, 97, 108, 115, 101]) fun v29 => condK v29 (p174_156 call n v29 h K) (eqlK x0 (.str [110, 117, 108, 108]) fun v30 => condK v30 (p174_156 call n v30 h K) (eqlK x0 (.str [115, 105, 122, 101]) fun v31 => condK v31 (p174_156 call n v31 h K) (eqlK x0 (.str [104, 97, 115]) fun v32 => condK v32 (p174_156 call n v32 h K) (eqlK x0 (.str [105, 110, 116]) fun v33 => condK v33 (p174_156 call n v33 h K) (eqlK x0 (.str [98, 111, 111, 108]) fun v34 => condK v34 (p174_156 call n v34 h K) (eqlK x0 (.str [116, 101, 120, 116]) fun v35 => condK v35 (p174_156 call n v35 h K) (eqlK x0 (.str [108, 105, 115, 116]) fun v36 => condK v36 (p174_156 call n v36 h K) (eqlK x0 (.str [97, 110, 121]) fun v37 => condK v37 (p174_156 call n v37 h K) (eqlK x0 (.str [114, 101, 102]) fun v38 => p174_156 call n v38 h K)))))))))))))))))))))))))))))))))))))

/-! ### 176 (*proctor/lex.lexer).peek -/
noncomputable def s176 (call : CallFn) (n : Nat) (x0 x1 : AV) (h : AHeap) (K : Kont) : Bool :=
  nilckK x0 fun v1 => fadrK 1 v1 fun v2 => loadK h v2 fun v3 => addK v3 x1 fun v4 => nilckK x0 fun v5 => fadrK 0 v5 fun v6 => loadK h v6 fun v7 => lenSK v7 fun v8 => geqK v4 v8 fun v9 => condK v9 (K (.int .u8 0) h) (nilckK x0 fun v10 => fadrK 0 v10 fun v11 => loadK h v11 fun v12 => nilckK x0 fun v13 => fadrK 1 v13 fun v14 => loadK h v14 fun v15 => addK v15 x1 fun v16 => idxsK v12 v16 fun v17 => K v17 h)

/-! ### 177 strings.IndexByte -/
noncomputable def s177 (call : CallFn) (n : Nat) (x0 x1 : AV) (h : AHeap) (K : Kont) : Bool :=
  call (.func 229) [x0, x1] h <| pz K fun v1 h => K v1 h

/-! ### 178 (*proctor/lex.lexer).next$1 -/
noncomputable def s178 (call : CallFn) (n : Nat) (x0 x1 x2 : AV) (h : AHeap) (K : Kont) : Bool :=
  loadK h x2 fun v1 => nilckK v1 fun v2 => fadrK 0 v2 fun v3 => loadK h v3 fun v4 => loadK h x2 fun v5 => nilckK v5 fun v6 => fadrK 1 v6 fun v7 => loadK h v7 fun v8 => addK v8 x0 fun v9 => loadK h x2 fun v10 => nilckK v10 fun v11 => fadrK 1 v11 fun v12 => loadK h v12 fun v13 => addK v13 x0 fun v14 => addK v14 x1 fun v15 => slsK v4 (some v9) (some v15) fun v16 => K v16 h

/-! ### 179 proctor/lex.letter -/
noncomputable def s179 (call : CallFn) (n : Nat) (x0 : AV) (h : AHeap) (K : Kont) : Bool :=
  geqK x0 (.int .u8 97) fun v1 => gK v1 true (optK (some x0)) fun v2 => gK v1 true (leqK v2 (.int .u8 122)) fun v3 => pickK v1 v3 (.bool false) fun v4 => gK v4 false (optK (some x0)) fun v5 => gK v4 false (geqK v5 (.int .u8 65)) fun v6 => gK v4 false (optK (some v6)) fun v7 => gK v7 true (optK (some x0)) fun v8 => gK v7 true (leqK v8 (.int .u8 90)) fun v9 => gK v4 false (pickK v7 v9 (.bool false)) fun v10 => pickK v4 (.bool true) v10 fun v11 => K v11 h

/-! ### 180 (*proctor/lex.lexer).word -/
noncomputable def p180_5002 (call : CallFn) (n : Nat) (x0 x1 x8 : AV) (h : AHeap) (K : Kont) : Bool :=
  notK x8 fun v3 => condK v3 (K (.int .i64 0) h) (call (.func 182) [x0, x1, (.fn (.func 230) [] [])] h <| pz K fun v4 h => K v4 h)
noncomputable def p180_5001 (call : CallFn) (n : Nat) (x0 x1 x7 : AV) (h : AHeap) (K : Kont) : Bool :=
  call (.func 179) [x7] h <| pz K fun v2 h => p180_5002 call n x0 x1 v2 h K
noncomputable def s180 (call : CallFn) (n : Nat) (x0 x1 : AV) (h : AHeap) (K : Kont) : Bool :=
  call (.func 176) [x0, x1] h <| pz K fun v1 h => p180_5001 call n x0 x1 v1 h K

/-! ### 181 proctor/lex.digit -/
noncomputable def s181 (call : CallFn) (n : Nat) (x0 : AV) (h : AHeap) (K : Kont) : Bool :=
  geqK x0 (.int .u8 48) fun v1 => gK v1 true (optK (some x0)) fun v2 => gK v1 true (leqK v2 (.int .u8 57)) fun v3 => pickK v1 v3 (.bool false) fun v4 => K v4 h

/-! ### 182 (*proctor/lex.lexer).run -/
noncomputable def b182_6 (call : CallFn) (n : Nat) (B6 : F4) (x0 x1 x2 x7 : AV) (h : AHeap) (K : Kont) : Bool :=
  nilckK x0 fun v1 => fadrK 1 v1 fun v2 => loadK h v2 fun v3 => addK v3 x1 fun v4 => addK v4 x7 fun v5 => nilckK x0 fun v6 => fadrK 0 v6 fun v7 => loadK h v7 fun v8 => lenSK v8 fun v9 => lssK v5 v9 fun v10 => gK v10 true (optK (some x2)) fun v11 => gK v10 true (optK (some x0)) fun v12 => gK v10 true (nilckK v12) fun v13 => gK v10 true (fadrK 0 v13) fun v14 => gK v10 true (loadK h v14) fun v15 => gK v10 true (optK (some x0)) fun v16 => gK v10 true (nilckK v16) fun v17 => gK v10 true (fadrK 1 v17) fun v18 => gK v10 true (loadK h v18) fun v19 => gK v10 true (optK (some x1)) fun v20 => gK v10 true (addK v19 v20) fun v21 => gK v10 true (optK (some x7)) fun v22 => gK v10 true (addK v21 v22) fun v23 => gK v10 true (idxsK v15 v23) fun v24 => gP v10 true (fun k => callV call v11 [v24] h (pz K k)) h fun v25 h => pickK v10 v25 (.bool false) fun v26 => condK v26 (addK x7 (.int .i64 1) fun v27 => B6 x0 x1 x2 v27 h) (K x7 h)
noncomputable def l182_6 (call : CallFn) (n : Nat) : Nat → AV → AV → AV → AV → AHeap → Kont → Bool :=
  @Nat.rec (fun _ => AV → AV → AV → AV → AHeap → Kont → Bool) (fun _ _ _ _ _ _ => false) (fun _ ih x0 x1 x2 x7 h K => b182_6 call n (fun x0 x1 x2 x7 h => ih x0 x1 x2 x7 h K) x0 x1 x2 x7 h K)
noncomputable def s182 (call : CallFn) (n : Nat) (x0 x1 x2 : AV) (h : AHeap) (K : Kont) : Bool :=
  l182_6 call n n x0 x1 x2 (.int .i64 0) h K

/-! ### 183 (*proctor/lex.lexer).quoted -/
noncomputable def p183_25001 (call : CallFn) (n : Nat) (B8 : F3) (x5 x30 : AV) (h : AHeap) (K : Kont) : Bool :=
  addK x5 (.int .i64 1) fun v14 => K (.tup [x30, v14]) h
noncomputable def p183_49 (call : CallFn) (n : Nat) (B8 : F3) (x0 x4 x5 : AV) (h : AHeap) (K : Kont) : Bool :=
  addK x5 (.int .i64 1) fun v22 => B8 x0 x4 v22 h
noncomputable def p183_33001 (call : CallFn) (n : Nat) (B8 : F3) (x0 x4 x5 x40 : AV) (h : AHeap) (K : Kont) : Bool :=
  call (.func 177) [(.str [34, 92, 110, 116]), x40] h <| pz K fun v18 h => lssK v18 (.int .i64 0) fun v19 => condK v19 (K (.tup [(.str []), (.int .i64 0)]) h) (idxsK (.str [34, 92, 10, 9]) v18 fun v20 => call (.func 232) [x4, v20] h <| pz K fun v21 h => p183_49 call n B8 x0 x4 x5 h K)
noncomputable def b183_8 (call : CallFn) (n : Nat) (B8 : F3) (x0 x4 x5 : AV) (h : AHeap) (K : Kont) : Bool :=
  nilckK x0 fun v2 => fadrK 1 v2 fun v3 => loadK h v3 fun v4 => addK v4 x5 fun v5 => nilckK x0 fun v6 => fadrK 0 v6 fun v7 => loadK h v7 fun v8 => lenSK v8 fun v9 => lssK v5 v9 fun v10 => condK v10 (call (.func 176) [x0, x5] h <| pz K fun v11 h => eqlK v11 (.int .u8 34) fun v12 => condK v12 (call (.func 231) [x4] h <| pz K fun v13 h => p183_25001 call n B8 x5 v13 h K) (eqlK v11 (.int .u8 92) fun v15 => condK v15 (addK x5 (.int .i64 1) fun v16 => call (.func 176) [x0, v16] h <| pz K fun v17 h => p183_33001 call n B8 x0 x4 v16 v17 h K) (lssK v11 (.int .u8 32) fun v23 => condK v23 (K (.tup [(.str []), (.int .i64 0)]) h) (call (.func 232) [x4, v11] h <| pz K fun v24 h => p183_49 call n B8 x0 x4 x5 h K)))) (K (.tup [(.str []), (.int .i64 0)]) h)
noncomputable def l183_8 (call : CallFn) (n : Nat) : Nat → AV → AV → AV → AHeap → Kont → Bool :=
  @Nat.rec (fun _ => AV → AV → AV → AHeap → Kont → Bool) (fun _ _ _ _ _ => false) (fun _ ih x0 x4 x5 h K => b183_8 call n (fun x0 x4 x5 h => ih x0 x4 x5 h K) x0 x4 x5 h K)
noncomputable def s183 (call : CallFn) (n : Nat) (x0 : AV) (h : AHeap) (K : Kont) : Bool :=
  optPK (allotV h 301 [.nilPtr, .nilSlc]) fun v1 h => l183_8 call n n x0 v1 (.int .i64 1) h K

/-! ### 184 (*proctor/lex.lexer).mark -/
noncomputable def p184_25 (call : CallFn) (n : Nat) (x0 : AV) (h : AHeap) (K : Kont) : Bool :=
  nilckK x0 fun v15 => fadrK 0 v15 fun v16 => loadK h v16 fun v17 => nilckK x0 fun v18 => fadrK 1 v18 fun v19 => loadK h v19 fun v20 => idxsK v17 v20 fun v21 => call (.func 177) [(.str [40, 41, 91, 93, 123, 125, 44, 46, 58, 59, 63, 60, 62, 61, 43, 45, 42, 47, 37, 33]), v21] h <| pz K fun v22 h => geqK v22 (.int .i64 0) fun v23 => condK v23 (K (.int .i64 1) h) (K (.int .i64 0) h)
noncomputable def b184_6 (call : CallFn) (n : Nat) (B6 : F4) (x0 x5 x6 x7 : AV) (h : AHeap) (K : Kont) : Bool :=
  lssK x7 x6 fun v3 => condK v3 (iadrK h 1 x5 x7 fun v4 => loadK h v4 fun v5 => nilckK x0 fun v6 => fadrK 0 v6 fun v7 => loadK h v7 fun v8 => nilckK x0 fun v9 => fadrK 1 v9 fun v10 => loadK h v10 fun v11 => slsK v8 (some v11) none fun v12 => call (.func 233) [v12, v5] h <| pz K fun v13 h => condK v13 (K (.int .i64 2) h) (addK x7 (.int .i64 1) fun v14 => B6 x0 x5 x6 v14 h)) (p184_25 call n x0 h K)
noncomputable def l184_6 (call : CallFn) (n : Nat) : Nat → AV → AV → AV → AV → AHeap → Kont → Bool :=
  @Nat.rec (fun _ => AV → AV → AV → AV → AHeap → Kont → Bool) (fun _ _ _ _ _ _ => false) (fun _ ih x0 x5 x6 x7 h K => b184_6 call n (fun x0 x5 x6 x7 h => ih x0 x5 x6 x7 h K) x0 x5 x6 x7 h K)
noncomputable def s184 (call : CallFn) (n : Nat) (x0 : AV) (h : AHeap) (K : Kont) : Bool :=
  optPK (bsliceV h 6 1 [.str []] [(0, (.str [61, 61])), (1, (.str [33, 61])), (2, (.str [60, 61])), (3, (.str [62, 61])), (4, (.str [38, 38])), (5, (.str [124, 124]))]) fun v1 h => lenK v1 fun v2 => l184_6 call n n x0 v1 v2 (.int .i64 0) h K

/-! ### 190 (*proctor/parse.parser).ask$1 -/
noncomputable def p190_2002 (call : CallFn) (n : Nat) (x0 x1 x4 x6 : AV) (h : AHeap) (K : Kont) : Bool :=
  pickK x4 x6 (.bool false) fun v5 => condK v5 (fadrK 18 x1 fun v6 => loadK h v6 fun v7 => loadK h x0 fun v8 => call (.func 50) [v8] h <| pz K fun v9 h => loadK h v6 <| sameK v7 <| buildK [.str [], .int .i64 0, .str [], .int .i64 0, .bool false, .int .i64 0, .str [], .nilSlc, .nilSlc] [(0, 1, v9)] fun v10 => optPK (bsliceV h 1 9 [.str [], .int .i64 0, .str [], .int .i64 0, .bool false, .int .i64 0, .str [], .nilSlc, .nilSlc] [(0, v10)]) fun v11 h => loadK h v6 <| sameK v7 <| loadK h x0 <| sameK v8 <| appK h 9 128 v7 v11 fun v12 h => fadrK 18 x1 fun v13 => storeK h v13 v12 fun h => loadK h x0 fun v15 => optPK (bsliceV h 1 1 [.str []] [(0, (.str [63]))]) fun v16 h => call (.func 21) [v15, v16] h <| pz K fun v17 h => K (.tup []) h) (fadrK 18 x1 fun v18 => loadK h v18 fun v19 => loadK h x0 fun v20 => call (.func 76) [v20] h <| pz K fun v21 h => loadK h v18 <| sameK v19 <| buildK [.str [], .int .i64 0, .str [], .int .i64 0, .bool false, .int .i64 0, .str [], .nilSlc, .nilSlc] [(1, 8, v21)] fun v22 => optPK (bsliceV h 1 9 [.str [], .int .i64 0, .str [], .int .i64 0, .bool false, .int .i64 0, .str [], .nilSlc, .nilSlc] [(0, v22)]) fun v23 h => loadK h v18 <| sameK v19 <| loadK h x0 <| sameK v20 <| appK h 9 128 v19 v23 fun v24 h => fadrK 18 x1 fun v25 => storeK h v25 v24 fun h => K (.tup []) h)
noncomputable def p190_2001 (call : CallFn) (n : Nat) (x0 x1 x3 : AV) (h : AHeap) (K : Kont) : Bool :=
  gK x3 true (loadK h x0) fun v3 => gP x3 true (fun k => call (.func 38) [v3, (.int .i64 1), (.str [63])] h (pz K k)) h fun v4 h => p190_2002 call n x0 x1 x3 v4 h K
noncomputable def s190 (call : CallFn) (n : Nat) (x0 x1 : AV) (h : AHeap) (K : Kont) : Bool :=
  loadK h x0 fun v1 => call (.func 72) [v1, (.int .i64 1)] h <| pz K fun v2 h => p190_2001 call n x0 x1 v2 h K

/-! ### 191 (*proctor/parse.parser).pattern$1 -/
set_option maxRecDepth 100000 in
noncomputable def p191_2002 (call : CallFn) (n : Nat) (x0 x1 x5 x7 : AV) (h : AHeap) (K : Kont) : Bool :=
  pickK x5 x7 (.bool false) fun v5 => condK v5 (loadK h x0 fun v6 => call (.func 50) [v6] h <| pz K fun v7 h => loadK h x0 fun v8 => optPK (bsliceV h 1 1 [.str []] [(0, (.str [58]))]) fun v9 h => call (.func 21) [v8, v9] h <| pz K fun v10 h => fadrK 3 x1 fun v11 => loadK h v11 fun v12 => loadK h x0 fun v13 => call (.func 39) [v13] h <| pz K fun v14 h => loadK h v11 <| sameK v12 <| buildK [.str [], .str []] [(0, 1, v7), (1, 1, v14)] fun v15 => optPK (bsliceV h 1 2 [.str [], .str []] [(0, v15)]) fun v16 h => loadK h v11 <| sameK v12 <| loadK h x0 <| sameK v13 <| appK h 2 32 v12 v16 fun v17 h => fadrK 3 x1 fun v18 => storeK h v18 v17 fun h => K (.tup []) h) (fadrK 4 x1 fun v20 => loadK h v20 fun v21 => loadK h x0 fun v22 => lenK v21 fun v23 => optPK (bsliceV h 1 8 [.int .i64 0, .str [], .int .i64 0, .bool false, .int .i64 0, .str [], .nilSlc, .nilSlc] [(0, (.agg [.int .i64 0, .str [], .int .i64 0, .bool false, .int .i64 0, .str [], .nilSlc, .nilSlc]))]) fun v24 h => loadK h v20 <| sameK v21 <| loadK h x0 <| sameK v22 <| lenK v21 <| sameK v23 <| call (.func 76) [v22] h <| pz (goneQ [v24] K) fun v25 h => loadK h v20 <| sameK v21 <| lenK v21 <| sameK v23 <| appK h 8 112 v21 v24 fun v26 h => iadrK h 8 v26 v23 fun v27 => fadrK 4 x1 fun v28 => optPK (bif apartP v27 v28 then unit (storeA h 8 v27 v25) else none) fun _ h => storeK h v28 v26 fun h => iadrK h 8 v26 v23 <| sameK v27 <| K (.tup []) h)
noncomputable def p191_2001 (call : CallFn) (n : Nat) (x0 x1 x4 : AV) (h : AHeap) (K : Kont) : Bool :=
  gK x4 true (loadK h x0) fun v3 => gP x4 true (fun k => call (.func 38) [v3, (.int .i64 1), (.str [58])] h (pz K k)) h fun v4 h => p191_2002 call n x0 x1 x4 v4 h K
noncomputable def s191 (call : CallFn) (n : Nat) (x0 x1 : AV) (h : AHeap) (K : Kont) : Bool :=
  loadK h x0 fun v1 => call (.func 72) [v1, (.int .i64 1)] h <| pz K fun v2 h => p191_2001 call n x0 x1 v2 h K

/-! ### 192 (*proctor/parse.parser).sign -/
noncomputable def p192_18001 (call : CallFn) (n : Nat) (x2 x19 : AV) (h : AHeap) (K : Kont) : Bool :=
  storeNK h 9 x2 x19 fun h => optR (resV h [(x2, some (true, 9))]) h K
noncomputable def p192_28001 (call : CallFn) (n : Nat) (x2 x37 : AV) (h : AHeap) (K : Kont) : Bool :=
  storeNK h 9 x2 x37 fun h => optR (resV h [(x2, some (true, 9))]) h K
noncomputable def p192_24001 (call : CallFn) (n : Nat) (x0 x2 x3 x4 x24 : AV) (h : AHeap) (K : Kont) : Bool :=
  allocK h [.int .i64 0, .str [], .int .i64 0, .bool false, .int .i64 0, .str [], .nilSlc, .nilSlc, .int .i64 0] 9 fun v14 h => storeNK h 9 v14 x24 fun h => nilckK x0 fun v16 => fadrK 3 v16 fun v17 => loadK h v17 fun v18 => subK v18 (.int .i64 1) fun v19 => nilckK x0 fun v20 => fadrK 3 v20 fun v21 => storeK h v21 v19 fun h => buildK [.int .i64 0, .str [], .int .i64 0, .bool false, .int .i64 0, .str [], .nilSlc, .nilSlc] [(0, 1, x4)] fun v23 => loadGK h 9 v14 fun v24 => optPK (bsliceV h 1 9 [.int .i64 0, .str [], .int .i64 0, .bool false, .int .i64 0, .str [], .nilSlc, .nilSlc, .int .i64 0] [(0, v24)]) fun v25 h => call (.func 193) [x3, v23, v25] h <| pz K fun v26 h => p192_28001 call n x2 v26 h K
noncomputable def p192_15002 (call : CallFn) (n : Nat) (x0 x2 x3 x4 x13 x15 : AV) (h : AHeap) (K : Kont) : Bool :=
  gK x13 true (notK x15) fun v8 => pickK x13 v8 (.bool false) fun v9 => condK v9 (call (.func 239) [x0] h <| pz K fun v10 h => p192_18001 call n x2 v10 h K) (call (.func 71) [x0, x3] h <| pz K fun v12 h => call (.func 192) [x0] h <| pz K fun v13 h => p192_24001 call n x0 x2 x3 x4 v13 h K)
noncomputable def p192_15001 (call : CallFn) (n : Nat) (x0 x2 x3 x4 x11 : AV) (h : AHeap) (K : Kont) : Bool :=
  notK x11 fun v5 => gK v5 true (optK (some x0)) fun v6 => gP v5 true (fun k => call (.func 18) [v6, (.str [33])] h (pz K k)) h fun v7 h => p192_15002 call n x0 x2 x3 x4 v5 v7 h K
noncomputable def p192_12 (call : CallFn) (n : Nat) (x0 x2 x3 x4 : AV) (h : AHeap) (K : Kont) : Bool :=
  call (.func 18) [x0, (.str [45])] h <| pz K fun v4 h => p192_15001 call n x0 x2 x3 x4 v4 h K
noncomputable def s192 (call : CallFn) (n : Nat) (x0 : AV) (h : AHeap) (K : Kont) : Bool :=
  allocK h [.int .i64 0, .str [], .int .i64 0, .bool false, .int .i64 0, .str [], .nilSlc, .nilSlc, .int .i64 0] 9 fun v1 h => call (.func 67) [x0] h <| pz K fun v2 h => call (.func 38) [x0, (.int .i64 0), (.str [33])] h <| pz K fun v3 h => condK v3 (p192_12 call n x0 v1 v2 (.int .i64 7) h K) (p192_12 call n x0 v1 v2 (.int .i64 6) h K)

/-! ### 193 proctor/parse.made -/
noncomputable def p193_29 (call : CallFn) (n : Nat) (x6 x7 : AV) (h : AHeap) (K : Kont) : Bool :=
  loadGK h 9 x7 fun v36 => storeNK h 9 x6 v36 fun h => optR (resV h [(x6, some (true, 9))]) h K
noncomputable def p193_23 (call : CallFn) (n : Nat) (x0 x6 x7 : AV) (h : AHeap) (K : Kont) : Bool :=
  fadrK 8 x7 fun v32 => loadK h v32 fun v33 => gtrK v33 (.int .i64 30) fun v34 => condK v34 (call (.func 66) [x0] h <| pz K fun v35 h => p193_29 call n x6 x7 h K) (p193_29 call n x6 x7 h K)
noncomputable def b193_8 (call : CallFn) (n : Nat) (B8 : F6) (x0 x6 x7 x12 x13 x14 : AV) (h : AHeap) (K : Kont) : Bool :=
  lssK x14 x13 fun v8 => condK v8 (iadrK h 9 x12 x14 fun v9 => loadGK h 9 v9 fun v10 => allocK h [.int .i64 0, .str [], .int .i64 0, .bool false, .int .i64 0, .str [], .nilSlc, .nilSlc, .int .i64 0] 9 fun v11 h => storeNK h 9 v11 v10 fun h => fadrK 0 x7 fun v13 => fadrK 7 v13 fun v14 => loadK h v14 fun v15 => fadrK 0 v11 fun v16 => loadGK h 8 v16 fun v17 => optPK (bsliceV h 1 8 [.int .i64 0, .str [], .int .i64 0, .bool false, .int .i64 0, .str [], .nilSlc, .nilSlc] [(0, v17)]) fun v18 h => appK h 8 112 v15 v18 fun v19 h => fadrK 0 x7 fun v20 => fadrK 7 v20 fun v21 => storeK h v21 v19 fun h => fadrK 8 x7 fun v23 => loadK h v23 fun v24 => fadrK 8 v11 fun v25 => loadK h v25 fun v26 => addK v26 (.int .i64 1) fun v27 => optK (mmV true [v24, v27]) fun v28 => fadrK 8 x7 fun v29 => storeK h v29 v28 fun h => addK x14 (.int .i64 1) fun v31 => B8 x0 x6 x7 x12 x13 v31 h) (p193_23 call n x0 x6 x7 h K)
noncomputable def l193_8 (call : CallFn) (n : Nat) : Nat → AV → AV → AV → AV → AV → AV → AHeap → Kont → Bool :=
  @Nat.rec (fun _ => AV → AV → AV → AV → AV → AV → AHeap → Kont → Bool) (fun _ _ _ _ _ _ _ _ => false) (fun _ ih x0 x6 x7 x12 x13 x14 h K => b193_8 call n (fun x0 x6 x7 x12 x13 x14 h => ih x0 x6 x7 x12 x13 x14 h K) x0 x6 x7 x12 x13 x14 h K)
noncomputable def s193 (call : CallFn) (n : Nat) (x0 x1 x2 : AV) (h : AHeap) (K : Kont) : Bool :=
  optPK (boxA h (none) 8 x1) fun v1 h => allocK h [.int .i64 0, .str [], .int .i64 0, .bool false, .int .i64 0, .str [], .nilSlc, .nilSlc, .int .i64 0] 9 fun v2 h => loadGK h 8 v1 fun v3 => buildK [.int .i64 0, .str [], .int .i64 0, .bool false, .int .i64 0, .str [], .nilSlc, .nilSlc, .int .i64 0] [(0, 8, v3), (8, 1, (.int .i64 1))] fun v4 => allocK h [.int .i64 0, .str [], .int .i64 0, .bool false, .int .i64 0, .str [], .nilSlc, .nilSlc, .int .i64 0] 9 fun v5 h => storeNK h 9 v5 v4 fun h => lenK x2 fun v7 => l193_8 call n n x0 v2 v5 x2 v7 (.int .i64 0) h K

/-! ### 194 (*proctor/print.writer).put -/
noncomputable def p194_28 (call : CallFn) (n : Nat) (B3 : F4) (x0 x5 x6 x7 x8 : AV) (h : AHeap) (K : Kont) : Bool :=
  nilckK x0 fun v35 => fadrK 0 v35 fun v36 => fadrK 0 v36 fun v37 => loadK h v37 fun v38 => optPK (appbA h 5 v38 x5) fun v39 h => nilckK x0 fun v40 => fadrK 0 v40 fun v41 => fadrK 0 v41 fun v42 => storeK h v42 v39 fun h => addK x8 (.int .i64 1) fun v44 => B3 x0 x6 x7 v44 h
noncomputable def p194_22 (call : CallFn) (n : Nat) (B3 : F4) (x0 x5 x6 x7 x8 : AV) (h : AHeap) (K : Kont) : Bool :=
  nilckK x0 fun v19 => fadrK 0 v19 fun v20 => fadrK 0 v20 fun v21 => loadK h v21 fun v22 => lenK v22 fun v23 => gtrK v23 (.int .i64 0) fun v24 => condK v24 (nilckK x0 fun v25 => fadrK 0 v25 fun v26 => fadrK 0 v26 fun v27 => loadK h v27 fun v28 => optPK (bsliceV h 1 1 [.int .u8 0] [(0, (.int .u8 32))]) fun v29 h => optPK (appbA h 5 v28 v29) fun v30 h => nilckK x0 fun v31 => fadrK 0 v31 fun v32 => fadrK 0 v32 fun v33 => storeK h v33 v30 fun h => p194_28 call n B3 x0 x5 x6 x7 x8 h K) (p194_28 call n B3 x0 x5 x6 x7 x8 h K)
noncomputable def b194_3 (call : CallFn) (n : Nat) (B3 : F4) (x0 x6 x7 x8 : AV) (h : AHeap) (K : Kont) : Bool :=
  lssK x8 x7 fun v2 => condK v2 (iadrK h 1 x6 x8 fun v3 => loadK h v3 fun v4 => nilckK x0 fun v5 => fadrK 1 v5 fun v6 => loadK h v6 fun v7 => addK v7 (.int .i64 1) fun v8 => nilckK x0 fun v9 => fadrK 1 v9 fun v10 => storeK h v10 v8 fun h => nilckK x0 fun v12 => fadrK 1 v12 fun v13 => loadK h v13 fun v14 => gtrK v14 (.int .i64 4096) fun v15 => condK v15 (buildK [] [] fun v16 => optK (mkifA 216 v16) fun v17 => pncK K v17 h) (p194_22 call n B3 x0 v4 x6 x7 x8 h K)) (K (.tup []) h)
noncomputable def l194_3 (call : CallFn) (n : Nat) : Nat → AV → AV → AV → AV → AHeap → Kont → Bool :=
  @Nat.rec (fun _ => AV → AV → AV → AV → AHeap → Kont → Bool) (fun _ _ _ _ _ _ => false) (fun _ ih x0 x6 x7 x8 h K => b194_3 call n (fun x0 x6 x7 x8 h => ih x0 x6 x7 x8 h K) x0 x6 x7 x8 h K)
noncomputable def s194 (call : CallFn) (n : Nat) (x0 x1 : AV) (h : AHeap) (K : Kont) : Bool :=
  lenK x1 fun v1 => l194_3 call n n x0 x1 v1 (.int .i64 0) h K

/-! ### 195 proctor/lex.Quote -/
noncomputable def p195_30 (call : CallFn) (n : Nat) (B10 : F4) (x0 x3 x8 x9 : AV) (h : AHeap) (K : Kont) : Bool :=
  addK x9 (.int .i64 1) fun v11 => B10 x0 x3 x8 v11 h
noncomputable def p195_31 (call : CallFn) (n : Nat) (x3 : AV) (h : AHeap) (K : Kont) : Bool :=
  call (.func 232) [x3, (.int .u8 34)] h <| pz K fun v14 h => call (.func 231) [x3] h <| pz K fun v15 h => K v15 h
noncomputable def b195_10 (call : CallFn) (n : Nat) (B10 : F4) (x0 x3 x8 x9 : AV) (h : AHeap) (K : Kont) : Bool :=
  lssK x9 x8 fun v4 => condK v4 (idxsK x0 x9 fun v5 => call (.func 177) [(.str [34, 92, 10, 9]), v5] h <| pz K fun v6 h => geqK v6 (.int .i64 0) fun v7 => condK v7 (call (.func 232) [x3, (.int .u8 92)] h <| pz K fun v8 h => idxsK (.str [34, 92, 110, 116]) v6 fun v9 => call (.func 232) [x3, v9] h <| pz K fun v10 h => p195_30 call n B10 x0 x3 x8 x9 h K) (idxsK x0 x9 fun v12 => call (.func 232) [x3, v12] h <| pz K fun v13 h => p195_30 call n B10 x0 x3 x8 x9 h K)) (p195_31 call n x3 h K)
noncomputable def l195_10 (call : CallFn) (n : Nat) : Nat → AV → AV → AV → AV → AHeap → Kont → Bool :=
  @Nat.rec (fun _ => AV → AV → AV → AV → AHeap → Kont → Bool) (fun _ _ _ _ _ _ => false) (fun _ ih x0 x3 x8 x9 h K => b195_10 call n (fun x0 x3 x8 x9 h => ih x0 x3 x8 x9 h K) x0 x3 x8 x9 h K)
noncomputable def s195 (call : CallFn) (n : Nat) (x0 : AV) (h : AHeap) (K : Kont) : Bool :=
  optPK (allotV h 301 [.nilPtr, .nilSlc]) fun v1 h => call (.func 232) [v1, (.int .u8 34)] h <| pz K fun v2 h => lenSK x0 fun v3 => l195_10 call n n x0 v1 v3 (.int .i64 0) h K

/-! ### 196 proctor/print.need -/
noncomputable def s196 (call : CallFn) (n : Nat) (x0 : AV) (h : AHeap) (K : Kont) : Bool :=
  notK x0 fun v1 => condK v1 (buildK [] [] fun v2 => optK (mkifA 216 v2) fun v3 => pncK K v3 h) (K (.tup []) h)

/-! ### 197 strconv.FormatInt -/
noncomputable def s197 (call : CallFn) (n : Nat) (x0 x1 : AV) (h : AHeap) (K : Kont) : Bool :=
  call (.func 240) [x0, x1] h <| pz K fun v1 h => K v1 h

/-! ### 198 (*proctor/print.writer).conds -/
noncomputable def b198_3 (call : CallFn) (n : Nat) (B3 : F4) (x0 x6 x7 x8 : AV) (h : AHeap) (K : Kont) : Bool :=
  lssK x8 x7 fun v2 => condK v2 (iadrK h 19 x6 x8 fun v3 => loadGK h 19 v3 fun v4 => allocK h [.int .i64 0, .str [], .str [], .nilSlc, .nilSlc, .nilSlc, .nilSlc, .nilSlc, .int .i64 0, .str [], .int .i64 0, .bool false, .int .i64 0, .str [], .nilSlc, .nilSlc, .str [], .str [], .nilSlc] 19 fun v5 h => storeNK h 19 v5 v4 fun h => loadGK h 19 v5 fun v7 => call (.func 241) [x0, v7] h <| pz K fun v8 h => addK x8 (.int .i64 1) fun v9 => B3 x0 x6 x7 v9 h) (K (.tup []) h)
noncomputable def l198_3 (call : CallFn) (n : Nat) : Nat → AV → AV → AV → AV → AHeap → Kont → Bool :=
  @Nat.rec (fun _ => AV → AV → AV → AV → AHeap → Kont → Bool) (fun _ _ _ _ _ _ => false) (fun _ ih x0 x6 x7 x8 h K => b198_3 call n (fun x0 x6 x7 x8 h => ih x0 x6 x7 x8 h K) x0 x6 x7 x8 h K)
noncomputable def s198 (call : CallFn) (n : Nat) (x0 x1 : AV) (h : AHeap) (K : Kont) : Bool :=
  lenK x1 fun v1 => l198_3 call n n x0 x1 v1 (.int .i64 0) h K

/-! ### 199 (*proctor/print.writer).action -/
noncomputable def p199_43 (call : CallFn) (n : Nat) (x0 : AV) (h : AHeap) (K : Kont) : Bool :=
  optPK (bsliceV h 1 1 [.str []] [(0, (.str [59]))]) fun v17 h => call (.func 194) [x0, v17] h <| pz K fun v18 h => K (.tup []) h
noncomputable def p199_38001 (call : CallFn) (n : Nat) (x0 x55 x58 : AV) (h : AHeap) (K : Kont) : Bool :=
  optPK (bsliceV h 2 1 [.str []] [(0, (.str [102, 111, 99, 117, 115])), (1, x58)]) fun v43 h => call (.func 194) [x55, v43] h <| pz K fun v44 h => p199_43 call n x0 h K
noncomputable def p199_30 (call : CallFn) (n : Nat) (x0 x3 x5 x38 : AV) (h : AHeap) (K : Kont) : Bool :=
  condK x38 (optPK (bsliceV h 7 1 [.str []] [(4, (.str [100, 101, 108, 101, 116, 101])), (6, (.str [112, 114, 105, 110, 116]))]) fun v29 h => fadrK 0 x3 fun v30 => loadK h v30 fun v31 => iadrK h 1 v29 v31 fun v32 => loadK h v32 fun v33 => optPK (bsliceV h 1 1 [.str []] [(0, v33)]) fun v34 h => call (.func 194) [x0, v34] h <| pz K fun v35 h => fadrK 3 x3 fun v36 => loadGK h 8 v36 fun v37 => call (.func 243) [x0, v37, (.int .i64 0)] h <| pz K fun v38 h => p199_43 call n x0 h K) (eqlK x5 (.int .i64 5) fun v39 => condK v39 (fadrK 11 x3 fun v40 => loadK h v40 fun v41 => call (.func 195) [v41] h <| pz K fun v42 h => p199_38001 call n x0 x0 v42 h K) (eqlK x5 (.int .i64 7) fun v45 => condK v45 (optPK (bsliceV h 1 1 [.str []] [(0, (.str [104, 97, 108, 116]))]) fun v46 h => call (.func 194) [x0, v46] h <| pz K fun v47 h => p199_43 call n x0 h K) (buildK [] [] fun v48 => optK (mkifA 216 v48) fun v49 => pncK K v49 h)))
noncomputable def p199_12 (call : CallFn) (n : Nat) (x0 x3 x5 x8 : AV) (h : AHeap) (K : Kont) : Bool :=
  condK x8 (fadrK 0 x3 fun v5 => loadK h v5 fun v6 => fadrK 1 x3 fun v7 => loadK h v7 fun v8 => optPK (bsliceV h 3 1 [.str []] [(1, (.str [105, 110, 115, 101, 114, 116])), (2, (.str [108, 111, 103, 105, 99, 97, 108]))]) fun v9 h => loadK h v5 <| sameK v6 <| loadK h v7 <| sameK v8 <| iadrK h 1 v9 v6 fun v10 => loadK h v10 fun v11 => optPK (bsliceV h 2 1 [.str []] [(0, v11), (1, v8)]) fun v12 h => loadK h v5 <| sameK v6 <| iadrK h 1 v9 v6 <| sameK v10 <| loadK h v10 <| sameK v11 <| loadK h v7 <| sameK v8 <| call (.func 194) [x0, v12] h <| pz (goneQ [v12, v9] K) fun v13 h => fadrK 2 x3 fun v14 => loadK h v14 fun v15 => call (.func 242) [x0, v15] h <| pz K fun v16 h => p199_43 call n x0 h K) (eqlK x5 (.int .i64 3) fun v19 => condK v19 (optPK (bsliceV h 1 1 [.str []] [(0, (.str [117, 112, 100, 97, 116, 101]))]) fun v20 h => call (.func 194) [x0, v20] h <| pz K fun v21 h => fadrK 3 x3 fun v22 => loadGK h 8 v22 fun v23 => call (.func 243) [x0, v23, (.int .i64 0)] h <| pz K fun v24 h => fadrK 2 x3 fun v25 => loadK h v25 fun v26 => call (.func 242) [x0, v26] h <| pz K fun v27 h => p199_43 call n x0 h K) (eqlK x5 (.int .i64 4) fun v28 => condK v28 (p199_30 call n x0 x3 x5 v28 h K) (eqlK x5 (.int .i64 6) fun v51 => p199_30 call n x0 x3 x5 v51 h K)))
noncomputable def s199 (call : CallFn) (n : Nat) (x0 x1 : AV) (h : AHeap) (K : Kont) : Bool :=
  optPK (boxA h (none) 12 x1) fun v1 h => fadrK 0 v1 fun v2 => loadK h v2 fun v3 => eqlK v3 (.int .i64 1) fun v4 => condK v4 (p199_12 call n x0 v1 v3 v4 h K) (eqlK v3 (.int .i64 2) fun v52 => p199_12 call n x0 v1 v3 v52 h K)

/-! ### 200 proctor/print.commas[string] -/
noncomputable def p200_20 (call : CallFn) (n : Nat) (B3 : F5) (x0 x2 x7 x8 x9 x10 : AV) (h : AHeap) (K : Kont) : Bool :=
  callV call x2 [x7] h <| pz K fun v8 h => addK x10 (.int .i64 1) fun v9 => B3 x0 x2 x8 x9 v9 h
noncomputable def b200_3 (call : CallFn) (n : Nat) (B3 : F5) (x0 x2 x8 x9 x10 : AV) (h : AHeap) (K : Kont) : Bool :=
  lssK x10 x9 fun v2 => condK v2 (iadrK h 1 x8 x10 fun v3 => loadK h v3 fun v4 => gtrK x10 (.int .i64 0) fun v5 => condK v5 (optPK (bsliceV h 1 1 [.str []] [(0, (.str [44]))]) fun v6 h => call (.func 194) [x0, v6] h <| pz K fun v7 h => p200_20 call n B3 x0 x2 v4 x8 x9 x10 h K) (p200_20 call n B3 x0 x2 v4 x8 x9 x10 h K)) (K (.tup []) h)
noncomputable def l200_3 (call : CallFn) (n : Nat) : Nat → AV → AV → AV → AV → AV → AHeap → Kont → Bool :=
  @Nat.rec (fun _ => AV → AV → AV → AV → AV → AHeap → Kont → Bool) (fun _ _ _ _ _ _ _ => false) (fun _ ih x0 x2 x8 x9 x10 h K => b200_3 call n (fun x0 x2 x8 x9 x10 h => ih x0 x2 x8 x9 x10 h K) x0 x2 x8 x9 x10 h K)
noncomputable def s200 (call : CallFn) (n : Nat) (x0 x1 x2 : AV) (h : AHeap) (K : Kont) : Bool :=
  lenK x1 fun v1 => l200_3 call n n x0 x2 x1 v1 (.int .i64 0) h K

/-! ### 201 (*proctor/print.writer).query$1 -/
noncomputable def s201 (call : CallFn) (n : Nat) (x0 x1 : AV) (h : AHeap) (K : Kont) : Bool :=
  loadK h x1 fun v1 => addK (.str [36]) x0 fun v2 => optPK (bsliceV h 1 1 [.str []] [(0, v2)]) fun v3 h => call (.func 194) [v1, v3] h <| pz K fun v4 h => K (.tup []) h

/-! ### 202 slices.Equal[[]proctor/api.Field,proctor/api.Field] -/
noncomputable def b202_14 (call : CallFn) (n : Nat) (B14 : F4) (x0 x1 x12 x13 : AV) (h : AHeap) (K : Kont) : Bool :=
  lssK x13 x12 fun v5 => condK v5 (iadrK h 3 x0 x13 fun v6 => loadGK h 3 v6 fun v7 => iadrK h 3 x1 x13 fun v8 => loadGK h 3 v8 fun v9 => optK (eqV h true (.agg [.str, .int, .str]) v7 v9) fun v10 => condK v10 (K (.bool false) h) (addK x13 (.int .i64 1) fun v11 => B14 x0 x1 x12 v11 h)) (K (.bool true) h)
noncomputable def l202_14 (call : CallFn) (n : Nat) : Nat → AV → AV → AV → AV → AHeap → Kont → Bool :=
  @Nat.rec (fun _ => AV → AV → AV → AV → AHeap → Kont → Bool) (fun _ _ _ _ _ _ => false) (fun _ ih x0 x1 x12 x13 h K => b202_14 call n (fun x0 x1 x12 x13 h => ih x0 x1 x12 x13 h K) x0 x1 x12 x13 h K)
noncomputable def p202_10 (call : CallFn) (n : Nat) (x0 x1 : AV) (h : AHeap) (K : Kont) : Bool :=
  lenK x0 fun v4 => l202_14 call n n x0 x1 v4 (.int .i64 0) h K
noncomputable def s202 (call : CallFn) (n : Nat) (x0 x1 : AV) (h : AHeap) (K : Kont) : Bool :=
  lenK x0 fun v1 => lenK x1 fun v2 => neqK v1 v2 fun v3 => condK v3 (K (.bool false) h) (p202_10 call n x0 x1 h K)

/-! ### 203 proctor/print.sameConds -/
noncomputable def s203 (call : CallFn) (n : Nat) (x0 x1 : AV) (h : AHeap) (K : Kont) : Bool :=
  call (.func 244) [x0, x1, (.fn (.func 245) [] [])] h <| pz K fun v1 h => K v1 h

/-! ### 204 slices.EqualFunc[[]proctor/api.Action,[]proctor/api.Action,proctor/api.Action,proctor/api.Action] -/
noncomputable def p204_29001 (call : CallFn) (n : Nat) (B14 : F5) (x1 x2 x15 x16 x17 x29 : AV) (h : AHeap) (K : Kont) : Bool :=
  notK x29 fun v17 => condK v17 (K (.bool false) h) (addK x17 (.int .i64 1) fun v18 => B14 x1 x2 x15 x16 v18 h)
noncomputable def b204_14 (call : CallFn) (n : Nat) (B14 : F5) (x1 x2 x15 x16 x17 : AV) (h : AHeap) (K : Kont) : Bool :=
  lssK x17 x16 fun v5 => condK v5 (iadrK h 12 x15 x17 fun v6 => loadGK h 12 v6 fun v7 => allocK h [.int .i64 0, .str [], .nilSlc, .int .i64 0, .str [], .int .i64 0, .bool false, .int .i64 0, .str [], .nilSlc, .nilSlc, .str []] 12 fun v8 h => storeNK h 12 v8 v7 fun h => iadrK h 12 x1 x17 fun v10 => loadGK h 12 v10 fun v11 => allocK h [.int .i64 0, .str [], .nilSlc, .int .i64 0, .str [], .int .i64 0, .bool false, .int .i64 0, .str [], .nilSlc, .nilSlc, .str []] 12 fun v12 h => storeNK h 12 v12 v11 fun h => loadGK h 12 v8 fun v14 => loadGK h 12 v12 fun v15 => callV call x2 [v14, v15] h <| pz K fun v16 h => p204_29001 call n B14 x1 x2 x15 x16 x17 v16 h K) (K (.bool true) h)
noncomputable def l204_14 (call : CallFn) (n : Nat) : Nat → AV → AV → AV → AV → AV → AHeap → Kont → Bool :=
  @Nat.rec (fun _ => AV → AV → AV → AV → AV → AHeap → Kont → Bool) (fun _ _ _ _ _ _ _ => false) (fun _ ih x1 x2 x15 x16 x17 h K => b204_14 call n (fun x1 x2 x15 x16 x17 h => ih x1 x2 x15 x16 x17 h K) x1 x2 x15 x16 x17 h K)
noncomputable def p204_10 (call : CallFn) (n : Nat) (x0 x1 x2 : AV) (h : AHeap) (K : Kont) : Bool :=
  lenK x0 fun v4 => l204_14 call n n x1 x2 x0 v4 (.int .i64 0) h K
noncomputable def s204 (call : CallFn) (n : Nat) (x0 x1 x2 : AV) (h : AHeap) (K : Kont) : Bool :=
  lenK x0 fun v1 => lenK x1 fun v2 => neqK v1 v2 fun v3 => condK v3 (K (.bool false) h) (p204_10 call n x0 x1 x2 h K)

/-! ### 205 proctor/print.sameAction -/
noncomputable def p205_4002 (call : CallFn) (n : Nat) (x31 x36 : AV) (h : AHeap) (K : Kont) : Bool :=
  pickK x31 x36 (.bool false) fun v31 => K v31 h
noncomputable def p205_4001 (call : CallFn) (n : Nat) (x2 x3 x24 x29 : AV) (h : AHeap) (K : Kont) : Bool :=
  pickK x24 x29 (.bool false) fun v25 => gK v25 true (fadrK 3 x2) fun v26 => gK v25 true (loadGK h 8 v26) fun v27 => gK v25 true (fadrK 3 x3) fun v28 => gK v25 true (loadGK h 8 v28) fun v29 => gP v25 true (fun k => call (.func 248) [v27, v29] h (pz K k)) h fun v30 h => p205_4002 call n v25 v30 h K
noncomputable def s205 (call : CallFn) (n : Nat) (x0 x1 : AV) (h : AHeap) (K : Kont) : Bool :=
  optPK (boxA h (none) 12 x0) fun v1 h => optPK (boxA h (none) 12 x1) fun v2 h => fadrK 0 v1 fun v3 => loadK h v3 fun v4 => fadrK 0 v2 fun v5 => loadK h v5 fun v6 => eqlK v4 v6 fun v7 => gK v7 true (fadrK 1 v1) fun v8 => gK v7 true (loadK h v8) fun v9 => gK v7 true (fadrK 1 v2) fun v10 => gK v7 true (loadK h v10) fun v11 => gK v7 true (eqlK v9 v11) fun v12 => pickK v7 v12 (.bool false) fun v13 => gK v13 true (fadrK 11 v1) fun v14 => gK v13 true (loadK h v14) fun v15 => gK v13 true (fadrK 11 v2) fun v16 => gK v13 true (loadK h v16) fun v17 => gK v13 true (eqlK v15 v17) fun v18 => pickK v13 v18 (.bool false) fun v19 => gK v19 true (fadrK 2 v1) fun v20 => gK v19 true (loadK h v20) fun v21 => gK v19 true (fadrK 2 v2) fun v22 => gK v19 true (loadK h v22) fun v23 => gP v19 true (fun k => call (.func 246) [v21, v23, (.fn (.func 247) [] [])] h (pz K k)) h fun v24 h => p205_4001 call n v1 v2 v19 v24 h K

/-! ### 206 slices.Equal[[]string,string] -/
noncomputable def b206_14 (call : CallFn) (n : Nat) (B14 : F4) (x0 x1 x12 x13 : AV) (h : AHeap) (K : Kont) : Bool :=
  lssK x13 x12 fun v5 => condK v5 (iadrK h 1 x0 x13 fun v6 => loadK h v6 fun v7 => iadrK h 1 x1 x13 fun v8 => loadK h v8 fun v9 => neqK v7 v9 fun v10 => condK v10 (K (.bool false) h) (addK x13 (.int .i64 1) fun v11 => B14 x0 x1 x12 v11 h)) (K (.bool true) h)
noncomputable def l206_14 (call : CallFn) (n : Nat) : Nat → AV → AV → AV → AV → AHeap → Kont → Bool :=
  @Nat.rec (fun _ => AV → AV → AV → AV → AHeap → Kont → Bool) (fun _ _ _ _ _ _ => false) (fun _ ih x0 x1 x12 x13 h K => b206_14 call n (fun x0 x1 x12 x13 h => ih x0 x1 x12 x13 h K) x0 x1 x12 x13 h K)
noncomputable def p206_10 (call : CallFn) (n : Nat) (x0 x1 : AV) (h : AHeap) (K : Kont) : Bool :=
  lenK x0 fun v4 => l206_14 call n n x0 x1 v4 (.int .i64 0) h K
noncomputable def s206 (call : CallFn) (n : Nat) (x0 x1 : AV) (h : AHeap) (K : Kont) : Bool :=
  lenK x0 fun v1 => lenK x1 fun v2 => neqK v1 v2 fun v3 => condK v3 (K (.bool false) h) (p206_10 call n x0 x1 h K)

/-! ### 208 (*proctor/check.checker).pattern -/
noncomputable def p208_50 (call : CallFn) (n : Nat) (x2 x6 : AV) (h : AHeap) (K : Kont) : Bool :=
  loadK h x6 fun v81 => call (.func 250) [x2, v81] h <| pz K fun v82 h => K (.tup []) h
noncomputable def b208_37 (call : CallFn) (n : Nat) (B37 : F7) (x2 x3 x4 x6 x82 x83 x84 : AV) (h : AHeap) (K : Kont) : Bool :=
  lssK x84 x83 fun v72 => condK v72 (iadrK h 8 x82 x84 fun v73 => loadGK h 8 v73 fun v74 => allocK h [.int .i64 0, .str [], .int .i64 0, .bool false, .int .i64 0, .str [], .nilSlc, .nilSlc] 8 fun v75 h => storeNK h 8 v75 v74 fun h => loadGK h 8 v75 fun v77 => optK (some (.fn (.func 249) [] [x6, x3, x4])) fun v78 => call (.func 212) [v77, v78] h <| pz K fun v79 h => addK x84 (.int .i64 1) fun v80 => B37 x2 x3 x4 x6 x82 x83 v80 h) (p208_50 call n x2 x6 h K)
noncomputable def l208_37 (call : CallFn) (n : Nat) : Nat → AV → AV → AV → AV → AV → AV → AV → AHeap → Kont → Bool :=
  @Nat.rec (fun _ => AV → AV → AV → AV → AV → AV → AV → AHeap → Kont → Bool) (fun _ _ _ _ _ _ _ _ _ => false) (fun _ ih x2 x3 x4 x6 x82 x83 x84 h K => b208_37 call n (fun x2 x3 x4 x6 x82 x83 x84 h => ih x2 x3 x4 x6 x82 x83 x84 h K) x2 x3 x4 x6 x82 x83 x84 h K)
noncomputable def p208_33 (call : CallFn) (n : Nat) (x2 x3 x4 x6 : AV) (h : AHeap) (K : Kont) : Bool :=
  fadrK 4 x4 fun v69 => loadK h v69 fun v70 => lenK v70 fun v71 => l208_37 call n n x2 x3 x4 x6 v70 v71 (.int .i64 0) h K
noncomputable def p208_27 (call : CallFn) (n : Nat) (x2 x3 x4 x6 : AV) (h : AHeap) (K : Kont) : Bool :=
  fadrK 1 x4 fun v62 => loadK h v62 fun v63 => neqK v63 (.str []) fun v64 => condK v64 (loadK h x6 fun v65 => fadrK 1 x4 fun v66 => loadK h v66 fun v67 => call (.func 85) [v65, v67] h <| pz K fun v68 h => p208_33 call n x2 x3 x4 x6 h K) (p208_33 call n x2 x3 x4 x6 h K)
noncomputable def b208_10 (call : CallFn) (n : Nat) (B10 : F7) (x2 x3 x4 x6 x36 x37 x38 : AV) (h : AHeap) (K : Kont) : Bool :=
  lssK x38 x37 fun v28 => condK v28 (iadrK h 2 x36 x38 fun v29 => loadGK h 2 v29 fun v30 => allocK h [.str [], .str []] 2 fun v31 h => storeNK h 2 v31 v30 fun h => loadK h x3 fun v33 => nilckK v33 fun v34 => fadrK 3 v34 fun v35 => loadK h v35 fun v36 => fadrK 2 x4 fun v37 => loadK h v37 fun v38 => fadrK 1 v31 fun v39 => loadK h v39 fun v40 => call (.func 211) [v36, v38, v40] h <| pz K fun v41 h => extK 0 v41 fun v42 => extK 1 v41 fun v43 => eqlK v43 (.int .i64 0) fun v44 => gK v44 true (fadrK 1 x4) fun v45 => gK v44 true (loadK h v45) fun v46 => gK v44 true (eqlK v46 (.str [])) fun v47 => gK v44 true (optK (some v47)) fun v48 => gK v48 false (fadrK 0 v31) fun v49 => gK v48 false (loadK h v49) fun v50 => gK v48 false (fadrK 1 x4) fun v51 => gK v48 false (loadK h v51) fun v52 => gK v48 false (neqK v50 v52) fun v53 => gK v44 true (pickK v48 (.bool true) v53) fun v54 => pickK v44 v54 (.bool false) fun v55 => call (.func 156) [v55] h <| pz K fun v56 h => loadK h x6 fun v57 => fadrK 0 v31 fun v58 => loadK h v58 fun v59 => call (.func 85) [v57, v59] h <| pz K fun v60 h => addK x38 (.int .i64 1) fun v61 => B10 x2 x3 x4 x6 x36 x37 v61 h) (p208_27 call n x2 x3 x4 x6 h K)
noncomputable def l208_10 (call : CallFn) (n : Nat) : Nat → AV → AV → AV → AV → AV → AV → AV → AHeap → Kont → Bool :=
  @Nat.rec (fun _ => AV → AV → AV → AV → AV → AV → AV → AHeap → Kont → Bool) (fun _ _ _ _ _ _ _ _ _ => false) (fun _ ih x2 x3 x4 x6 x36 x37 x38 h K => b208_10 call n (fun x2 x3 x4 x6 x36 x37 x38 h => ih x2 x3 x4 x6 x36 x37 x38 h K) x2 x3 x4 x6 x36 x37 x38 h K)
noncomputable def p208_6001 (call : CallFn) (n : Nat) (x2 x3 x4 x34 : AV) (h : AHeap) (K : Kont) : Bool :=
  allocK h [.nilMap] 1 fun v23 h => storeK h v23 x34 fun h => fadrK 3 x4 fun v25 => loadK h v25 fun v26 => lenK v26 fun v27 => l208_10 call n n x2 x3 x4 v23 v26 v27 (.int .i64 0) h K
noncomputable def s208 (call : CallFn) (n : Nat) (x0 x1 x2 : AV) (h : AHeap) (K : Kont) : Bool :=
  boxK h x0 fun v1 h => optPK (boxA h (none) 19 x1) fun v2 h => loadK h v1 fun v3 => nilckK v3 fun v4 => fadrK 3 v4 fun v5 => loadK h v5 fun v6 => fadrK 2 v2 fun v7 => loadK h v7 fun v8 => call (.func 128) [v6, v8] h <| pz K fun v9 h => gK v9 true (fadrK 1 v2) fun v10 => gK v9 true (loadK h v10) fun v11 => gK v9 true (eqlK v11 (.str [])) fun v12 => gK v9 true (optK (some v12)) fun v13 => gK v13 false (optK (some x2)) fun v14 => gK v13 false (fadrK 1 v2) fun v15 => gK v13 false (loadK h v15) fun v16 => gP v13 false (fun k => call (.func 84) [v14, v16] h (pz K k)) h fun v17 h => gK v13 false (notK v17) fun v18 => gK v9 true (pickK v13 (.bool true) v18) fun v19 => pickK v9 v19 (.bool false) fun v20 => call (.func 156) [v20] h <| pz K fun v21 h => call (.func 158) [x2] h <| pz K fun v22 h => p208_6001 call n x2 v1 v2 v22 h K

/-! ### 209 (*proctor/check.checker).cond$1 -/
noncomputable def s209 (call : CallFn) (n : Nat) (x0 x1 : AV) (h : AHeap) (K : Kont) : Bool :=
  optPK (boxA h (none) 3 x0) fun v1 h => fadrK 0 v1 fun v2 => loadK h v2 fun v3 => fadrK 17 x1 fun v4 => loadK h v4 fun v5 => eqlK v3 v5 fun v6 => K v6 h

/-! ### 211 (*proctor/class.Table).Index -/
noncomputable def p211_4001 (call : CallFn) (n : Nat) (x5 x14 : AV) (h : AHeap) (K : Kont) : Bool :=
  extK 0 x14 fun v3 => extK 1 x14 fun v4 => neqK v4 (.int .i64 0) fun v5 => condK v5 (K (.tup [(.int .i64 0), v4]) h) (optK (some (.fn (.func 253) [] [x5])) fun v6 => call (.func 252) [v3, v6] h <| pz K fun v7 h => lssK v7 (.int .i64 0) fun v8 => condK v8 (K (.tup [(.int .i64 0), (.int .i64 11)]) h) (K (.tup [v7, (.int .i64 0)]) h))
noncomputable def s211 (call : CallFn) (n : Nat) (x0 x1 x2 : AV) (h : AHeap) (K : Kont) : Bool :=
  boxK h x2 fun v1 h => call (.func 251) [x0, x1] h <| pz K fun v2 h => p211_4001 call n v1 v2 h K

/-! ### 212 proctor/check.walk -/
noncomputable def b212_7 (call : CallFn) (n : Nat) (B7 : F4) (x1 x10 x11 x12 : AV) (h : AHeap) (K : Kont) : Bool :=
  lssK x12 x11 fun v7 => condK v7 (iadrK h 8 x10 x12 fun v8 => loadGK h 8 v8 fun v9 => allocK h [.int .i64 0, .str [], .int .i64 0, .bool false, .int .i64 0, .str [], .nilSlc, .nilSlc] 8 fun v10 h => storeNK h 8 v10 v9 fun h => loadGK h 8 v10 fun v12 => call (.func 212) [v12, x1] h <| pz K fun v13 h => addK x12 (.int .i64 1) fun v14 => B7 x1 x10 x11 v14 h) (K (.tup []) h)
noncomputable def l212_7 (call : CallFn) (n : Nat) : Nat → AV → AV → AV → AV → AHeap → Kont → Bool :=
  @Nat.rec (fun _ => AV → AV → AV → AV → AHeap → Kont → Bool) (fun _ _ _ _ _ _ => false) (fun _ ih x1 x10 x11 x12 h K => b212_7 call n (fun x1 x10 x11 x12 h => ih x1 x10 x11 x12 h K) x1 x10 x11 x12 h K)
noncomputable def s212 (call : CallFn) (n : Nat) (x0 x1 : AV) (h : AHeap) (K : Kont) : Bool :=
  optPK (boxA h (none) 8 x0) fun v1 h => loadGK h 8 v1 fun v2 => callV call x1 [v2] h <| pz K fun v3 h => fadrK 7 v1 fun v4 => loadK h v4 fun v5 => lenK v5 fun v6 => l212_7 call n n x1 v5 v6 (.int .i64 0) h K

/-! ### 213 (proctor/check.scope).expr$1 -/
noncomputable def p213_5001 (call : CallFn) (n : Nat) (x10 x14 : AV) (h : AHeap) (K : Kont) : Bool :=
  pickK x10 (.bool true) x14 fun v13 => call (.func 156) [v13] h <| pz K fun v14 h => K (.tup []) h
noncomputable def s213 (call : CallFn) (n : Nat) (x0 x1 : AV) (h : AHeap) (K : Kont) : Bool :=
  optPK (boxA h (none) 8 x0) fun v1 h => fadrK 0 v1 fun v2 => loadK h v2 fun v3 => neqK v3 (.int .i64 3) fun v4 => call (.func 156) [v4] h <| pz K fun v5 h => fadrK 0 v1 fun v6 => loadK h v6 fun v7 => neqK v7 (.int .i64 2) fun v8 => gK v8 false (loadK h x1) fun v9 => gK v8 false (fadrK 1 v1) fun v10 => gK v8 false (loadK h v10) fun v11 => gP v8 false (fun k => call (.func 84) [v9, v11] h (pz K k)) h fun v12 h => p213_5001 call n v8 v12 h K

/-! ### 214 slices.Index[[]string,string] -/
noncomputable def b214_6 (call : CallFn) (n : Nat) (B6 : F4) (x0 x1 x7 x8 : AV) (h : AHeap) (K : Kont) : Bool :=
  lssK x8 x7 fun v2 => condK v2 (iadrK h 1 x0 x8 fun v3 => loadK h v3 fun v4 => eqlK x1 v4 fun v5 => condK v5 (K x8 h) (addK x8 (.int .i64 1) fun v6 => B6 x0 x1 x7 v6 h)) (K (.int .i64 (-1)) h)
noncomputable def l214_6 (call : CallFn) (n : Nat) : Nat → AV → AV → AV → AV → AHeap → Kont → Bool :=
  @Nat.rec (fun _ => AV → AV → AV → AV → AHeap → Kont → Bool) (fun _ _ _ _ _ _ => false) (fun _ ih x0 x1 x7 x8 h K => b214_6 call n (fun x0 x1 x7 x8 h => ih x0 x1 x7 x8 h K) x0 x1 x7 x8 h K)
noncomputable def s214 (call : CallFn) (n : Nat) (x0 x1 : AV) (h : AHeap) (K : Kont) : Bool :=
  lenK x0 fun v1 => l214_6 call n n x0 x1 v1 (.int .i64 0) h K

/-! ### 215 proctor/check.binds$1 -/
noncomputable def p215_2001 (call : CallFn) (n : Nat) (x0 x1 x5 x8 : AV) (h : AHeap) (K : Kont) : Bool :=
  gK x5 true (notK x8) fun v5 => pickK x5 v5 (.bool false) fun v6 => condK v6 (loadK h x1 fun v7 => optPK (bsliceV h 1 1 [.str []] [(0, x0)]) fun v8 h => appK h 1 16 v7 v8 fun v9 h => storeK h x1 v9 fun h => K (.tup []) h) (K (.tup []) h)
noncomputable def s215 (call : CallFn) (n : Nat) (x0 x1 : AV) (h : AHeap) (K : Kont) : Bool :=
  neqK x0 (.str []) fun v1 => gK v1 true (loadK h x1) fun v2 => gK v1 true (optK (some x0)) fun v3 => gP v1 true (fun k => call (.func 162) [v2, v3] h (pz K k)) h fun v4 h => p215_2001 call n x0 x1 v1 v4 h K

/-! ### 227 proctor/check.sum -/
noncomputable def b227_8 (call : CallFn) (n : Nat) (B8 : F4) (x3 x6 x7 x8 : AV) (h : AHeap) (K : Kont) : Bool :=
  lssK x8 x7 fun v2 => condK v2 (iadrK h 1 x6 x8 fun v3 => loadK h v3 fun v4 => addK (.int .i64 1) v4 fun v5 => addK x3 v5 fun v6 => addK x8 (.int .i64 1) fun v7 => B8 v6 x6 x7 v7 h) (K x3 h)
noncomputable def l227_8 (call : CallFn) (n : Nat) : Nat → AV → AV → AV → AV → AHeap → Kont → Bool :=
  @Nat.rec (fun _ => AV → AV → AV → AV → AHeap → Kont → Bool) (fun _ _ _ _ _ _ => false) (fun _ ih x3 x6 x7 x8 h K => b227_8 call n (fun x3 x6 x7 x8 h => ih x3 x6 x7 x8 h K) x3 x6 x7 x8 h K)
noncomputable def s227 (call : CallFn) (n : Nat) (x0 : AV) (h : AHeap) (K : Kont) : Bool :=
  lenK x0 fun v1 => l227_8 call n n (.int .i64 0) x0 v1 (.int .i64 0) h K

/-! ### 229 internal/stringslite.IndexByte -/
noncomputable def s229 (call : CallFn) (n : Nat) (x0 x1 : AV) (h : AHeap) (K : Kont) : Bool :=
  call (.func 259) [x0, x1] h <| pz K fun v1 h => K v1 h

/-! ### 230 (*proctor/lex.lexer).word$1 -/
noncomputable def p230_4002 (call : CallFn) (n : Nat) (x0 x5 x7 : AV) (h : AHeap) (K : Kont) : Bool :=
  pickK x5 (.bool true) x7 fun v4 => gK v4 false (optK (some x0)) fun v5 => gK v4 false (eqlK v5 (.int .u8 95)) fun v6 => pickK v4 (.bool true) v6 fun v7 => K v7 h
noncomputable def p230_4001 (call : CallFn) (n : Nat) (x0 x4 : AV) (h : AHeap) (K : Kont) : Bool :=
  gK x4 false (optK (some x0)) fun v2 => gP x4 false (fun k => call (.func 181) [v2] h (pz K k)) h fun v3 h => p230_4002 call n x0 x4 v3 h K
noncomputable def s230 (call : CallFn) (n : Nat) (x0 : AV) (h : AHeap) (K : Kont) : Bool :=
  call (.func 179) [x0] h <| pz K fun v1 h => p230_4001 call n x0 v1 h K

/-! ### 231 (*strings.Builder).String -/
noncomputable def s231 (call : CallFn) (n : Nat) (x0 : AV) (h : AHeap) (K : Kont) : Bool :=
  nilckK x0 fun v1 => fadrK 1 v1 fun v2 => loadK h v2 fun v3 => optK (sdatA v3) fun v4 => nilckK x0 fun v5 => fadrK 1 v5 fun v6 => loadK h v6 fun v7 => lenK v7 fun v8 => optPK (ustrA h 5 v4 v8) fun v9 h => K v9 h

/-! ### 232 (*strings.Builder).WriteByte -/
noncomputable def s232 (call : CallFn) (n : Nat) (x0 x1 : AV) (h : AHeap) (K : Kont) : Bool :=
  call (.func 260) [x0] h <| pz K fun v1 h => nilckK x0 fun v2 => fadrK 1 v2 fun v3 => loadK h v3 fun v4 => optPK (bsliceV h 1 1 [.int .u8 0] [(0, x1)]) fun v5 h => optPK (appbA h 5 v4 v5) fun v6 h => nilckK x0 fun v7 => fadrK 1 v7 fun v8 => storeK h v8 v6 fun h => K .nilIf h

/-! ### 233 strings.HasPrefix -/
noncomputable def s233 (call : CallFn) (n : Nat) (x0 x1 : AV) (h : AHeap) (K : Kont) : Bool :=
  call (.func 261) [x0, x1] h <| pz K fun v1 h => K v1 h

/-! ### 239 (*proctor/parse.parser).post -/
noncomputable def p239_12001 (call : CallFn) (n : Nat) (B5 : F3) (x0 x2 x3 x4 x10 : AV) (h : AHeap) (K : Kont) : Bool :=
  notK x10 fun v7 => condK v7 (loadGK h 9 x3 fun v8 => storeNK h 9 x2 v8 fun h => optR (resV h [(x2, some (true, 9))]) h K) (loadGK h 9 x3 fun v10 => optPK (bsliceV h 1 9 [.int .i64 0, .str [], .int .i64 0, .bool false, .int .i64 0, .str [], .nilSlc, .nilSlc, .int .i64 0] [(0, v10)]) fun v11 h => loadGK h 9 x3 <| sameK v10 <| call (.func 39) [x0] h <| pz (goneQ [v11] K) fun v12 h => loadGK h 9 x3 <| sameK v10 <| buildK [.int .i64 0, .str [], .int .i64 0, .bool false, .int .i64 0, .str [], .nilSlc, .nilSlc] [(0, 1, (.int .i64 4)), (1, 1, v12)] fun v13 => call (.func 193) [x4, v13, v11] h <| pz (goneQ [v11] K) fun v14 h => storeNK h 9 x3 v14 fun h => B5 x0 x2 x3 h)
noncomputable def b239_5 (call : CallFn) (n : Nat) (B5 : F3) (x0 x2 x3 : AV) (h : AHeap) (K : Kont) : Bool :=
  call (.func 67) [x0] h <| pz K fun v5 h => call (.func 18) [x0, (.str [46])] h <| pz K fun v6 h => p239_12001 call n B5 x0 x2 x3 v5 v6 h K
noncomputable def l239_5 (call : CallFn) (n : Nat) : Nat → AV → AV → AV → AHeap → Kont → Bool :=
  @Nat.rec (fun _ => AV → AV → AV → AHeap → Kont → Bool) (fun _ _ _ _ _ => false) (fun _ ih x0 x2 x3 h K => b239_5 call n (fun x0 x2 x3 h => ih x0 x2 x3 h K) x0 x2 x3 h K)
noncomputable def p239_4001 (call : CallFn) (n : Nat) (x0 x2 x6 : AV) (h : AHeap) (K : Kont) : Bool :=
  allocK h [.int .i64 0, .str [], .int .i64 0, .bool false, .int .i64 0, .str [], .nilSlc, .nilSlc, .int .i64 0] 9 fun v3 h => storeNK h 9 v3 x6 fun h => l239_5 call n n x0 x2 v3 h K
noncomputable def s239 (call : CallFn) (n : Nat) (x0 : AV) (h : AHeap) (K : Kont) : Bool :=
  allocK h [.int .i64 0, .str [], .int .i64 0, .bool false, .int .i64 0, .str [], .nilSlc, .nilSlc, .int .i64 0] 9 fun v1 h => call (.func 263) [x0] h <| pz K fun v2 h => p239_4001 call n x0 v1 v2 h K

/-! ### 240 internal/strconv.FormatInt -/
noncomputable def p240_24 (call : CallFn) (n : Nat) (x6 : AV) (h : AHeap) (K : Kont) : Bool :=
  call (.func 265) [x6] h <| pz K fun v11 h => addK (.int .i64 1) v11 fun v12 => false
noncomputable def p240_44001 (call : CallFn) (n : Nat) (x50 : AV) (h : AHeap) (K : Kont) : Bool :=
  extK 0 x50 fun v16 => extK 1 x50 fun v17 => K v17 h
noncomputable def s240 (call : CallFn) (n : Nat) (x0 x1 : AV) (h : AHeap) (K : Kont) : Bool :=
  eqlK x1 (.int .i64 10) fun v1 => condK v1 (leqK (.int .i64 0) x0 fun v2 => gK v2 true (optK (some x0)) fun v3 => gK v2 true (lssK v3 (.int .i64 100)) fun v4 => pickK v2 v4 (.bool false) fun v5 => condK v5 (call (.func 264) [x0] h <| pz K fun v6 h => K v6 h) (allocK h [.int .u8 0, .int .u8 0, .int .u8 0, .int .u8 0, .int .u8 0, .int .u8 0, .int .u8 0, .int .u8 0, .int .u8 0, .int .u8 0, .int .u8 0, .int .u8 0, .int .u8 0, .int .u8 0, .int .u8 0, .int .u8 0, .int .u8 0, .int .u8 0, .int .u8 0, .int .u8 0, .int .u8 0, .int .u8 0, .int .u8 0, .int .u8 0] 24 fun v7 h => optK (convA .u64 x0) fun v8 => lssK x0 (.int .i64 0) fun v9 => condK v9 (optK (negA v8) fun v10 => p240_24 call n v10 h K) (p240_24 call n v8 h K))) (optK (convA .u64 x0) fun v13 => lssK x0 (.int .i64 0) fun v14 => call (.func 267) [.nilSlc, v13, x1, v14, (.bool false)] h <| pz K fun v15 h => p240_44001 call n v15 h K)

/-! ### 241 (*proctor/print.writer).cond -/
noncomputable def p241_100 (call : CallFn) (n : Nat) (x2 : AV) (h : AHeap) (K : Kont) : Bool :=
  loadK h x2 fun v11 => nilckK v11 fun v12 => fadrK 2 v12 fun v13 => loadK h v13 fun v14 => subK v14 (.int .i64 1) fun v15 => nilckK v11 fun v16 => fadrK 2 v16 fun v17 => storeK h v17 v15 fun h => K (.tup []) h
noncomputable def p241_62 (call : CallFn) (n : Nat) (B45 : F4) (x2 x5 x60 x61 x62 : AV) (h : AHeap) (K : Kont) : Bool :=
  loadK h x2 fun v67 => call (.func 198) [v67, x5] h <| pz K fun v68 h => addK x62 (.int .i64 1) fun v69 => B45 x2 x60 x61 v69 h
noncomputable def p241_64 (call : CallFn) (n : Nat) (x2 : AV) (h : AHeap) (K : Kont) : Bool :=
  loadK h x2 fun v70 => optPK (bsliceV h 1 1 [.str []] [(0, (.str [41]))]) fun v71 h => call (.func 194) [v70, v71] h <| pz K fun v72 h => p241_100 call n x2 h K
noncomputable def b241_45 (call : CallFn) (n : Nat) (B45 : F4) (x2 x60 x61 x62 : AV) (h : AHeap) (K : Kont) : Bool :=
  lssK x62 x61 fun v60 => condK v60 (iadrK h 1 x60 x62 fun v61 => loadK h v61 fun v62 => gtrK x62 (.int .i64 0) fun v63 => condK v63 (loadK h x2 fun v64 => optPK (bsliceV h 1 1 [.str []] [(0, (.str [111, 114]))]) fun v65 h => call (.func 194) [v64, v65] h <| pz K fun v66 h => p241_62 call n B45 x2 v62 x60 x61 x62 h K) (p241_62 call n B45 x2 v62 x60 x61 x62 h K)) (p241_64 call n x2 h K)
noncomputable def l241_45 (call : CallFn) (n : Nat) : Nat → AV → AV → AV → AV → AHeap → Kont → Bool :=
  @Nat.rec (fun _ => AV → AV → AV → AV → AHeap → Kont → Bool) (fun _ _ _ _ _ _ => false) (fun _ ih x2 x60 x61 x62 h K => b241_45 call n (fun x2 x60 x61 x62 h => ih x2 x60 x61 x62 h K) x2 x60 x61 x62 h K)
set_option maxRecDepth 100000 in
noncomputable def p241_18 (call : CallFn) (n : Nat) (x2 x3 x9 x17 : AV) (h : AHeap) (K : Kont) : Bool :=
  condK x17 (loadK h x2 fun v20 => fadrK 0 x3 fun v21 => loadK h v21 fun v22 => optPK (bsliceV h 4 1 [.str []] [(2, (.str [110, 111, 116])), (3, (.str [101, 120, 105, 115, 116, 115]))]) fun v23 h => loadK h x2 <| sameK v20 <| loadK h v21 <| sameK v22 <| iadrK h 1 v23 v22 fun v24 => loadK h v24 fun v25 => optPK (bsliceV h 2 1 [.str []] [(0, v25), (1, (.str [40]))]) fun v26 h => loadK h x2 <| sameK v20 <| loadK h v21 <| sameK v22 <| iadrK h 1 v23 v22 <| sameK v24 <| loadK h v24 <| sameK v25 <| call (.func 194) [v20, v26] h <| pz (goneQ [v26, v23] K) fun v27 h => loadK h x2 fun v28 => fadrK 5 x3 fun v29 => loadK h v29 fun v30 => call (.func 198) [v28, v30] h <| pz K fun v31 h => loadK h x2 fun v32 => optPK (bsliceV h 1 1 [.str []] [(0, (.str [41]))]) fun v33 h => call (.func 194) [v32, v33] h <| pz K fun v34 h => p241_100 call n x2 h K) (eqlK x9 (.int .i64 4) fun v35 => condK v35 (loadK h x2 fun v36 => optPK (bsliceV h 2 1 [.str []] [(0, (.str [102, 111, 114, 97, 108, 108])), (1, (.str [40]))]) fun v37 h => call (.func 194) [v36, v37] h <| pz K fun v38 h => loadK h x2 fun v39 => fadrK 5 x3 fun v40 => loadK h v40 fun v41 => call (.func 198) [v39, v41] h <| pz K fun v42 h => loadK h x2 fun v43 => optPK (bsliceV h 1 1 [.str []] [(0, (.str [59]))]) fun v44 h => call (.func 194) [v43, v44] h <| pz K fun v45 h => loadK h x2 fun v46 => fadrK 6 x3 fun v47 => loadK h v47 fun v48 => call (.func 198) [v46, v48] h <| pz K fun v49 h => loadK h x2 fun v50 => optPK (bsliceV h 1 1 [.str []] [(0, (.str [41]))]) fun v51 h => call (.func 194) [v50, v51] h <| pz K fun v52 h => p241_100 call n x2 h K) (eqlK x9 (.int .i64 5) fun v53 => condK v53 (loadK h x2 fun v54 => optPK (bsliceV h 1 1 [.str []] [(0, (.str [40]))]) fun v55 h => call (.func 194) [v54, v55] h <| pz K fun v56 h => fadrK 7 x3 fun v57 => loadK h v57 fun v58 => lenK v58 fun v59 => l241_45 call n n x2 v58 v59 (.int .i64 0) h K) (eqlK x9 (.int .i64 6) fun v73 => condK v73 (loadK h x2 fun v74 => fadrK 1 x3 fun v75 => loadK h v75 fun v76 => addK (.str [36]) v76 fun v77 => optPK (bsliceV h 2 1 [.str []] [(0, v77), (1, (.str [102, 114, 111, 109]))]) fun v78 h => call (.func 194) [v74, v78] h <| pz K fun v79 h => loadK h x2 fun v80 => fadrK 8 x3 fun v81 => loadGK h 8 v81 fun v82 => call (.func 243) [v80, v82, (.int .i64 0)] h <| pz K fun v83 h => p241_100 call n x2 h K) (eqlK x9 (.int .i64 7) fun v84 => condK v84 (loadK h x2 fun v85 => fadrK 1 x3 fun v86 => loadK h v86 fun v87 => addK (.str [36]) v87 fun v88 => fadrK 16 x3 fun v89 => loadK h v89 fun v90 => optPK (bsliceV h 6 1 [.str []] [(0, (.str [97, 99, 99])), (1, (.str [40])), (2, v88), (3, (.str [58])), (4, v90), (5, (.str [40]))]) fun v91 h => call (.func 194) [v85, v91] h <| pz K fun v92 h => loadK h x2 fun v93 => fadrK 8 x3 fun v94 => loadGK h 8 v94 fun v95 => call (.func 243) [v93, v95, (.int .i64 0)] h <| pz K fun v96 h => loadK h x2 fun v97 => optPK (bsliceV h 2 1 [.str []] [(0, (.str [41])), (1, (.str [111, 118, 101, 114]))]) fun v98 h => call (.func 194) [v97, v98] h <| pz K fun v99 h => loadK h x2 fun v100 => fadrK 5 x3 fun v101 => loadK h v101 fun v102 => call (.func 198) [v100, v102] h <| pz K fun v103 h => loadK h x2 fun v104 => optPK (bsliceV h 1 1 [.str []] [(0, (.str [41]))]) fun v105 h => call (.func 194) [v104, v105] h <| pz K fun v106 h => p241_100 call n x2 h K) (eqlK x9 (.int .i64 8) fun v107 => condK v107 (loadK h x2 fun v108 => optPK (bsliceV h 2 1 [.str []] [(0, (.str [101, 118, 97, 108])), (1, (.str [40]))]) fun v109 h => call (.func 194) [v108, v109] h <| pz K fun v110 h => loadK h x2 fun v111 => fadrK 8 x3 fun v112 => loadGK h 8 v112 fun v113 => call (.func 243) [v111, v113, (.int .i64 0)] h <| pz K fun v114 h => loadK h x2 fun v115 => optPK (bsliceV h 1 1 [.str []] [(0, (.str [41]))]) fun v116 h => call (.func 194) [v115, v116] h <| pz K fun v117 h => p241_100 call n x2 h K) (eqlK x9 (.int .i64 9) fun v118 => condK v118 (loadK h x2 fun v119 => fadrK 17 x3 fun v120 => loadK h v120 fun v121 => optPK (bsliceV h 3 1 [.str []] [(0, (.str [63])), (1, v121), (2, (.str [40]))]) fun v122 h => call (.func 194) [v119, v122] h <| pz K fun v123 h => loadK h x2 fun v124 => fadrK 18 x3 fun v125 => loadK h v125 fun v126 => optK (some (.fn (.func 271) [] [x2])) fun v127 => call (.func 270) [v124, v126, v127] h <| pz K fun v128 h => loadK h x2 fun v129 => optPK (bsliceV h 1 1 [.str []] [(0, (.str [41]))]) fun v130 h => call (.func 194) [v129, v130] h <| pz K fun v131 h => p241_100 call n x2 h K) (buildK [] [] fun v132 => optK (mkifA 216 v132) fun v133 => pncK K v133 h)))))))
noncomputable def s241 (call : CallFn) (n : Nat) (x0 x1 : AV) (h : AHeap) (K : Kont) : Bool :=
  boxK h x0 fun v1 h => optPK (boxA h (none) 19 x1) fun v2 h => loadK h v1 fun v3 => call (.func 268) [v3] h <| pz K fun v4 h => fadrK 0 v2 fun v5 => loadK h v5 fun v6 => eqlK v6 (.int .i64 1) fun v7 => condK v7 (loadK h v1 fun v8 => loadGK h 19 v2 fun v9 => call (.func 269) [v8, v9] h <| pz K fun v10 h => p241_100 call n v1 h K) (eqlK v6 (.int .i64 2) fun v19 => condK v19 (p241_18 call n v1 v2 v6 v19 h K) (eqlK v6 (.int .i64 3) fun v135 => p241_18 call n v1 v2 v6 v135 h K))

/-! ### 242 (*proctor/print.writer).sets -/
noncomputable def s242 (call : CallFn) (n : Nat) (x0 x1 : AV) (h : AHeap) (K : Kont) : Bool :=
  boxK h x0 fun v1 h => loadK h v1 fun v2 => optPK (bsliceV h 1 1 [.str []] [(0, (.str [123]))]) fun v3 h => call (.func 194) [v2, v3] h <| pz K fun v4 h => loadK h v1 fun v5 => optK (some (.fn (.func 273) [] [v1])) fun v6 => call (.func 272) [v5, x1, v6] h <| pz K fun v7 h => loadK h v1 fun v8 => optPK (bsliceV h 1 1 [.str []] [(0, (.str [125]))]) fun v9 h => call (.func 194) [v8, v9] h <| pz K fun v10 h => K (.tup []) h

/-! ### 243 (*proctor/print.writer).expr -/
noncomputable def p243_51 (call : CallFn) (n : Nat) (x0 : AV) (h : AHeap) (K : Kont) : Bool :=
  nilckK x0 fun v15 => fadrK 2 v15 fun v16 => loadK h v16 fun v17 => subK v17 (.int .i64 1) fun v18 => nilckK x0 fun v19 => fadrK 2 v19 fun v20 => storeK h v20 v18 fun h => K (.tup []) h
noncomputable def p243_46 (call : CallFn) (n : Nat) (x0 x4 x6 x7 x8 : AV) (h : AHeap) (K : Kont) : Bool :=
  fadrK 7 x4 fun v59 => loadK h v59 fun v60 => iadrK h 8 v60 (.int .i64 0) fun v61 => loadGK h 8 v61 fun v62 => call (.func 243) [x0, v62, x8] h <| pz K fun v63 h => optPK (bsliceV h 1 1 [.str []] [(0, x7)]) fun v64 h => call (.func 194) [x0, v64] h <| pz K fun v65 h => fadrK 7 x4 fun v66 => loadK h v66 fun v67 => iadrK h 8 v67 (.int .i64 1) fun v68 => loadGK h 8 v68 fun v69 => addK x6 (.int .i64 1) fun v70 => call (.func 243) [x0, v69, v70] h <| pz K fun v71 h => p243_51 call n x0 h K
set_option maxRecDepth 100000 in
noncomputable def p243_6001 (call : CallFn) (n : Nat) (x0 x2 x4 x14 : AV) (h : AHeap) (K : Kont) : Bool :=
  extK 0 x14 fun v6 => extK 1 x14 fun v7 => lssK v6 x2 fun v8 => condK v8 (optPK (bsliceV h 1 1 [.str []] [(0, (.str [40]))]) fun v9 h => call (.func 194) [x0, v9] h <| pz K fun v10 h => loadGK h 8 x4 fun v11 => call (.func 243) [x0, v11, (.int .i64 0)] h <| pz K fun v12 h => optPK (bsliceV h 1 1 [.str []] [(0, (.str [41]))]) fun v13 h => call (.func 194) [x0, v13] h <| pz K fun v14 h => p243_51 call n x0 h K) (eqlK v6 (.int .i64 7) fun v22 => condK v22 (loadGK h 8 x4 fun v23 => call (.func 275) [x0, v23] h <| pz K fun v24 h => p243_51 call n x0 h K) (eqlK v6 (.int .i64 6) fun v25 => condK v25 (fadrK 7 x4 fun v26 => loadK h v26 fun v27 => lenK v27 fun v28 => eqlK v28 (.int .i64 1) fun v29 => call (.func 196) [v29] h <| pz K fun v30 h => fadrK 7 x4 fun v31 => loadK h v31 fun v32 => iadrK h 8 v32 (.int .i64 0) fun v33 => loadGK h 8 v33 fun v34 => call (.func 243) [x0, v34, (.int .i64 6)] h <| pz K fun v35 h => fadrK 1 x4 fun v36 => loadK h v36 fun v37 => optPK (bsliceV h 2 1 [.str []] [(0, v7), (1, v37)]) fun v38 h => call (.func 194) [x0, v38] h <| pz K fun v39 h => p243_51 call n x0 h K) (eqlK v6 (.int .i64 5) fun v40 => condK v40 (fadrK 7 x4 fun v41 => loadK h v41 fun v42 => lenK v42 fun v43 => eqlK v43 (.int .i64 1) fun v44 => call (.func 196) [v44] h <| pz K fun v45 h => optPK (bsliceV h 1 1 [.str []] [(0, v7)]) fun v46 h => call (.func 194) [x0, v46] h <| pz K fun v47 h => fadrK 7 x4 fun v48 => loadK h v48 fun v49 => iadrK h 8 v49 (.int .i64 0) fun v50 => loadGK h 8 v50 fun v51 => call (.func 243) [x0, v51, (.int .i64 5)] h <| pz K fun v52 h => p243_51 call n x0 h K) (fadrK 7 x4 fun v53 => loadK h v53 fun v54 => lenK v54 fun v55 => eqlK v55 (.int .i64 2) fun v56 => call (.func 196) [v56] h <| pz K fun v57 h => eqlK v6 (.int .i64 2) fun v58 => condK v58 (p243_46 call n x0 x4 v6 v7 (.int .i64 3) h K) (p243_46 call n x0 x4 v6 v7 v6 h K)))))
noncomputable def s243 (call : CallFn) (n : Nat) (x0 x1 x2 : AV) (h : AHeap) (K : Kont) : Bool :=
  optPK (boxA h (none) 8 x1) fun v1 h => call (.func 268) [x0] h <| pz K fun v2 h => fadrK 0 v1 fun v3 => loadK h v3 fun v4 => call (.func 274) [v4] h <| pz K fun v5 h => p243_6001 call n x0 x2 v1 v5 h K

/-! ### 244 slices.EqualFunc[[]proctor/api.Cond,[]proctor/api.Cond,proctor/api.Cond,proctor/api.Cond] -/
noncomputable def p244_29001 (call : CallFn) (n : Nat) (B14 : F5) (x1 x2 x15 x16 x17 x29 : AV) (h : AHeap) (K : Kont) : Bool :=
  notK x29 fun v17 => condK v17 (K (.bool false) h) (addK x17 (.int .i64 1) fun v18 => B14 x1 x2 x15 x16 v18 h)
noncomputable def b244_14 (call : CallFn) (n : Nat) (B14 : F5) (x1 x2 x15 x16 x17 : AV) (h : AHeap) (K : Kont) : Bool :=
  lssK x17 x16 fun v5 => condK v5 (iadrK h 19 x15 x17 fun v6 => loadGK h 19 v6 fun v7 => allocK h [.int .i64 0, .str [], .str [], .nilSlc, .nilSlc, .nilSlc, .nilSlc, .nilSlc, .int .i64 0, .str [], .int .i64 0, .bool false, .int .i64 0, .str [], .nilSlc, .nilSlc, .str [], .str [], .nilSlc] 19 fun v8 h => storeNK h 19 v8 v7 fun h => iadrK h 19 x1 x17 fun v10 => loadGK h 19 v10 fun v11 => allocK h [.int .i64 0, .str [], .str [], .nilSlc, .nilSlc, .nilSlc, .nilSlc, .nilSlc, .int .i64 0, .str [], .int .i64 0, .bool false, .int .i64 0, .str [], .nilSlc, .nilSlc, .str [], .str [], .nilSlc] 19 fun v12 h => storeNK h 19 v12 v11 fun h => loadGK h 19 v8 fun v14 => loadGK h 19 v12 fun v15 => callV call x2 [v14, v15] h <| pz K fun v16 h => p244_29001 call n B14 x1 x2 x15 x16 x17 v16 h K) (K (.bool true) h)
noncomputable def l244_14 (call : CallFn) (n : Nat) : Nat → AV → AV → AV → AV → AV → AHeap → Kont → Bool :=
  @Nat.rec (fun _ => AV → AV → AV → AV → AV → AHeap → Kont → Bool) (fun _ _ _ _ _ _ _ => false) (fun _ ih x1 x2 x15 x16 x17 h K => b244_14 call n (fun x1 x2 x15 x16 x17 h => ih x1 x2 x15 x16 x17 h K) x1 x2 x15 x16 x17 h K)
noncomputable def p244_10 (call : CallFn) (n : Nat) (x0 x1 x2 : AV) (h : AHeap) (K : Kont) : Bool :=
  lenK x0 fun v4 => l244_14 call n n x1 x2 x0 v4 (.int .i64 0) h K
noncomputable def s244 (call : CallFn) (n : Nat) (x0 x1 x2 : AV) (h : AHeap) (K : Kont) : Bool :=
  lenK x0 fun v1 => lenK x1 fun v2 => neqK v1 v2 fun v3 => condK v3 (K (.bool false) h) (p244_10 call n x0 x1 x2 h K)

/-! ### 245 proctor/print.sameCond -/
noncomputable def p245_4007 (call : CallFn) (n : Nat) (x80 x85 : AV) (h : AHeap) (K : Kont) : Bool :=
  pickK x80 x85 (.bool false) fun v73 => K v73 h
noncomputable def p245_4006 (call : CallFn) (n : Nat) (x2 x3 x73 x78 : AV) (h : AHeap) (K : Kont) : Bool :=
  pickK x73 x78 (.bool false) fun v67 => gK v67 true (fadrK 18 x2) fun v68 => gK v67 true (loadK h v68) fun v69 => gK v67 true (fadrK 18 x3) fun v70 => gK v67 true (loadK h v70) fun v71 => gP v67 true (fun k => call (.func 279) [v69, v71, (.fn (.func 280) [] [])] h (pz K k)) h fun v72 h => p245_4007 call n v67 v72 h K
noncomputable def p245_4005 (call : CallFn) (n : Nat) (x2 x3 x66 x71 : AV) (h : AHeap) (K : Kont) : Bool :=
  pickK x66 x71 (.bool false) fun v61 => gK v61 true (fadrK 8 x2) fun v62 => gK v61 true (loadGK h 8 v62) fun v63 => gK v61 true (fadrK 8 x3) fun v64 => gK v61 true (loadGK h 8 v64) fun v65 => gP v61 true (fun k => call (.func 248) [v63, v65] h (pz K k)) h fun v66 h => p245_4006 call n x2 x3 v61 v66 h K
noncomputable def p245_4004 (call : CallFn) (n : Nat) (x2 x3 x59 x64 : AV) (h : AHeap) (K : Kont) : Bool :=
  pickK x59 x64 (.bool false) fun v55 => gK v55 true (fadrK 7 x2) fun v56 => gK v55 true (loadK h v56) fun v57 => gK v55 true (fadrK 7 x3) fun v58 => gK v55 true (loadK h v58) fun v59 => gP v55 true (fun k => call (.func 278) [v57, v59, (.fn (.func 203) [] [])] h (pz K k)) h fun v60 h => p245_4005 call n x2 x3 v55 v60 h K
noncomputable def p245_4003 (call : CallFn) (n : Nat) (x2 x3 x52 x57 : AV) (h : AHeap) (K : Kont) : Bool :=
  pickK x52 x57 (.bool false) fun v49 => gK v49 true (fadrK 6 x2) fun v50 => gK v49 true (loadK h v50) fun v51 => gK v49 true (fadrK 6 x3) fun v52 => gK v49 true (loadK h v52) fun v53 => gP v49 true (fun k => call (.func 203) [v51, v53] h (pz K k)) h fun v54 h => p245_4004 call n x2 x3 v49 v54 h K
noncomputable def p245_4002 (call : CallFn) (n : Nat) (x2 x3 x45 x50 : AV) (h : AHeap) (K : Kont) : Bool :=
  pickK x45 x50 (.bool false) fun v43 => gK v43 true (fadrK 5 x2) fun v44 => gK v43 true (loadK h v44) fun v45 => gK v43 true (fadrK 5 x3) fun v46 => gK v43 true (loadK h v46) fun v47 => gP v43 true (fun k => call (.func 203) [v45, v47] h (pz K k)) h fun v48 h => p245_4003 call n x2 x3 v43 v48 h K
noncomputable def p245_4001 (call : CallFn) (n : Nat) (x2 x3 x38 x43 : AV) (h : AHeap) (K : Kont) : Bool :=
  pickK x38 x43 (.bool false) fun v37 => gK v37 true (fadrK 4 x2) fun v38 => gK v37 true (loadK h v38) fun v39 => gK v37 true (fadrK 4 x3) fun v40 => gK v37 true (loadK h v40) fun v41 => gP v37 true (fun k => call (.func 277) [v39, v41, (.fn (.func 248) [] [])] h (pz K k)) h fun v42 h => p245_4002 call n x2 x3 v37 v42 h K
noncomputable def s245 (call : CallFn) (n : Nat) (x0 x1 : AV) (h : AHeap) (K : Kont) : Bool :=
  optPK (boxA h (none) 19 x0) fun v1 h => optPK (boxA h (none) 19 x1) fun v2 h => fadrK 0 v1 fun v3 => loadK h v3 fun v4 => fadrK 0 v2 fun v5 => loadK h v5 fun v6 => eqlK v4 v6 fun v7 => gK v7 true (fadrK 1 v1) fun v8 => gK v7 true (loadK h v8) fun v9 => gK v7 true (fadrK 1 v2) fun v10 => gK v7 true (loadK h v10) fun v11 => gK v7 true (eqlK v9 v11) fun v12 => pickK v7 v12 (.bool false) fun v13 => gK v13 true (fadrK 2 v1) fun v14 => gK v13 true (loadK h v14) fun v15 => gK v13 true (fadrK 2 v2) fun v16 => gK v13 true (loadK h v16) fun v17 => gK v13 true (eqlK v15 v17) fun v18 => pickK v13 v18 (.bool false) fun v19 => gK v19 true (fadrK 16 v1) fun v20 => gK v19 true (loadK h v20) fun v21 => gK v19 true (fadrK 16 v2) fun v22 => gK v19 true (loadK h v22) fun v23 => gK v19 true (eqlK v21 v23) fun v24 => pickK v19 v24 (.bool false) fun v25 => gK v25 true (fadrK 17 v1) fun v26 => gK v25 true (loadK h v26) fun v27 => gK v25 true (fadrK 17 v2) fun v28 => gK v25 true (loadK h v28) fun v29 => gK v25 true (eqlK v27 v29) fun v30 => pickK v25 v30 (.bool false) fun v31 => gK v31 true (fadrK 3 v1) fun v32 => gK v31 true (loadK h v32) fun v33 => gK v31 true (fadrK 3 v2) fun v34 => gK v31 true (loadK h v34) fun v35 => gP v31 true (fun k => call (.func 276) [v33, v35] h (pz K k)) h fun v36 h => p245_4001 call n v1 v2 v31 v36 h K

/-! ### 246 slices.EqualFunc[[]proctor/api.Assign,[]proctor/api.Assign,proctor/api.Assign,proctor/api.Assign] -/
noncomputable def p246_29001 (call : CallFn) (n : Nat) (B14 : F5) (x1 x2 x15 x16 x17 x29 : AV) (h : AHeap) (K : Kont) : Bool :=
  notK x29 fun v17 => condK v17 (K (.bool false) h) (addK x17 (.int .i64 1) fun v18 => B14 x1 x2 x15 x16 v18 h)
noncomputable def b246_14 (call : CallFn) (n : Nat) (B14 : F5) (x1 x2 x15 x16 x17 : AV) (h : AHeap) (K : Kont) : Bool :=
  lssK x17 x16 fun v5 => condK v5 (iadrK h 9 x15 x17 fun v6 => loadGK h 9 v6 fun v7 => allocK h [.str [], .int .i64 0, .str [], .int .i64 0, .bool false, .int .i64 0, .str [], .nilSlc, .nilSlc] 9 fun v8 h => storeNK h 9 v8 v7 fun h => iadrK h 9 x1 x17 fun v10 => loadGK h 9 v10 fun v11 => allocK h [.str [], .int .i64 0, .str [], .int .i64 0, .bool false, .int .i64 0, .str [], .nilSlc, .nilSlc] 9 fun v12 h => storeNK h 9 v12 v11 fun h => loadGK h 9 v8 fun v14 => loadGK h 9 v12 fun v15 => callV call x2 [v14, v15] h <| pz K fun v16 h => p246_29001 call n B14 x1 x2 x15 x16 x17 v16 h K) (K (.bool true) h)
noncomputable def l246_14 (call : CallFn) (n : Nat) : Nat → AV → AV → AV → AV → AV → AHeap → Kont → Bool :=
  @Nat.rec (fun _ => AV → AV → AV → AV → AV → AHeap → Kont → Bool) (fun _ _ _ _ _ _ _ => false) (fun _ ih x1 x2 x15 x16 x17 h K => b246_14 call n (fun x1 x2 x15 x16 x17 h => ih x1 x2 x15 x16 x17 h K) x1 x2 x15 x16 x17 h K)
noncomputable def p246_10 (call : CallFn) (n : Nat) (x0 x1 x2 : AV) (h : AHeap) (K : Kont) : Bool :=
  lenK x0 fun v4 => l246_14 call n n x1 x2 x0 v4 (.int .i64 0) h K
noncomputable def s246 (call : CallFn) (n : Nat) (x0 x1 x2 : AV) (h : AHeap) (K : Kont) : Bool :=
  lenK x0 fun v1 => lenK x1 fun v2 => neqK v1 v2 fun v3 => condK v3 (K (.bool false) h) (p246_10 call n x0 x1 x2 h K)

/-! ### 248 proctor/print.sameExpr -/
noncomputable def p248_4002 (call : CallFn) (n : Nat) (x24 x29 : AV) (h : AHeap) (K : Kont) : Bool :=
  pickK x24 x29 (.bool false) fun v25 => K v25 h
noncomputable def p248_4001 (call : CallFn) (n : Nat) (x2 x3 x17 x22 : AV) (h : AHeap) (K : Kont) : Bool :=
  pickK x17 x22 (.bool false) fun v19 => gK v19 true (fadrK 7 x2) fun v20 => gK v19 true (loadK h v20) fun v21 => gK v19 true (fadrK 7 x3) fun v22 => gK v19 true (loadK h v22) fun v23 => gP v19 true (fun k => call (.func 277) [v21, v23, (.fn (.func 248) [] [])] h (pz K k)) h fun v24 h => p248_4002 call n v19 v24 h K
noncomputable def s248 (call : CallFn) (n : Nat) (x0 x1 : AV) (h : AHeap) (K : Kont) : Bool :=
  optPK (boxA h (none) 8 x0) fun v1 h => optPK (boxA h (none) 8 x1) fun v2 h => fadrK 0 v1 fun v3 => loadK h v3 fun v4 => fadrK 0 v2 fun v5 => loadK h v5 fun v6 => eqlK v4 v6 fun v7 => gK v7 true (fadrK 1 v1) fun v8 => gK v7 true (loadK h v8) fun v9 => gK v7 true (fadrK 1 v2) fun v10 => gK v7 true (loadK h v10) fun v11 => gK v7 true (eqlK v9 v11) fun v12 => pickK v7 v12 (.bool false) fun v13 => gK v13 true (fadrK 2 v1) fun v14 => gK v13 true (loadGK h 5 v14) fun v15 => gK v13 true (fadrK 2 v2) fun v16 => gK v13 true (loadGK h 5 v16) fun v17 => gP v13 true (fun k => call (.func 281) [v15, v17] h (pz K k)) h fun v18 h => p248_4001 call n v1 v2 v13 v18 h K

/-! ### 249 (*proctor/check.checker).pattern$1 -/
noncomputable def p249_4001 (call : CallFn) (n : Nat) (x2 x3 x4 x10 x14 : AV) (h : AHeap) (K : Kont) : Bool :=
  pickK x10 (.bool true) x14 fun v9 => call (.func 156) [v9] h <| pz K fun v10 h => fadrK 0 x4 fun v11 => loadK h v11 fun v12 => eqlK v12 (.int .i64 3) fun v13 => condK v13 (loadK h x2 fun v14 => nilckK v14 fun v15 => fadrK 3 v15 fun v16 => loadK h v16 fun v17 => fadrK 2 x3 fun v18 => loadK h v18 fun v19 => fadrK 1 x4 fun v20 => loadK h v20 fun v21 => call (.func 211) [v17, v19, v21] h <| pz K fun v22 h => extK 0 v22 fun v23 => extK 1 v22 fun v24 => eqlK v24 (.int .i64 0) fun v25 => call (.func 156) [v25] h <| pz K fun v26 h => K (.tup []) h) (K (.tup []) h)
noncomputable def s249 (call : CallFn) (n : Nat) (x0 x1 x2 x3 : AV) (h : AHeap) (K : Kont) : Bool :=
  optPK (boxA h (none) 8 x0) fun v1 h => fadrK 0 v1 fun v2 => loadK h v2 fun v3 => neqK v3 (.int .i64 2) fun v4 => gK v4 false (loadK h x1) fun v5 => gK v4 false (fadrK 1 v1) fun v6 => gK v4 false (loadK h v6) fun v7 => gP v4 false (fun k => call (.func 84) [v5, v7] h (pz K k)) h fun v8 h => p249_4001 call n x2 x3 v1 v4 v8 h K

/-! ### 250 maps.Copy[proctor/check.scope,proctor/check.scope,string,proctor/check.state] -/
noncomputable def b250_3 (call : CallFn) (n : Nat) (B3 : F2) (x0 x7 : AV) (h : AHeap) (K : Kont) : Bool :=
  nextA h x7 fun v2 h => extK 0 v2 fun v3 => condK v3 (optK (entA h x7) fun v4 => extK 0 v4 fun v5 => extK 1 v4 fun v6 => optPK (unit (mupdA h (.leaf .str) x0 v5 v6)) fun _ h => B3 x0 x7 h) (K (.tup []) h)
noncomputable def l250_3 (call : CallFn) (n : Nat) : Nat → AV → AV → AHeap → Kont → Bool :=
  @Nat.rec (fun _ => AV → AV → AHeap → Kont → Bool) (fun _ _ _ _ => false) (fun _ ih x0 x7 h K => b250_3 call n (fun x0 x7 h => ih x0 x7 h K) x0 x7 h K)
noncomputable def s250 (call : CallFn) (n : Nat) (x0 x1 : AV) (h : AHeap) (K : Kont) : Bool :=
  optPK (rngA h x1) fun v1 h => l250_3 call n n x0 v1 h K

/-! ### 252 slices.IndexFunc[[]proctor/api.Field,proctor/api.Field] -/
noncomputable def b252_6 (call : CallFn) (n : Nat) (B6 : F4) (x0 x1 x7 x8 : AV) (h : AHeap) (K : Kont) : Bool :=
  lssK x8 x7 fun v2 => condK v2 (iadrK h 3 x0 x8 fun v3 => loadGK h 3 v3 fun v4 => callV call x1 [v4] h <| pz K fun v5 h => condK v5 (K x8 h) (addK x8 (.int .i64 1) fun v6 => B6 x0 x1 x7 v6 h)) (K (.int .i64 (-1)) h)
noncomputable def l252_6 (call : CallFn) (n : Nat) : Nat → AV → AV → AV → AV → AHeap → Kont → Bool :=
  @Nat.rec (fun _ => AV → AV → AV → AV → AHeap → Kont → Bool) (fun _ _ _ _ _ _ => false) (fun _ ih x0 x1 x7 x8 h K => b252_6 call n (fun x0 x1 x7 x8 h => ih x0 x1 x7 x8 h K) x0 x1 x7 x8 h K)
noncomputable def s252 (call : CallFn) (n : Nat) (x0 x1 : AV) (h : AHeap) (K : Kont) : Bool :=
  lenK x0 fun v1 => l252_6 call n n x0 x1 v1 (.int .i64 0) h K

/-! ### 253 (*proctor/class.Table).Index$1 -/
noncomputable def s253 (call : CallFn) (n : Nat) (x0 x1 : AV) (h : AHeap) (K : Kont) : Bool :=
  optPK (boxA h (none) 3 x0) fun v1 h => fadrK 0 v1 fun v2 => loadK h v2 fun v3 => loadK h x1 fun v4 => eqlK v3 v4 fun v5 => K v5 h

/-! ### 260 (*strings.Builder).copyCheck -/
noncomputable def p260_4001 (call : CallFn) (n : Nat) (x7 x10 : AV) (h : AHeap) (K : Kont) : Bool :=
  optK (ufrA h 301 2 [] x10) fun v7 => nilckK x7 fun v8 => fadrK 0 v8 fun v9 => storeK h v9 v7 fun h => K (.tup []) h
noncomputable def s260 (call : CallFn) (n : Nat) (x0 : AV) (h : AHeap) (K : Kont) : Bool :=
  nilckK x0 fun v1 => fadrK 0 v1 fun v2 => loadK h v2 fun v3 => optK (eqV h false .ptr v3 .nilPtr) fun v4 => condK v4 (optK (utoA h x0) fun v5 => call (.func 284) [v5] h <| pz K fun v6 h => p260_4001 call n x0 v6 h K) (nilckK x0 fun v11 => fadrK 0 v11 fun v12 => loadK h v12 fun v13 => optK (eqV h true .ptr v13 x0) fun v14 => condK v14 (false) (K (.tup []) h))

/-! ### 261 internal/stringslite.HasPrefix -/
noncomputable def s261 (call : CallFn) (n : Nat) (x0 x1 : AV) (h : AHeap) (K : Kont) : Bool :=
  lenSK x0 fun v1 => lenSK x1 fun v2 => geqK v1 v2 fun v3 => gK v3 true (optK (some x0)) fun v4 => gK v3 true (optK (some x1)) fun v5 => gK v3 true (lenSK v5) fun v6 => gK v3 true (slsK v4 none (some v6)) fun v7 => gK v3 true (optK (some x1)) fun v8 => gK v3 true (eqlK v7 v8) fun v9 => pickK v3 v9 (.bool false) fun v10 => K v10 h

/-! ### 263 (*proctor/parse.parser).atom -/
noncomputable def p263_17001 (call : CallFn) (n : Nat) (x2 x39 : AV) (h : AHeap) (K : Kont) : Bool :=
  storeNK h 9 x2 x39 fun h => optR (resV h [(x2, some (true, 9))]) h K
noncomputable def p263_11001 (call : CallFn) (n : Nat) (x1 x2 x23 : AV) (h : AHeap) (K : Kont) : Bool :=
  extK 0 x23 fun v15 => extK 1 x23 fun v16 => loadK h x1 fun v17 => optK (eqV h false .ifn v16 .nilIf) fun v18 => call (.func 37) [v17, v18] h <| pz K fun v19 h => loadK h x1 fun v20 => nilckK v20 fun v21 => fadrK 1 v21 fun v22 => loadK h v22 fun v23 => addK v23 (.int .i64 1) fun v24 => nilckK v20 fun v25 => fadrK 1 v25 fun v26 => storeK h v26 v24 fun h => buildK [.int .i64 0, .bool false, .int .i64 0, .str [], .nilSlc] [(0, 1, (.int .i64 2)), (2, 1, v15)] fun v28 => call (.func 285) [v28] h <| pz K fun v29 h => p263_17001 call n x2 v29 h K
noncomputable def p263_23002 (call : CallFn) (n : Nat) (x2 x47 : AV) (h : AHeap) (K : Kont) : Bool :=
  storeNK h 9 x2 x47 fun h => optR (resV h [(x2, some (true, 9))]) h K
noncomputable def p263_23001 (call : CallFn) (n : Nat) (x2 x45 : AV) (h : AHeap) (K : Kont) : Bool :=
  buildK [.int .i64 0, .bool false, .int .i64 0, .str [], .nilSlc] [(0, 1, (.int .i64 3)), (3, 1, x45)] fun v36 => call (.func 285) [v36] h <| pz K fun v37 h => p263_23002 call n x2 v37 h K
noncomputable def p263_33001 (call : CallFn) (n : Nat) (x2 x57 : AV) (h : AHeap) (K : Kont) : Bool :=
  storeNK h 9 x2 x57 fun h => optR (resV h [(x2, some (true, 9))]) h K
noncomputable def p263_39001 (call : CallFn) (n : Nat) (x2 x62 : AV) (h : AHeap) (K : Kont) : Bool :=
  storeNK h 9 x2 x62 fun h => optR (resV h [(x2, some (true, 9))]) h K
noncomputable def p263_45001 (call : CallFn) (n : Nat) (x2 x68 : AV) (h : AHeap) (K : Kont) : Bool :=
  buildK [.int .i64 0, .str [], .int .i64 0, .bool false, .int .i64 0, .str [], .nilSlc, .nilSlc] [(0, 1, (.int .i64 2)), (1, 1, x68)] fun v57 => buildK [.int .i64 0, .str [], .int .i64 0, .bool false, .int .i64 0, .str [], .nilSlc, .nilSlc, .int .i64 0] [(0, 8, v57), (8, 1, (.int .i64 1))] fun v58 => storeNK h 9 x2 v58 fun h => optR (resV h [(x2, some (true, 9))]) h K
noncomputable def p263_53001 (call : CallFn) (n : Nat) (x1 x2 x77 : AV) (h : AHeap) (K : Kont) : Bool :=
  allocK h [.int .i64 0, .str [], .int .i64 0, .bool false, .int .i64 0, .str [], .nilSlc, .nilSlc, .int .i64 0] 9 fun v66 h => storeNK h 9 v66 x77 fun h => loadK h x1 fun v68 => call (.func 43) [v68, (.str [41])] h <| pz K fun v69 h => loadGK h 9 v66 fun v70 => storeNK h 9 x2 v70 fun h => optR (resV h [(x2, some (true, 9))]) h K
noncomputable def p263_69001 (call : CallFn) (n : Nat) (x2 x92 : AV) (h : AHeap) (K : Kont) : Bool :=
  storeNK h 9 x2 x92 fun h => optR (resV h [(x2, some (true, 9))]) h K
noncomputable def p263_81001 (call : CallFn) (n : Nat) (x2 x106 : AV) (h : AHeap) (K : Kont) : Bool :=
  storeNK h 9 x2 x106 fun h => optR (resV h [(x2, some (true, 9))]) h K
noncomputable def p263_77001 (call : CallFn) (n : Nat) (x1 x2 x3 x99 : AV) (h : AHeap) (K : Kont) : Bool :=
  allocK h [.int .i64 0, .str [], .int .i64 0, .bool false, .int .i64 0, .str [], .nilSlc, .nilSlc, .int .i64 0] 9 fun v90 h => storeNK h 9 v90 x99 fun h => loadK h x1 fun v92 => call (.func 43) [v92, (.str [41])] h <| pz K fun v93 h => buildK [.int .i64 0, .str [], .int .i64 0, .bool false, .int .i64 0, .str [], .nilSlc, .nilSlc] [(0, 1, (.int .i64 21))] fun v94 => loadGK h 9 v90 fun v95 => optPK (bsliceV h 1 9 [.int .i64 0, .str [], .int .i64 0, .bool false, .int .i64 0, .str [], .nilSlc, .nilSlc, .int .i64 0] [(0, v95)]) fun v96 h => call (.func 193) [x3, v94, v96] h <| pz K fun v97 h => p263_81001 call n x2 v97 h K
noncomputable def p263_97001 (call : CallFn) (n : Nat) (x2 x126 : AV) (h : AHeap) (K : Kont) : Bool :=
  storeNK h 9 x2 x126 fun h => optR (resV h [(x2, some (true, 9))]) h K
noncomputable def p263_93001 (call : CallFn) (n : Nat) (x1 x2 x3 x10 x118 : AV) (h : AHeap) (K : Kont) : Bool :=
  allocK h [.int .i64 0, .str [], .int .i64 0, .bool false, .int .i64 0, .str [], .nilSlc, .nilSlc, .int .i64 0] 9 fun v112 h => storeNK h 9 v112 x118 fun h => loadK h x1 fun v114 => call (.func 43) [v114, (.str [41])] h <| pz K fun v115 h => buildK [.int .i64 0, .str [], .int .i64 0, .bool false, .int .i64 0, .str [], .nilSlc, .nilSlc] [(0, 1, (.int .i64 22))] fun v116 => loadGK h 9 x10 fun v117 => loadGK h 9 v112 fun v118 => optPK (bsliceV h 2 9 [.int .i64 0, .str [], .int .i64 0, .bool false, .int .i64 0, .str [], .nilSlc, .nilSlc, .int .i64 0] [(0, v117), (1, v118)]) fun v119 h => call (.func 193) [x3, v116, v119] h <| pz K fun v120 h => p263_97001 call n x2 v120 h K
noncomputable def p263_89001 (call : CallFn) (n : Nat) (x1 x2 x3 x113 : AV) (h : AHeap) (K : Kont) : Bool :=
  allocK h [.int .i64 0, .str [], .int .i64 0, .bool false, .int .i64 0, .str [], .nilSlc, .nilSlc, .int .i64 0] 9 fun v105 h => storeNK h 9 v105 x113 fun h => loadK h x1 fun v107 => optPK (bsliceV h 1 1 [.str []] [(0, (.str [44]))]) fun v108 h => call (.func 21) [v107, v108] h <| pz K fun v109 h => loadK h x1 fun v110 => call (.func 144) [v110, (.int .i64 0)] h <| pz K fun v111 h => p263_93001 call n x1 x2 x3 v105 v111 h K
noncomputable def p263_101001 (call : CallFn) (n : Nat) (x2 x128 : AV) (h : AHeap) (K : Kont) : Bool :=
  buildK [.int .i64 0, .str [], .int .i64 0, .bool false, .int .i64 0, .str [], .nilSlc, .nilSlc] [(0, 1, (.int .i64 3)), (1, 1, x128)] fun v124 => buildK [.int .i64 0, .str [], .int .i64 0, .bool false, .int .i64 0, .str [], .nilSlc, .nilSlc, .int .i64 0] [(0, 8, v124), (8, 1, (.int .i64 1))] fun v125 => storeNK h 9 x2 v125 fun h => optR (resV h [(x2, some (true, 9))]) h K
set_option maxRecDepth 100000 in
noncomputable def p263_30 (call : CallFn) (n : Nat) (x1 x2 x3 x4 x48 : AV) (h : AHeap) (K : Kont) : Bool :=
  condK x48 (fadrK 1 x4 fun v41 => loadK h v41 fun v42 => eqlK v42 (.str [116, 114, 117, 101]) fun v43 => buildK [.int .i64 0, .bool false, .int .i64 0, .str [], .nilSlc] [(0, 1, (.int .i64 1)), (1, 1, v43)] fun v44 => call (.func 285) [v44] h <| pz K fun v45 h => p263_33001 call n x2 v45 h K) (loadK h x1 fun v47 => call (.func 18) [v47, (.str [110, 117, 108, 108])] h <| pz K fun v48 h => condK v48 (buildK [.int .i64 0, .bool false, .int .i64 0, .str [], .nilSlc] [] fun v49 => call (.func 285) [v49] h <| pz K fun v50 h => p263_39001 call n x2 v50 h K) (fadrK 0 x4 fun v52 => loadK h v52 fun v53 => eqlK v53 (.int .i64 1) fun v54 => condK v54 (loadK h x1 fun v55 => call (.func 50) [v55] h <| pz K fun v56 h => p263_45001 call n x2 v56 h K) (loadK h x1 fun v60 => call (.func 38) [v60, (.int .i64 0), (.str [40])] h <| pz K fun v61 h => condK v61 (loadK h x1 fun v62 => call (.func 40) [v62, (.str [40])] h <| pz K fun v63 h => loadK h x1 fun v64 => call (.func 144) [v64, (.int .i64 0)] h <| pz K fun v65 h => p263_53001 call n x1 x2 v65 h K) (loadK h x1 fun v72 => call (.func 38) [v72, (.int .i64 0), (.str [91])] h <| pz K fun v73 h => condK v73 (allocK h [.nilSlc] 1 fun v74 h => loadK h x1 fun v75 => call (.func 40) [v75, (.str [91])] h <| pz K fun v76 h => loadK h x1 fun v77 => optK (some (.fn (.func 286) [] [v74, x1])) fun v78 => call (.func 48) [v77, (.str [93]), v78] h <| pz K fun v79 h => buildK [.int .i64 0, .str [], .int .i64 0, .bool false, .int .i64 0, .str [], .nilSlc, .nilSlc] [(0, 1, (.int .i64 5))] fun v80 => loadK h v74 fun v81 => call (.func 193) [x3, v80, v81] h <| pz K fun v82 h => p263_69001 call n x2 v82 h K) (loadK h x1 fun v84 => call (.func 18) [v84, (.str [115, 105, 122, 101])] h <| pz K fun v85 h => condK v85 (loadK h x1 fun v86 => call (.func 40) [v86, (.str [40])] h <| pz K fun v87 h => loadK h x1 fun v88 => call (.func 144) [v88, (.int .i64 0)] h <| pz K fun v89 h => p263_77001 call n x1 x2 x3 v89 h K) (loadK h x1 fun v99 => call (.func 18) [v99, (.str [104, 97, 115])] h <| pz K fun v100 h => condK v100 (loadK h x1 fun v101 => call (.func 40) [v101, (.str [40])] h <| pz K fun v102 h => loadK h x1 fun v103 => call (.func 144) [v103, (.int .i64 0)] h <| pz K fun v104 h => p263_89001 call n x1 x2 x3 v104 h K) (loadK h x1 fun v122 => call (.func 39) [v122] h <| pz K fun v123 h => p263_101001 call n x2 v123 h K)))))))
noncomputable def s263 (call : CallFn) (n : Nat) (x0 : AV) (h : AHeap) (K : Kont) : Bool :=
  boxK h x0 fun v1 h => allocK h [.int .i64 0, .str [], .int .i64 0, .bool false, .int .i64 0, .str [], .nilSlc, .nilSlc, .int .i64 0] 9 fun v2 h => loadK h v1 fun v3 => loadK h v1 fun v4 => allocK h [.int .i64 0, .str [], .int .i64 0, .int .i64 0] 4 fun v5 h => loadK h v1 <| sameK v3 <| loadK h v1 <| sameK v4 <| call (.func 67) [v3] h <| pz (goneQ [v5] K) fun v6 h => loadK h v1 <| sameK v4 <| call (.func 68) [v4, (.int .i64 0)] h <| pz (goneQ [v5] K) fun v7 h => storeNK h 4 v5 v7 fun h => fadrK 0 v5 fun v9 => loadK h v9 fun v10 => eqlK v10 (.int .i64 2) fun v11 => condK v11 (fadrK 1 v5 fun v12 => loadK h v12 fun v13 => call (.func 73) [v13, (.int .i64 10), (.int .i64 64)] h <| pz K fun v14 h => p263_11001 call n v1 v2 v14 h K) (fadrK 0 v5 fun v31 => loadK h v31 fun v32 => eqlK v32 (.int .i64 3) fun v33 => condK v33 (loadK h v1 fun v34 => call (.func 70) [v34] h <| pz K fun v35 h => p263_23001 call n v2 v35 h K) (loadK h v1 fun v39 => call (.func 18) [v39, (.str [116, 114, 117, 101])] h <| pz K fun v40 h => condK v40 (p263_30 call n v1 v2 v6 v5 v40 h K) (loadK h v1 fun v127 => call (.func 18) [v127, (.str [102, 97, 108, 115, 101])] h <| pz K fun v128 h => p263_30 call n v1 v2 v6 v5 v128 h K)))

/-! ### 264 internal/strconv.small -/
noncomputable def s264 (call : CallFn) (n : Nat) (x0 : AV) (h : AHeap) (K : Kont) : Bool :=
  lssK x0 (.int .i64 10) fun v1 => condK v1 (addK x0 (.int .i64 1) fun v2 => slsK (.str [48, 49, 50, 51, 52, 53, 54, 55, 56, 57, 97, 98, 99, 100, 101, 102, 103, 104, 105, 106, 107, 108, 109, 110, 111, 112, 113, 114, 115, 116, 117, 118, 119, 120, 121, 122]) (some x0) (some v2) fun v3 => K v3 h) (optK (binA .mul x0 (.int .i64 2)) fun v4 => optK (binA .mul x0 (.int .i64 2)) fun v5 => addK v5 (.int .i64 2) fun v6 => slsK (.str [48, 48, 48, 49, 48, 50, 48, 51, 48, 52, 48, 53, 48, 54, 48, 55, 48, 56, 48, 57, 49, 48, 49, 49, 49, 50, 49, 51, 49, 52, 49, 53, 49, 54, 49, 55, 49, 56, 49, 57, 50, 48, 50, 49, 50, 50, 50, 51, 50, 52, 50, 53, 50, 54, 50, 55, 50, 56, 50, 57, 51, 48, 51, 49, 51, 50, 51, 51, 51, 52, 51, 53, 51, 54, 51, 55, 51, 56, 51, 57, 52, 48, 52, 49, 52, 50, 52, 51, 52, 52, 52, 53, 52, 54, 52, 55, 52, 56, 52, 57, 53, 48, 53, 49, 53, 50, 53, 51, 53, 52, 53, 53, 53, 54, 53, 55, 53, 56, 53, 57, 54, 48, 54, 49, 54, 50, 54, 51, 54, 52, 54, 53, 54, 54, 54, 55, 54, 56, 54, 57, 55, 48, 55, 49, 55, 50, 55, 51, 55, 52, 55, 53, 55, 54, 55, 55, 55, 56, 55, 57, 56, 48, 56, 49, 56, 50, 56, 51, 56, 52, 56, 53, 56, 54, 56, 55, 56, 56, 56, 57, 57, 48, 57, 49, 57, 50, 57, 51, 57, 52, 57, 53, 57, 54, 57, 55, 57, 56, 57, 57]) (some v4) (some v6) fun v7 => K v7 h)

/-! ### 268 (*proctor/print.writer).in -/
noncomputable def s268 (call : CallFn) (n : Nat) (x0 : AV) (h : AHeap) (K : Kont) : Bool :=
  nilckK x0 fun v1 => fadrK 2 v1 fun v2 => loadK h v2 fun v3 => addK v3 (.int .i64 1) fun v4 => nilckK x0 fun v5 => fadrK 2 v5 fun v6 => storeK h v6 v4 fun h => nilckK x0 fun v8 => fadrK 2 v8 fun v9 => loadK h v9 fun v10 => leqK v10 (.int .i64 8192) fun v11 => call (.func 196) [v11] h <| pz K fun v12 h => K (.tup []) h

/-! ### 269 (*proctor/print.writer).pattern -/
noncomputable def p269_18 (call : CallFn) (n : Nat) (x2 x3 : AV) (h : AHeap) (K : Kont) : Bool :=
  loadK h x2 fun v34 => fadrK 4 x3 fun v35 => loadK h v35 fun v36 => call (.func 293) [v34, v36] h <| pz K fun v37 h => loadK h x2 fun v38 => optPK (bsliceV h 1 1 [.str []] [(0, (.str [41]))]) fun v39 h => call (.func 194) [v38, v39] h <| pz K fun v40 h => K (.tup []) h
noncomputable def p269_8 (call : CallFn) (n : Nat) (x2 x3 : AV) (h : AHeap) (K : Kont) : Bool :=
  loadK h x2 fun v12 => fadrK 2 x3 fun v13 => loadK h v13 fun v14 => optPK (bsliceV h 2 1 [.str []] [(0, v14), (1, (.str [40]))]) fun v15 h => call (.func 194) [v12, v15] h <| pz K fun v16 h => loadK h x2 fun v17 => fadrK 3 x3 fun v18 => loadK h v18 fun v19 => optK (some (.fn (.func 292) [] [x2])) fun v20 => call (.func 291) [v17, v19, v20] h <| pz K fun v21 h => fadrK 3 x3 fun v22 => loadK h v22 fun v23 => lenK v23 fun v24 => gtrK v24 (.int .i64 0) fun v25 => gK v25 true (fadrK 4 x3) fun v26 => gK v25 true (loadK h v26) fun v27 => gK v25 true (lenK v27) fun v28 => gK v25 true (gtrK v28 (.int .i64 0)) fun v29 => pickK v25 v29 (.bool false) fun v30 => condK v30 (loadK h x2 fun v31 => optPK (bsliceV h 1 1 [.str []] [(0, (.str [44]))]) fun v32 h => call (.func 194) [v31, v32] h <| pz K fun v33 h => p269_18 call n x2 x3 h K) (p269_18 call n x2 x3 h K)
noncomputable def s269 (call : CallFn) (n : Nat) (x0 x1 : AV) (h : AHeap) (K : Kont) : Bool :=
  boxK h x0 fun v1 h => optPK (boxA h (none) 19 x1) fun v2 h => fadrK 1 v2 fun v3 => loadK h v3 fun v4 => neqK v4 (.str []) fun v5 => condK v5 (loadK h v1 fun v6 => fadrK 1 v2 fun v7 => loadK h v7 fun v8 => addK (.str [36]) v8 fun v9 => optPK (bsliceV h 2 1 [.str []] [(0, v9), (1, (.str [58]))]) fun v10 h => call (.func 194) [v6, v10] h <| pz K fun v11 h => p269_8 call n v1 v2 h K) (p269_8 call n v1 v2 h K)

/-! ### 270 proctor/print.commas[proctor/api.Arg] -/
noncomputable def p270_20 (call : CallFn) (n : Nat) (B3 : F5) (x0 x2 x7 x8 x9 x10 : AV) (h : AHeap) (K : Kont) : Bool :=
  loadGK h 9 x7 fun v10 => callV call x2 [v10] h <| pz K fun v11 h => addK x10 (.int .i64 1) fun v12 => B3 x0 x2 x8 x9 v12 h
noncomputable def b270_3 (call : CallFn) (n : Nat) (B3 : F5) (x0 x2 x8 x9 x10 : AV) (h : AHeap) (K : Kont) : Bool :=
  lssK x10 x9 fun v2 => condK v2 (iadrK h 9 x8 x10 fun v3 => loadGK h 9 v3 fun v4 => allocK h [.str [], .int .i64 0, .str [], .int .i64 0, .bool false, .int .i64 0, .str [], .nilSlc, .nilSlc] 9 fun v5 h => storeNK h 9 v5 v4 fun h => gtrK x10 (.int .i64 0) fun v7 => condK v7 (optPK (bsliceV h 1 1 [.str []] [(0, (.str [44]))]) fun v8 h => call (.func 194) [x0, v8] h <| pz K fun v9 h => p270_20 call n B3 x0 x2 v5 x8 x9 x10 h K) (p270_20 call n B3 x0 x2 v5 x8 x9 x10 h K)) (K (.tup []) h)
noncomputable def l270_3 (call : CallFn) (n : Nat) : Nat → AV → AV → AV → AV → AV → AHeap → Kont → Bool :=
  @Nat.rec (fun _ => AV → AV → AV → AV → AV → AHeap → Kont → Bool) (fun _ _ _ _ _ _ _ => false) (fun _ ih x0 x2 x8 x9 x10 h K => b270_3 call n (fun x0 x2 x8 x9 x10 h => ih x0 x2 x8 x9 x10 h K) x0 x2 x8 x9 x10 h K)
noncomputable def s270 (call : CallFn) (n : Nat) (x0 x1 x2 : AV) (h : AHeap) (K : Kont) : Bool :=
  lenK x1 fun v1 => l270_3 call n n x0 x2 x1 v1 (.int .i64 0) h K

/-! ### 271 (*proctor/print.writer).cond$1 -/
noncomputable def s271 (call : CallFn) (n : Nat) (x0 x1 : AV) (h : AHeap) (K : Kont) : Bool :=
  optPK (boxA h (none) 9 x0) fun v1 h => fadrK 1 v1 fun v2 => fadrK 0 v2 fun v3 => loadK h v3 fun v4 => eqlK v4 (.int .i64 0) fun v5 => condK v5 (loadK h x1 fun v6 => fadrK 0 v1 fun v7 => loadK h v7 fun v8 => addK (.str [36]) v8 fun v9 => optPK (bsliceV h 2 1 [.str []] [(0, v9), (1, (.str [63]))]) fun v10 h => call (.func 194) [v6, v10] h <| pz K fun v11 h => K (.tup []) h) (loadK h x1 fun v12 => fadrK 1 v1 fun v13 => loadGK h 8 v13 fun v14 => call (.func 243) [v12, v14, (.int .i64 0)] h <| pz K fun v15 h => K (.tup []) h)

/-! ### 272 proctor/print.commas[proctor/api.Assign] -/
noncomputable def p272_20 (call : CallFn) (n : Nat) (B3 : F5) (x0 x2 x7 x8 x9 x10 : AV) (h : AHeap) (K : Kont) : Bool :=
  loadGK h 9 x7 fun v10 => callV call x2 [v10] h <| pz K fun v11 h => addK x10 (.int .i64 1) fun v12 => B3 x0 x2 x8 x9 v12 h
noncomputable def b272_3 (call : CallFn) (n : Nat) (B3 : F5) (x0 x2 x8 x9 x10 : AV) (h : AHeap) (K : Kont) : Bool :=
  lssK x10 x9 fun v2 => condK v2 (iadrK h 9 x8 x10 fun v3 => loadGK h 9 v3 fun v4 => allocK h [.str [], .int .i64 0, .str [], .int .i64 0, .bool false, .int .i64 0, .str [], .nilSlc, .nilSlc] 9 fun v5 h => storeNK h 9 v5 v4 fun h => gtrK x10 (.int .i64 0) fun v7 => condK v7 (optPK (bsliceV h 1 1 [.str []] [(0, (.str [44]))]) fun v8 h => call (.func 194) [x0, v8] h <| pz K fun v9 h => p272_20 call n B3 x0 x2 v5 x8 x9 x10 h K) (p272_20 call n B3 x0 x2 v5 x8 x9 x10 h K)) (K (.tup []) h)
noncomputable def l272_3 (call : CallFn) (n : Nat) : Nat → AV → AV → AV → AV → AV → AHeap → Kont → Bool :=
  @Nat.rec (fun _ => AV → AV → AV → AV → AV → AHeap → Kont → Bool) (fun _ _ _ _ _ _ _ => false) (fun _ ih x0 x2 x8 x9 x10 h K => b272_3 call n (fun x0 x2 x8 x9 x10 h => ih x0 x2 x8 x9 x10 h K) x0 x2 x8 x9 x10 h K)
noncomputable def s272 (call : CallFn) (n : Nat) (x0 x1 x2 : AV) (h : AHeap) (K : Kont) : Bool :=
  lenK x1 fun v1 => l272_3 call n n x0 x2 x1 v1 (.int .i64 0) h K

/-! ### 274 proctor/print.hold -/
set_option maxRecDepth 100000 in
noncomputable def s274 (call : CallFn) (n : Nat) (x0 : AV) (h : AHeap) (K : Kont) : Bool :=
  eqlK x0 (.int .i64 9) fun v1 => condK v1 (K (.tup [(.int .i64 0), (.str [124, 124])]) h) (eqlK x0 (.int .i64 8) fun v2 => condK v2 (K (.tup [(.int .i64 1), (.str [38, 38])]) h) (eqlK x0 (.int .i64 10) fun v3 => condK v3 (K (.tup [(.int .i64 2), (.str [61, 61])]) h) (eqlK x0 (.int .i64 11) fun v4 => condK v4 (K (.tup [(.int .i64 2), (.str [33, 61])]) h) (eqlK x0 (.int .i64 12) fun v5 => condK v5 (K (.tup [(.int .i64 2), (.str [60])]) h) (eqlK x0 (.int .i64 13) fun v6 => condK v6 (K (.tup [(.int .i64 2), (.str [60, 61])]) h) (eqlK x0 (.int .i64 14) fun v7 => condK v7 (K (.tup [(.int .i64 2), (.str [62])]) h) (eqlK x0 (.int .i64 15) fun v8 => condK v8 (K (.tup [(.int .i64 2), (.str [62, 61])]) h) (eqlK x0 (.int .i64 16) fun v9 => condK v9 (K (.tup [(.int .i64 3), (.str [43])]) h) (eqlK x0 (.int .i64 17) fun v10 => condK v10 (K (.tup [(.int .i64 3), (.str [45])]) h) (eqlK x0 (.int .i64 18) fun v11 => condK v11 (K (.tup [(.int .i64 4), (.str [42])]) h) (eqlK x0 (.int .i64 19) fun v12 => condK v12 (K (.tup [(.int .i64 4), (.str [47])]) h) (eqlK x0 (.int .i64 20) fun v13 => condK v13 (K (.tup [(.int .i64 4), (.str [37])]) h) (eqlK x0 (.int .i64 6) fun v14 => condK v14 (K (.tup [(.int .i64 5), (.str [45])]) h) (eqlK x0 (.int .i64 7) fun v15 => condK v15 (K (.tup [(.int .i64 5), (.str [33])]) h) (eqlK x0 (.int .i64 4) fun v16 => condK v16 (K (.tup [(.int .i64 6), (.str [46])]) h) (K (.tup [(.int .i64 7), (.str [])]) h))))))))))))))))

/-! ### 275 (*proctor/print.writer).atom -/
set_option maxRecDepth 100000 in
noncomputable def s275 (call : CallFn) (n : Nat) (x0 x1 : AV) (h : AHeap) (K : Kont) : Bool :=
  optPK (boxA h (none) 8 x1) fun v1 h => fadrK 0 v1 fun v2 => loadK h v2 fun v3 => eqlK v3 (.int .i64 1) fun v4 => condK v4 (fadrK 2 v1 fun v5 => loadGK h 5 v5 fun v6 => call (.func 294) [x0, v6] h <| pz K fun v7 h => K (.tup []) h) (eqlK v3 (.int .i64 2) fun v8 => condK v8 (fadrK 1 v1 fun v9 => loadK h v9 fun v10 => addK (.str [36]) v10 fun v11 => optPK (bsliceV h 1 1 [.str []] [(0, v11)]) fun v12 h => call (.func 194) [x0, v12] h <| pz K fun v13 h => K (.tup []) h) (eqlK v3 (.int .i64 3) fun v14 => condK v14 (fadrK 1 v1 fun v15 => loadK h v15 fun v16 => optPK (bsliceV h 1 1 [.str []] [(0, v16)]) fun v17 h => call (.func 194) [x0, v17] h <| pz K fun v18 h => K (.tup []) h) (eqlK v3 (.int .i64 5) fun v19 => condK v19 (optPK (bsliceV h 1 1 [.str []] [(0, (.str [91]))]) fun v20 h => call (.func 194) [x0, v20] h <| pz K fun v21 h => fadrK 7 v1 fun v22 => loadK h v22 fun v23 => call (.func 293) [x0, v23] h <| pz K fun v24 h => optPK (bsliceV h 1 1 [.str []] [(0, (.str [93]))]) fun v25 h => call (.func 194) [x0, v25] h <| pz K fun v26 h => K (.tup []) h) (eqlK v3 (.int .i64 21) fun v27 => condK v27 (fadrK 7 v1 fun v28 => loadK h v28 fun v29 => lenK v29 fun v30 => eqlK v30 (.int .i64 1) fun v31 => call (.func 196) [v31] h <| pz K fun v32 h => optPK (bsliceV h 2 1 [.str []] [(0, (.str [115, 105, 122, 101])), (1, (.str [40]))]) fun v33 h => call (.func 194) [x0, v33] h <| pz K fun v34 h => fadrK 7 v1 fun v35 => loadK h v35 fun v36 => call (.func 293) [x0, v36] h <| pz K fun v37 h => optPK (bsliceV h 1 1 [.str []] [(0, (.str [41]))]) fun v38 h => call (.func 194) [x0, v38] h <| pz K fun v39 h => K (.tup []) h) (eqlK v3 (.int .i64 22) fun v40 => condK v40 (fadrK 7 v1 fun v41 => loadK h v41 fun v42 => lenK v42 fun v43 => eqlK v43 (.int .i64 2) fun v44 => call (.func 196) [v44] h <| pz K fun v45 h => optPK (bsliceV h 2 1 [.str []] [(0, (.str [104, 97, 115])), (1, (.str [40]))]) fun v46 h => call (.func 194) [x0, v46] h <| pz K fun v47 h => fadrK 7 v1 fun v48 => loadK h v48 fun v49 => call (.func 293) [x0, v49] h <| pz K fun v50 h => optPK (bsliceV h 1 1 [.str []] [(0, (.str [41]))]) fun v51 h => call (.func 194) [x0, v51] h <| pz K fun v52 h => K (.tup []) h) (buildK [] [] fun v53 => optK (mkifA 216 v53) fun v54 => pncK K v54 h))))))

/-! ### 276 slices.Equal[[]proctor/api.Bind,proctor/api.Bind] -/
noncomputable def b276_14 (call : CallFn) (n : Nat) (B14 : F4) (x0 x1 x12 x13 : AV) (h : AHeap) (K : Kont) : Bool :=
  lssK x13 x12 fun v5 => condK v5 (iadrK h 2 x0 x13 fun v6 => loadGK h 2 v6 fun v7 => iadrK h 2 x1 x13 fun v8 => loadGK h 2 v8 fun v9 => optK (eqV h true (.agg [.str, .str]) v7 v9) fun v10 => condK v10 (K (.bool false) h) (addK x13 (.int .i64 1) fun v11 => B14 x0 x1 x12 v11 h)) (K (.bool true) h)
noncomputable def l276_14 (call : CallFn) (n : Nat) : Nat → AV → AV → AV → AV → AHeap → Kont → Bool :=
  @Nat.rec (fun _ => AV → AV → AV → AV → AHeap → Kont → Bool) (fun _ _ _ _ _ _ => false) (fun _ ih x0 x1 x12 x13 h K => b276_14 call n (fun x0 x1 x12 x13 h => ih x0 x1 x12 x13 h K) x0 x1 x12 x13 h K)
noncomputable def p276_10 (call : CallFn) (n : Nat) (x0 x1 : AV) (h : AHeap) (K : Kont) : Bool :=
  lenK x0 fun v4 => l276_14 call n n x0 x1 v4 (.int .i64 0) h K
noncomputable def s276 (call : CallFn) (n : Nat) (x0 x1 : AV) (h : AHeap) (K : Kont) : Bool :=
  lenK x0 fun v1 => lenK x1 fun v2 => neqK v1 v2 fun v3 => condK v3 (K (.bool false) h) (p276_10 call n x0 x1 h K)

/-! ### 277 slices.EqualFunc[[]proctor/api.Expr,[]proctor/api.Expr,proctor/api.Expr,proctor/api.Expr] -/
noncomputable def p277_29001 (call : CallFn) (n : Nat) (B14 : F5) (x1 x2 x15 x16 x17 x29 : AV) (h : AHeap) (K : Kont) : Bool :=
  notK x29 fun v17 => condK v17 (K (.bool false) h) (addK x17 (.int .i64 1) fun v18 => B14 x1 x2 x15 x16 v18 h)
noncomputable def b277_14 (call : CallFn) (n : Nat) (B14 : F5) (x1 x2 x15 x16 x17 : AV) (h : AHeap) (K : Kont) : Bool :=
  lssK x17 x16 fun v5 => condK v5 (iadrK h 8 x15 x17 fun v6 => loadGK h 8 v6 fun v7 => allocK h [.int .i64 0, .str [], .int .i64 0, .bool false, .int .i64 0, .str [], .nilSlc, .nilSlc] 8 fun v8 h => storeNK h 8 v8 v7 fun h => iadrK h 8 x1 x17 fun v10 => loadGK h 8 v10 fun v11 => allocK h [.int .i64 0, .str [], .int .i64 0, .bool false, .int .i64 0, .str [], .nilSlc, .nilSlc] 8 fun v12 h => storeNK h 8 v12 v11 fun h => loadGK h 8 v8 fun v14 => loadGK h 8 v12 fun v15 => callV call x2 [v14, v15] h <| pz K fun v16 h => p277_29001 call n B14 x1 x2 x15 x16 x17 v16 h K) (K (.bool true) h)
noncomputable def l277_14 (call : CallFn) (n : Nat) : Nat → AV → AV → AV → AV → AV → AHeap → Kont → Bool :=
  @Nat.rec (fun _ => AV → AV → AV → AV → AV → AHeap → Kont → Bool) (fun _ _ _ _ _ _ _ => false) (fun _ ih x1 x2 x15 x16 x17 h K => b277_14 call n (fun x1 x2 x15 x16 x17 h => ih x1 x2 x15 x16 x17 h K) x1 x2 x15 x16 x17 h K)
noncomputable def p277_10 (call : CallFn) (n : Nat) (x0 x1 x2 : AV) (h : AHeap) (K : Kont) : Bool :=
  lenK x0 fun v4 => l277_14 call n n x1 x2 x0 v4 (.int .i64 0) h K
noncomputable def s277 (call : CallFn) (n : Nat) (x0 x1 x2 : AV) (h : AHeap) (K : Kont) : Bool :=
  lenK x0 fun v1 => lenK x1 fun v2 => neqK v1 v2 fun v3 => condK v3 (K (.bool false) h) (p277_10 call n x0 x1 x2 h K)

/-! ### 278 slices.EqualFunc[[][]proctor/api.Cond,[][]proctor/api.Cond,[]proctor/api.Cond,[]proctor/api.Cond] -/
noncomputable def p278_29001 (call : CallFn) (n : Nat) (B14 : F5) (x1 x2 x15 x16 x17 x29 : AV) (h : AHeap) (K : Kont) : Bool :=
  notK x29 fun v11 => condK v11 (K (.bool false) h) (addK x17 (.int .i64 1) fun v12 => B14 x1 x2 x15 x16 v12 h)
noncomputable def b278_14 (call : CallFn) (n : Nat) (B14 : F5) (x1 x2 x15 x16 x17 : AV) (h : AHeap) (K : Kont) : Bool :=
  lssK x17 x16 fun v5 => condK v5 (iadrK h 1 x15 x17 fun v6 => loadK h v6 fun v7 => iadrK h 1 x1 x17 fun v8 => loadK h v8 fun v9 => callV call x2 [v7, v9] h <| pz K fun v10 h => p278_29001 call n B14 x1 x2 x15 x16 x17 v10 h K) (K (.bool true) h)
noncomputable def l278_14 (call : CallFn) (n : Nat) : Nat → AV → AV → AV → AV → AV → AHeap → Kont → Bool :=
  @Nat.rec (fun _ => AV → AV → AV → AV → AV → AHeap → Kont → Bool) (fun _ _ _ _ _ _ _ => false) (fun _ ih x1 x2 x15 x16 x17 h K => b278_14 call n (fun x1 x2 x15 x16 x17 h => ih x1 x2 x15 x16 x17 h K) x1 x2 x15 x16 x17 h K)
noncomputable def p278_10 (call : CallFn) (n : Nat) (x0 x1 x2 : AV) (h : AHeap) (K : Kont) : Bool :=
  lenK x0 fun v4 => l278_14 call n n x1 x2 x0 v4 (.int .i64 0) h K
noncomputable def s278 (call : CallFn) (n : Nat) (x0 x1 x2 : AV) (h : AHeap) (K : Kont) : Bool :=
  lenK x0 fun v1 => lenK x1 fun v2 => neqK v1 v2 fun v3 => condK v3 (K (.bool false) h) (p278_10 call n x0 x1 x2 h K)

/-! ### 279 slices.EqualFunc[[]proctor/api.Arg,[]proctor/api.Arg,proctor/api.Arg,proctor/api.Arg] -/
noncomputable def p279_29001 (call : CallFn) (n : Nat) (B14 : F5) (x1 x2 x15 x16 x17 x29 : AV) (h : AHeap) (K : Kont) : Bool :=
  notK x29 fun v17 => condK v17 (K (.bool false) h) (addK x17 (.int .i64 1) fun v18 => B14 x1 x2 x15 x16 v18 h)
noncomputable def b279_14 (call : CallFn) (n : Nat) (B14 : F5) (x1 x2 x15 x16 x17 : AV) (h : AHeap) (K : Kont) : Bool :=
  lssK x17 x16 fun v5 => condK v5 (iadrK h 9 x15 x17 fun v6 => loadGK h 9 v6 fun v7 => allocK h [.str [], .int .i64 0, .str [], .int .i64 0, .bool false, .int .i64 0, .str [], .nilSlc, .nilSlc] 9 fun v8 h => storeNK h 9 v8 v7 fun h => iadrK h 9 x1 x17 fun v10 => loadGK h 9 v10 fun v11 => allocK h [.str [], .int .i64 0, .str [], .int .i64 0, .bool false, .int .i64 0, .str [], .nilSlc, .nilSlc] 9 fun v12 h => storeNK h 9 v12 v11 fun h => loadGK h 9 v8 fun v14 => loadGK h 9 v12 fun v15 => callV call x2 [v14, v15] h <| pz K fun v16 h => p279_29001 call n B14 x1 x2 x15 x16 x17 v16 h K) (K (.bool true) h)
noncomputable def l279_14 (call : CallFn) (n : Nat) : Nat → AV → AV → AV → AV → AV → AHeap → Kont → Bool :=
  @Nat.rec (fun _ => AV → AV → AV → AV → AV → AHeap → Kont → Bool) (fun _ _ _ _ _ _ _ => false) (fun _ ih x1 x2 x15 x16 x17 h K => b279_14 call n (fun x1 x2 x15 x16 x17 h => ih x1 x2 x15 x16 x17 h K) x1 x2 x15 x16 x17 h K)
noncomputable def p279_10 (call : CallFn) (n : Nat) (x0 x1 x2 : AV) (h : AHeap) (K : Kont) : Bool :=
  lenK x0 fun v4 => l279_14 call n n x1 x2 x0 v4 (.int .i64 0) h K
noncomputable def s279 (call : CallFn) (n : Nat) (x0 x1 x2 : AV) (h : AHeap) (K : Kont) : Bool :=
  lenK x0 fun v1 => lenK x1 fun v2 => neqK v1 v2 fun v3 => condK v3 (K (.bool false) h) (p279_10 call n x0 x1 x2 h K)

/-! ### 280 proctor/print.sameArg -/
noncomputable def p280_4001 (call : CallFn) (n : Nat) (x10 x15 : AV) (h : AHeap) (K : Kont) : Bool :=
  pickK x10 x15 (.bool false) fun v13 => K v13 h
noncomputable def s280 (call : CallFn) (n : Nat) (x0 x1 : AV) (h : AHeap) (K : Kont) : Bool :=
  optPK (boxA h (none) 9 x0) fun v1 h => optPK (boxA h (none) 9 x1) fun v2 h => fadrK 0 v1 fun v3 => loadK h v3 fun v4 => fadrK 0 v2 fun v5 => loadK h v5 fun v6 => eqlK v4 v6 fun v7 => gK v7 true (fadrK 1 v1) fun v8 => gK v7 true (loadGK h 8 v8) fun v9 => gK v7 true (fadrK 1 v2) fun v10 => gK v7 true (loadGK h 8 v10) fun v11 => gP v7 true (fun k => call (.func 248) [v9, v11] h (pz K k)) h fun v12 h => p280_4001 call n v7 v12 h K

/-! ### 281 proctor/value.Same -/
noncomputable def p281_4001 (call : CallFn) (n : Nat) (x31 x36 : AV) (h : AHeap) (K : Kont) : Bool :=
  pickK x31 x36 (.bool false) fun v31 => K v31 h
noncomputable def s281 (call : CallFn) (n : Nat) (x0 x1 : AV) (h : AHeap) (K : Kont) : Bool :=
  optPK (boxA h (none) 5 x0) fun v1 h => optPK (boxA h (none) 5 x1) fun v2 h => fadrK 0 v1 fun v3 => loadK h v3 fun v4 => fadrK 0 v2 fun v5 => loadK h v5 fun v6 => eqlK v4 v6 fun v7 => gK v7 true (fadrK 1 v1) fun v8 => gK v7 true (loadK h v8) fun v9 => gK v7 true (fadrK 1 v2) fun v10 => gK v7 true (loadK h v10) fun v11 => gK v7 true (optK (eqV h false .bool v9 v11)) fun v12 => pickK v7 v12 (.bool false) fun v13 => gK v13 true (fadrK 2 v1) fun v14 => gK v13 true (loadK h v14) fun v15 => gK v13 true (fadrK 2 v2) fun v16 => gK v13 true (loadK h v16) fun v17 => gK v13 true (eqlK v15 v17) fun v18 => pickK v13 v18 (.bool false) fun v19 => gK v19 true (fadrK 3 v1) fun v20 => gK v19 true (loadK h v20) fun v21 => gK v19 true (fadrK 3 v2) fun v22 => gK v19 true (loadK h v22) fun v23 => gK v19 true (eqlK v21 v23) fun v24 => pickK v19 v24 (.bool false) fun v25 => gK v25 true (fadrK 4 v1) fun v26 => gK v25 true (loadK h v26) fun v27 => gK v25 true (fadrK 4 v2) fun v28 => gK v25 true (loadK h v28) fun v29 => gP v25 true (fun k => call (.func 295) [v27, v29, (.fn (.func 281) [] [])] h (pz K k)) h fun v30 h => p281_4001 call n v25 v30 h K

/-! ### 282 slices.Concat[[]proctor/api.Field,proctor/api.Field] -/
noncomputable def p282_26 (call : CallFn) (n : Nat) (B8 : F5) (x0 x3 x9 x10 x11 : AV) (h : AHeap) (K : Kont) : Bool :=
  addK x11 (.int .i64 1) fun v10 => B8 x0 x3 x9 x10 v10 h
noncomputable def b282_33 (call : CallFn) (n : Nat) (B33 : F4) (x6 x25 x26 x27 : AV) (h : AHeap) (K : Kont) : Bool :=
  lssK x27 x26 fun v13 => condK v13 (iadrK h 1 x25 x27 fun v14 => loadK h v14 fun v15 => appK h 3 40 x6 v15 fun v16 h => addK x27 (.int .i64 1) fun v17 => B33 v16 x25 x26 v17 h) (K x6 h)
noncomputable def l282_33 (call : CallFn) (n : Nat) : Nat → AV → AV → AV → AV → AHeap → Kont → Bool :=
  @Nat.rec (fun _ => AV → AV → AV → AV → AHeap → Kont → Bool) (fun _ _ _ _ _ _ => false) (fun _ ih x6 x25 x26 x27 h K => b282_33 call n (fun x6 x25 x26 x27 h => ih x6 x25 x26 x27 h K) x6 x25 x26 x27 h K)
noncomputable def p282_27 (call : CallFn) (n : Nat) (x0 x3 : AV) (h : AHeap) (K : Kont) : Bool :=
  call (.func 296) [.nilSlc, x3] h <| pz K fun v11 h => lenK x0 fun v12 => l282_33 call n n v11 x0 v12 (.int .i64 0) h K
noncomputable def b282_8 (call : CallFn) (n : Nat) (B8 : F5) (x0 x3 x9 x10 x11 : AV) (h : AHeap) (K : Kont) : Bool :=
  lssK x11 x10 fun v2 => condK v2 (iadrK h 1 x9 x11 fun v3 => loadK h v3 fun v4 => lenK v4 fun v5 => addK x3 v5 fun v6 => lssK v6 (.int .i64 0) fun v7 => condK v7 (optK (mkifA 9 (.str [108, 101, 110, 32, 111, 117, 116, 32, 111, 102, 32, 114, 97, 110, 103, 101])) fun v8 => pncK K v8 h) (p282_26 call n B8 x0 v6 x9 x10 x11 h K)) (p282_27 call n x0 x3 h K)
noncomputable def l282_8 (call : CallFn) (n : Nat) : Nat → AV → AV → AV → AV → AV → AHeap → Kont → Bool :=
  @Nat.rec (fun _ => AV → AV → AV → AV → AV → AHeap → Kont → Bool) (fun _ _ _ _ _ _ _ => false) (fun _ ih x0 x3 x9 x10 x11 h K => b282_8 call n (fun x0 x3 x9 x10 x11 h => ih x0 x3 x9 x10 x11 h K) x0 x3 x9 x10 x11 h K)
noncomputable def s282 (call : CallFn) (n : Nat) (x0 : AV) (h : AHeap) (K : Kont) : Bool :=
  lenK x0 fun v1 => l282_8 call n n x0 (.int .i64 0) x0 v1 (.int .i64 0) h K

/-! ### 285 proctor/parse.literal -/
noncomputable def s285 (call : CallFn) (n : Nat) (x0 : AV) (h : AHeap) (K : Kont) : Bool :=
  optPK (boxA h (none) 5 x0) fun v1 h => allocK h [.int .i64 0, .str [], .int .i64 0, .bool false, .int .i64 0, .str [], .nilSlc, .nilSlc, .int .i64 0] 9 fun v2 h => loadGK h 5 v1 fun v3 => buildK [.int .i64 0, .str [], .int .i64 0, .bool false, .int .i64 0, .str [], .nilSlc, .nilSlc] [(0, 1, (.int .i64 1)), (2, 5, v3)] fun v4 => buildK [.int .i64 0, .str [], .int .i64 0, .bool false, .int .i64 0, .str [], .nilSlc, .nilSlc, .int .i64 0] [(0, 8, v4), (8, 1, (.int .i64 1))] fun v5 => storeNK h 9 v2 v5 fun h => optR (resV h [(v2, some (true, 9))]) h K

/-! ### 291 proctor/print.commas[proctor/api.Bind] -/
noncomputable def p291_20 (call : CallFn) (n : Nat) (B3 : F5) (x0 x2 x7 x8 x9 x10 : AV) (h : AHeap) (K : Kont) : Bool :=
  loadGK h 2 x7 fun v10 => callV call x2 [v10] h <| pz K fun v11 h => addK x10 (.int .i64 1) fun v12 => B3 x0 x2 x8 x9 v12 h
noncomputable def b291_3 (call : CallFn) (n : Nat) (B3 : F5) (x0 x2 x8 x9 x10 : AV) (h : AHeap) (K : Kont) : Bool :=
  lssK x10 x9 fun v2 => condK v2 (iadrK h 2 x8 x10 fun v3 => loadGK h 2 v3 fun v4 => allocK h [.str [], .str []] 2 fun v5 h => storeNK h 2 v5 v4 fun h => gtrK x10 (.int .i64 0) fun v7 => condK v7 (optPK (bsliceV h 1 1 [.str []] [(0, (.str [44]))]) fun v8 h => call (.func 194) [x0, v8] h <| pz K fun v9 h => p291_20 call n B3 x0 x2 v5 x8 x9 x10 h K) (p291_20 call n B3 x0 x2 v5 x8 x9 x10 h K)) (K (.tup []) h)
noncomputable def l291_3 (call : CallFn) (n : Nat) : Nat → AV → AV → AV → AV → AV → AHeap → Kont → Bool :=
  @Nat.rec (fun _ => AV → AV → AV → AV → AV → AHeap → Kont → Bool) (fun _ _ _ _ _ _ _ => false) (fun _ ih x0 x2 x8 x9 x10 h K => b291_3 call n (fun x0 x2 x8 x9 x10 h => ih x0 x2 x8 x9 x10 h K) x0 x2 x8 x9 x10 h K)
noncomputable def s291 (call : CallFn) (n : Nat) (x0 x1 x2 : AV) (h : AHeap) (K : Kont) : Bool :=
  lenK x1 fun v1 => l291_3 call n n x0 x2 x1 v1 (.int .i64 0) h K

/-! ### 292 (*proctor/print.writer).pattern$1 -/
noncomputable def s292 (call : CallFn) (n : Nat) (x0 x1 : AV) (h : AHeap) (K : Kont) : Bool :=
  optPK (boxA h (none) 2 x0) fun v1 h => loadK h x1 fun v2 => fadrK 0 v1 fun v3 => loadK h v3 fun v4 => addK (.str [36]) v4 fun v5 => fadrK 1 v1 fun v6 => loadK h v6 fun v7 => optPK (bsliceV h 3 1 [.str []] [(0, v5), (1, (.str [58])), (2, v7)]) fun v8 h => call (.func 194) [v2, v8] h <| pz K fun v9 h => K (.tup []) h

/-! ### 293 (*proctor/print.writer).exprs -/
noncomputable def s293 (call : CallFn) (n : Nat) (x0 x1 : AV) (h : AHeap) (K : Kont) : Bool :=
  boxK h x0 fun v1 h => loadK h v1 fun v2 => optK (some (.fn (.func 300) [] [v1])) fun v3 => call (.func 299) [v2, x1, v3] h <| pz K fun v4 h => K (.tup []) h

/-! ### 294 (*proctor/print.writer).literal -/
noncomputable def p294_13001 (call : CallFn) (n : Nat) (x15 x18 : AV) (h : AHeap) (K : Kont) : Bool :=
  optPK (bsliceV h 1 1 [.str []] [(0, x18)]) fun v11 h => call (.func 194) [x15, v11] h <| pz K fun v12 h => K (.tup []) h
noncomputable def p294_17001 (call : CallFn) (n : Nat) (x23 x26 : AV) (h : AHeap) (K : Kont) : Bool :=
  optPK (bsliceV h 1 1 [.str []] [(0, x26)]) fun v17 h => call (.func 194) [x23, v17] h <| pz K fun v18 h => K (.tup []) h
noncomputable def p294_21001 (call : CallFn) (n : Nat) (x31 x34 : AV) (h : AHeap) (K : Kont) : Bool :=
  optPK (bsliceV h 1 1 [.str []] [(0, x34)]) fun v23 h => call (.func 194) [x31, v23] h <| pz K fun v24 h => K (.tup []) h
noncomputable def s294 (call : CallFn) (n : Nat) (x0 x1 : AV) (h : AHeap) (K : Kont) : Bool :=
  optPK (boxA h (none) 5 x1) fun v1 h => fadrK 0 v1 fun v2 => loadK h v2 fun v3 => eqlK v3 (.int .i64 0) fun v4 => condK v4 (optPK (bsliceV h 1 1 [.str []] [(0, (.str [110, 117, 108, 108]))]) fun v5 h => call (.func 194) [x0, v5] h <| pz K fun v6 h => K (.tup []) h) (eqlK v3 (.int .i64 1) fun v7 => condK v7 (fadrK 1 v1 fun v8 => loadK h v8 fun v9 => call (.func 301) [v9] h <| pz K fun v10 h => p294_13001 call n x0 v10 h K) (eqlK v3 (.int .i64 2) fun v13 => condK v13 (fadrK 2 v1 fun v14 => loadK h v14 fun v15 => call (.func 197) [v15, (.int .i64 10)] h <| pz K fun v16 h => p294_17001 call n x0 v16 h K) (eqlK v3 (.int .i64 3) fun v19 => condK v19 (fadrK 3 v1 fun v20 => loadK h v20 fun v21 => call (.func 195) [v21] h <| pz K fun v22 h => p294_21001 call n x0 v22 h K) (buildK [] [] fun v25 => optK (mkifA 216 v25) fun v26 => pncK K v26 h))))

/-! ### 295 slices.EqualFunc[[]proctor/api.Value,[]proctor/api.Value,proctor/api.Value,proctor/api.Value] -/
noncomputable def p295_29001 (call : CallFn) (n : Nat) (B14 : F5) (x1 x2 x15 x16 x17 x29 : AV) (h : AHeap) (K : Kont) : Bool :=
  notK x29 fun v17 => condK v17 (K (.bool false) h) (addK x17 (.int .i64 1) fun v18 => B14 x1 x2 x15 x16 v18 h)
noncomputable def b295_14 (call : CallFn) (n : Nat) (B14 : F5) (x1 x2 x15 x16 x17 : AV) (h : AHeap) (K : Kont) : Bool :=
  lssK x17 x16 fun v5 => condK v5 (iadrK h 5 x15 x17 fun v6 => loadGK h 5 v6 fun v7 => allocK h [.int .i64 0, .bool false, .int .i64 0, .str [], .nilSlc] 5 fun v8 h => storeNK h 5 v8 v7 fun h => iadrK h 5 x1 x17 fun v10 => loadGK h 5 v10 fun v11 => allocK h [.int .i64 0, .bool false, .int .i64 0, .str [], .nilSlc] 5 fun v12 h => storeNK h 5 v12 v11 fun h => loadGK h 5 v8 fun v14 => loadGK h 5 v12 fun v15 => callV call x2 [v14, v15] h <| pz K fun v16 h => p295_29001 call n B14 x1 x2 x15 x16 x17 v16 h K) (K (.bool true) h)
noncomputable def l295_14 (call : CallFn) (n : Nat) : Nat → AV → AV → AV → AV → AV → AHeap → Kont → Bool :=
  @Nat.rec (fun _ => AV → AV → AV → AV → AV → AHeap → Kont → Bool) (fun _ _ _ _ _ _ _ => false) (fun _ ih x1 x2 x15 x16 x17 h K => b295_14 call n (fun x1 x2 x15 x16 x17 h => ih x1 x2 x15 x16 x17 h K) x1 x2 x15 x16 x17 h K)
noncomputable def p295_10 (call : CallFn) (n : Nat) (x0 x1 x2 : AV) (h : AHeap) (K : Kont) : Bool :=
  lenK x0 fun v4 => l295_14 call n n x1 x2 x0 v4 (.int .i64 0) h K
noncomputable def s295 (call : CallFn) (n : Nat) (x0 x1 x2 : AV) (h : AHeap) (K : Kont) : Bool :=
  lenK x0 fun v1 => lenK x1 fun v2 => neqK v1 v2 fun v3 => condK v3 (K (.bool false) h) (p295_10 call n x0 x1 x2 h K)

/-! ### 296 slices.Grow[[]proctor/api.Field,proctor/api.Field] -/
noncomputable def p296_8 (call : CallFn) (n : Nat) (x0 x1 : AV) (h : AHeap) (K : Kont) : Bool :=
  optK (capA x0) fun v4 => lenK x0 fun v5 => subK v4 v5 fun v6 => subK x1 v6 fun v7 => gtrK v7 (.int .i64 0) fun v8 => condK v8 (optK (capA x0) fun v9 => optK (sliceV h 3 x0 none (some v9) none) fun v10 => optPK (appzA h 3 40 [.str [], .int .i64 0, .str []] v10 v7) fun v11 h => lenK x0 fun v12 => optK (sliceV h 3 v11 none (some v12) none) fun v13 => K v13 h) (K x0 h)
noncomputable def s296 (call : CallFn) (n : Nat) (x0 x1 : AV) (h : AHeap) (K : Kont) : Bool :=
  lssK x1 (.int .i64 0) fun v1 => condK v1 (optK (mkifA 9 (.str [99, 97, 110, 110, 111, 116, 32, 98, 101, 32, 110, 101, 103, 97, 116, 105, 118, 101])) fun v2 => pncK K v2 h) (p296_8 call n x0 x1 h K)

/-! ### 299 proctor/print.commas[proctor/api.Expr] -/
noncomputable def p299_20 (call : CallFn) (n : Nat) (B3 : F5) (x0 x2 x7 x8 x9 x10 : AV) (h : AHeap) (K : Kont) : Bool :=
  loadGK h 8 x7 fun v10 => callV call x2 [v10] h <| pz K fun v11 h => addK x10 (.int .i64 1) fun v12 => B3 x0 x2 x8 x9 v12 h
noncomputable def b299_3 (call : CallFn) (n : Nat) (B3 : F5) (x0 x2 x8 x9 x10 : AV) (h : AHeap) (K : Kont) : Bool :=
  lssK x10 x9 fun v2 => condK v2 (iadrK h 8 x8 x10 fun v3 => loadGK h 8 v3 fun v4 => allocK h [.int .i64 0, .str [], .int .i64 0, .bool false, .int .i64 0, .str [], .nilSlc, .nilSlc] 8 fun v5 h => storeNK h 8 v5 v4 fun h => gtrK x10 (.int .i64 0) fun v7 => condK v7 (optPK (bsliceV h 1 1 [.str []] [(0, (.str [44]))]) fun v8 h => call (.func 194) [x0, v8] h <| pz K fun v9 h => p299_20 call n B3 x0 x2 v5 x8 x9 x10 h K) (p299_20 call n B3 x0 x2 v5 x8 x9 x10 h K)) (K (.tup []) h)
noncomputable def l299_3 (call : CallFn) (n : Nat) : Nat → AV → AV → AV → AV → AV → AHeap → Kont → Bool :=
  @Nat.rec (fun _ => AV → AV → AV → AV → AV → AHeap → Kont → Bool) (fun _ _ _ _ _ _ _ => false) (fun _ ih x0 x2 x8 x9 x10 h K => b299_3 call n (fun x0 x2 x8 x9 x10 h => ih x0 x2 x8 x9 x10 h K) x0 x2 x8 x9 x10 h K)
noncomputable def s299 (call : CallFn) (n : Nat) (x0 x1 x2 : AV) (h : AHeap) (K : Kont) : Bool :=
  lenK x1 fun v1 => l299_3 call n n x0 x2 x1 v1 (.int .i64 0) h K

/-! ### 300 (*proctor/print.writer).exprs$1 -/
noncomputable def s300 (call : CallFn) (n : Nat) (x0 x1 : AV) (h : AHeap) (K : Kont) : Bool :=
  optPK (boxA h (none) 8 x0) fun v1 h => loadK h x1 fun v2 => loadGK h 8 v1 fun v3 => call (.func 243) [v2, v3, (.int .i64 0)] h <| pz K fun v4 h => K (.tup []) h

end Go.Proofs.YtgdccjbnakolmaaGreatDoor
