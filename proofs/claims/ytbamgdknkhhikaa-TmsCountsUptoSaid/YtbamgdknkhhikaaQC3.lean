/-
  Texts that the claim hangs on, part 4.
-/
import Derived.Test.YtbamgdknkhhikaaQC2
import Derived.Sort.Grow
import Derived.Deep.Draws
import Derived.Laws.Externs
import Derived.Lib.Builder
import Derived.Shelf.SlSortCmp.NoneTotal
import Derived.Lib.SortBridge
namespace Go.Proofs.Ytbamgdknkhhikaa
open Go.Ab
set_option linter.unusedVariables false
variable {call call' : CallFn} {n id : Nat} {K K' : Kont} {h : AHeap} {ρ : Regs} {x0 x1 x2 x3 x4 x5 x6 x7 x8 x9 x10 x11 x12 x13 x14 x18 x24 x25 x26 x30 x31 x32 x33 x34 x35 x36 x47 x48 x49 x52 x53 x54 x58 : AV}
def p5_38 (call : CallFn) (n : Nat) (B24 : F3) (x1 x3 x4 : AV) (h : AHeap) (K : Kont) : Bool :=
  optB (binA .add x4 (.int .i64 1)) fun v33 => B24 x1 x3 v33 h
abbrev k5_0 (call' : CallFn) (n : Nat) (K' : Kont) := seqK call' n c5_39 (finK A5.res K')
abbrev k5_1 (call' : CallFn) (n : Nat) (K' : Kont) := blockK 0 (k5_0 call' n K')
abbrev H5_24 (call' : CallFn) (n : Nat) (K' : Kont) (m : Nat) (B : F3) : Prop := ∀ (x1 x3 x4 : AV) (h : AHeap) (ρ : Regs), Has ρ [(1, x1), (3, x3), (4, x4)] → B x1 x3 x4 h = true → iter (runC call' n c5_25) (k5_1 call' n K') m ⟨ρ, h⟩ = true
abbrev k5_2 (call' : CallFn) (n : Nat) (K' : Kont) (m24 : Nat) := loopK call' n c5_25 (k5_1 call' n K') m24
theorem p5_38_ok (hc : Le call call') (hK : KLe K K') {m24 : Nat} {B24 : F3} (hB24 : H5_24 call' n K' m24 B24) (H : Has ρ [(1, x1), (3, x3), (4, x4)]) (s : p5_38 call n B24 x1 x3 x4 h K = true) : runC call' n c5_38 ⟨ρ, h⟩ (k5_2 call' n K' m24) = true :=
  c_reg (q_mv H rfl fun H => q_pure H rfl s fun _ s H => q_mv H rfl fun H => r_nil (k_loop (hB24 _ _ _ _ _ (H.keep [1, 3, 4] rfl) s)))
def p5_68 (call : CallFn) (n : Nat) (x3 x6 : AV) (h : AHeap) (K : Kont) : Bool :=
  call (.func 23) [x3] h fun v60 h => optB (binA .neq x6 v60) fun v61 => optB (grdO (wantV v61 false) (some x3)) fun v62 => grdC (wantV v61 false) (fun k => call (.func 13) [v62, (.fn (.func 30) [] [])] h k) h fun v63 h => optB (grdO (wantV v61 false) (binA .neq v63 (.int .i64 0))) fun v64 => optB (pickV v61 (.bool true) v64) fun v65 => optB (grdO (wantV v65 false) (some x3)) fun v66 => grdC (wantV v65 false) (fun k => call (.func 23) [v66] h k) h fun v67 h => optB (grdO (wantV v65 false) (some x6)) fun v68 => optB (grdO (wantV v65 false) (binA .neq v67 v68)) fun v69 => optB (pickV v65 (.bool true) v69) fun v70 => condB v70 (K (.bool false) h) (call (.func 13) [x3, (.fn (.func 31) [] [])] h fun v71 h => optB (binA .eql v71 x6) fun v72 => optB (grdO (wantV v72 true) (some x3)) fun v73 => grdC (wantV v72 true) (fun k => call (.func 23) [v73] h k) h fun v74 h => optB (grdO (wantV v72 true) (binA .eql v74 (.int .i64 0))) fun v75 => optB (pickV v72 v75 (.bool false)) fun v76 => optB (grdO (wantV v76 true) (some x3)) fun v77 => grdC (wantV v76 true) (fun k => call (.func 21) [v77] h k) h fun v78 h => optB (grdO (wantV v76 true) (lenA h 1 v78)) fun v79 => optB (grdO (wantV v76 true) (binA .eql v79 (.int .i64 0))) fun v80 => optB (pickV v76 v80 (.bool false)) fun v81 => grdC (wantV v81 true) (fun k => call (.func 7) [] h k) h fun v82 h => optB (pickV v81 v82 (.bool false)) fun v83 => K v83 h)
theorem p5_68_ok (hc : Le call call') (hK : KLe K K') (H : Has ρ [(3, x3), (6, x6)]) (s : p5_68 call n x3 x6 h K = true) : runC call' n c5_68 ⟨ρ, h⟩ (finK A5.res K') = true :=
  c_seq (c_seq (c_reg (q_mv H rfl fun H => q_mv H rfl fun H => q_call hc H rfl s fun _ _ s H => q_pure H rfl s fun _ s H => q_mv H rfl fun H => qgstep_pure H rfl rfl s fun _ s H => qgstep_call hc H rfl rfl s fun _ _ s H => qgstep_pure H rfl rfl s fun _ s H => q_pure H rfl s fun _ s H => q_mv H rfl fun H => qgstep_pure H rfl rfl s fun _ s H => qgstep_call hc H rfl rfl s fun _ _ s H => qgstep_pure H rfl rfl s fun _ s H => qgstep_pure H rfl rfl s fun _ s H => q_pure H rfl s fun _ s H => r_nil (k_seq (c_cond H rfl s (fun s => c_seq (c_reg (q_mv H rfl fun H => r_nil (k_seq (c_ret (k_seq_ret (fin_ret H rfl hK s))))))) (fun s => c_skip (k_seq (c_seq (c_reg (q_mv H rfl fun H => q_call hc H rfl s fun _ _ s H => q_mv H rfl fun H => q_pure H rfl s fun _ s H => q_mv H rfl fun H => qgstep_pure H rfl rfl s fun _ s H => qgstep_call hc H rfl rfl s fun _ _ s H => qgstep_pure H rfl rfl s fun _ s H => q_pure H rfl s fun _ s H => q_mv H rfl fun H => qgstep_pure H rfl rfl s fun _ s H => qgstep_call hc H rfl rfl s fun _ _ s H => qgstep_pure H rfl rfl s fun _ s H => qgstep_pure H rfl rfl s fun _ s H => q_pure H rfl s fun _ s H => q_mv H rfl fun H => qgstep_call hc H rfl rfl s fun _ _ s H => q_pure H rfl s fun _ s H => q_mv H rfl fun H => r_nil (k_seq (c_ret (fin_ret H rfl hK s)))))))))))))
def b5_47 (call : CallFn) (n : Nat) (B47 : F4) (x3 x5 x6 x7 : AV) (h : AHeap) (K : Kont) : Bool :=
  optB (lenA h 1 x5) fun v52 => optB (binA .lss x7 v52) fun v53 => condB v53 (optB (iadrA h 2 x5 x7) fun v54 => optB (loadA h true 2 v54) fun v55 => call (.func 24) [x3, v55] h fun v56 h => optB (binA .lss v56 (.int .i64 1)) fun v57 => condB v57 (K (.bool false) h) (optB (binA .add x6 v56) fun v58 => optB (binA .add x7 (.int .i64 1)) fun v59 => B47 x3 x5 v58 v59 h)) (p5_68 call n x3 x6 h K)
abbrev k5_3 (call' : CallFn) (n : Nat) (K' : Kont) := seqK call' n c5_68 (finK A5.res K')
abbrev k5_4 (call' : CallFn) (n : Nat) (K' : Kont) := blockK 2 (k5_3 call' n K')
abbrev H5_47 (call' : CallFn) (n : Nat) (K' : Kont) (m : Nat) (B : F4) : Prop := ∀ (x3 x5 x6 x7 : AV) (h : AHeap) (ρ : Regs), Has ρ [(3, x3), (5, x5), (6, x6), (7, x7)] → B x3 x5 x6 x7 h = true → iter (runC call' n c5_48) (k5_4 call' n K') m ⟨ρ, h⟩ = true
abbrev k5_5 (call' : CallFn) (n : Nat) (K' : Kont) (m47 : Nat) := loopK call' n c5_48 (k5_4 call' n K') m47
theorem b5_47_ok (hc : Le call call') (hK : KLe K K') {m47 : Nat} {B47 : F4} (hB47 : H5_47 call' n K' m47 B47) (H : Has ρ [(3, x3), (5, x5), (6, x6), (7, x7)]) (s : b5_47 call n B47 x3 x5 x6 x7 h K = true) : runC call' n c5_48 ⟨ρ, h⟩ (k5_5 call' n K' m47) = true :=
  c_seq (c_seq (c_reg (q_mv H rfl fun H => q_mv H rfl fun H => q_pure H rfl s fun _ s H => q_pure H rfl s fun _ s H => r_nil (k_seq (c_cond H rfl s (fun s => c_skip (k_seq (c_seq (c_block (c_seq (c_reg (q_mv H rfl fun H => q_mv H rfl fun H => q_mv H rfl fun H => q_pure H rfl s fun _ s H => q_pure H rfl s fun _ s H => q_call hc H rfl s fun _ _ s H => q_mv H rfl fun H => r_nil (k_seq (c_seq (c_seq (c_reg (q_mv H rfl fun H => q_pure H rfl s fun _ s H => r_nil (k_seq (c_cond H rfl s (fun s => c_seq (c_reg (q_mv H rfl fun H => r_nil (k_seq (c_ret (k_seq_ret (k_block_ret (k_seq_ret (k_loop_ret (k_block_ret (k_seq_ret (fin_ret H rfl hK s)))))))))))) (fun s => c_skip (k_seq (c_reg (q_mv H rfl fun H => q_mv H rfl fun H => q_pure H rfl s fun _ s H => q_mv H rfl fun H => r_nil (k_block (k_seq (c_reg (q_mv H rfl fun H => q_pure H rfl s fun _ s H => q_mv H rfl fun H => r_nil (k_loop (hB47 _ _ _ _ _ _ (H.keep [3, 5, 6, 7] rfl) s)))))))))))))))))))))))) (fun s => c_exit (k_seq_exit (k_loop_exit (k_block_eq (k_seq (p5_68_ok hc hK (H.keep [3, 6] rfl) s)))))))))))
def l5_47 (call : CallFn) (n : Nat) : Nat → AV → AV → AV → AV → AHeap → Kont → Bool
  | 0 => fun _ _ _ _ _ _ => false
  | m + 1 => fun x3 x5 x6 x7 h K => b5_47 call n (fun x3 x5 x6 x7 h => l5_47 call n m x3 x5 x6 x7 h K) x3 x5 x6 x7 h K
theorem l5_47_ok (hc : Le call call') (hK : KLe K K') : ∀ (m : Nat) (x3 x5 x6 x7 : AV) (h : AHeap) (ρ : Regs), Has ρ [(3, x3), (5, x5), (6, x6), (7, x7)] → l5_47 call n m x3 x5 x6 x7 h K = true → iter (runC call' n c5_48) (k5_4 call' n K') m ⟨ρ, h⟩ = true
  | 0, _, _, _, _, _, _, _, s => nomatch s
  | m + 1, _, _, _, _, _, _, H, s => c_round (b5_47_ok hc hK (fun x3 x5 x6 x7 h ρ H s => l5_47_ok hc hK m x3 x5 x6 x7 h ρ H s) H s)
def p5_39 (call : CallFn) (n : Nat) (x3 : AV) (h : AHeap) (K : Kont) : Bool :=
  call (.func 21) [x3] h fun v51 h => l5_47 call n n x3 v51 (.int .i64 0) (.int .i64 0) h K
theorem p5_39_ok (hc : Le call call') (hK : KLe K K') (H : Has ρ [(3, x3)]) (s : p5_39 call n x3 h K = true) : runC call' n c5_39 ⟨ρ, h⟩ (finK A5.res K') = true :=
  c_seq (c_reg (q_mv H rfl fun H => q_call hc H rfl s fun _ _ s H => q_mv H rfl fun H => r_nil (k_seq (c_seq (c_reg (q_mv H rfl fun H => r_nil (k_seq (c_seq (c_seq (c_reg (q_mv H rfl fun H => r_nil (k_seq (c_block (c_loop (l5_47_ok hc hK n _ _ _ _ _ _ (H.keep [3, 5, 6, 7] rfl) s)))))))))))))))
set_option maxRecDepth 100000 in
def b5_24 (call : CallFn) (n : Nat) (B24 : F3) (x1 x3 x4 : AV) (h : AHeap) (K : Kont) : Bool :=
  optB (fadrA 0 x1) fun v8 => optB (loadA h false 1 v8) fun v9 => optB (lenA h 1 v9) fun v10 => optB (binA .lss x4 v10) fun v11 => optB (grdO (wantV v11 true) (some x4)) fun v12 => optB (grdO (wantV v11 true) (binA .lss v12 (.int .i64 60))) fun v13 => optB (pickV v11 v13 (.bool false)) fun v14 => condB v14 (optB (fadrA 0 x1) fun v15 => optB (loadA h false 1 v15) fun v16 => optB (iadrA h 7 v16 x4) fun v17 => optB (fadrA 0 v17) fun v18 => optB (loadA h false 1 v18) fun v19 => optB (binA .eql v19 (.int .i64 2)) fun v20 => condB v20 (optB (fadrA 0 x1) fun v21 => optB (loadA h false 1 v21) fun v22 => optB (iadrA h 7 v22 x4) fun v23 => optB (fadrA 1 v23) fun v24 => optB (loadA h false 1 v24) fun v25 => optB (fadrA 0 x1) fun v26 => optB (loadA h false 1 v26) fun v27 => optB (iadrA h 7 v27 x4) fun v28 => optB (fadrA 2 v28) fun v29 => optB (loadA h false 1 v29) fun v30 => optB (buildV [.str [], .nilSlc] [(0, 1, v25), (1, 1, v30)]) fun v31 => call (.func 19) [x3, v31] h fun v32 h => p5_38 call n B24 x1 x3 x4 h K) (optB (fadrA 0 x1) fun v34 => optB (loadA h false 1 v34) fun v35 => optB (iadrA h 7 v35 x4) fun v36 => optB (fadrA 1 v36) fun v37 => optB (loadA h false 1 v37) fun v38 => optB (fadrA 0 x1) fun v39 => optB (loadA h false 1 v39) fun v40 => optB (iadrA h 7 v40 x4) fun v41 => optB (fadrA 2 v41) fun v42 => optB (loadA h false 1 v42) fun v43 => optB (buildV [.str [], .nilSlc] [(0, 1, v38), (1, 1, v43)]) fun v44 => optB (fadrA 0 x1) fun v45 => optB (loadA h false 1 v45) fun v46 => optB (iadrA h 7 v46 x4) fun v47 => optB (fadrA 3 v47) fun v48 => optB (loadA h true 3 v48) fun v49 => call (.func 10) [x3, v44, v49] h fun v50 h => p5_38 call n B24 x1 x3 x4 h K)) (p5_39 call n x3 h K)
set_option maxRecDepth 100000 in
theorem b5_24_ok (hc : Le call call') (hK : KLe K K') {m24 : Nat} {B24 : F3} (hB24 : H5_24 call' n K' m24 B24) (H : Has ρ [(1, x1), (3, x3), (4, x4)]) (s : b5_24 call n B24 x1 x3 x4 h K = true) : runC call' n c5_25 ⟨ρ, h⟩ (k5_2 call' n K' m24) = true :=
  c_seq (c_seq (c_reg (q_mv H rfl fun H => q_pure H rfl s fun _ s H => q_pure H rfl s fun _ s H => q_pure H rfl s fun _ s H => q_pure H rfl s fun _ s H => q_mv H rfl fun H => qgstep_pure H rfl rfl s fun _ s H => qgstep_pure H rfl rfl s fun _ s H => q_pure H rfl s fun _ s H => r_nil (k_seq (c_cond H rfl s (fun s => c_skip (k_seq (c_seq (c_block (c_seq (c_reg (q_pure H rfl s fun _ s H => q_pure H rfl s fun _ s H => q_mv H rfl fun H => q_pure H rfl s fun _ s H => q_pure H rfl s fun _ s H => q_pure H rfl s fun _ s H => q_pure H rfl s fun _ s H => r_nil (k_seq (c_cond H rfl s (fun s => c_dreg (c_m H rfl fun H => c_p H rfl s fun _ s H => c_p H rfl s fun _ s H => c_m H rfl fun H => c_p H rfl s fun _ s H => c_p H rfl s fun _ s H => c_p H rfl s fun _ s H => c_p H rfl s fun _ s H => c_p H rfl s fun _ s H => c_m H rfl fun H => c_p H rfl s fun _ s H => c_p H rfl s fun _ s H => c_p H rfl s fun _ s H => c_p H rfl s fun _ s H => calc_nil (d_cons (step_call hc H rfl s fun _ _ s H => dk (again_nil (calc_nil (d_nil (k_block (k_seq (p5_38_ok hc hK hB24 (H.keep [1, 3, 4] rfl) s)))))))))) (fun s => c_dreg (c_m H rfl fun H => c_p H rfl s fun _ s H => c_p H rfl s fun _ s H => c_m H rfl fun H => c_p H rfl s fun _ s H => c_p H rfl s fun _ s H => c_p H rfl s fun _ s H => c_p H rfl s fun _ s H => c_p H rfl s fun _ s H => c_m H rfl fun H => c_p H rfl s fun _ s H => c_p H rfl s fun _ s H => c_p H rfl s fun _ s H => c_p H rfl s fun _ s H => c_p H rfl s fun _ s H => c_p H rfl s fun _ s H => c_m H rfl fun H => c_p H rfl s fun _ s H => c_p H rfl s fun _ s H => c_p H rfl s fun _ s H => calc_nil (d_cons (step_call hc H rfl s fun _ _ s H => dk (again_nil (calc_nil (d_nil (k_block (k_seq (p5_38_ok hc hK hB24 (H.keep [1, 3, 4] rfl) s))))))))))))))))))) (fun s => c_exit (k_seq_exit (k_loop_exit (k_block_eq (k_seq (p5_39_ok hc hK (H.keep [3] rfl) s)))))))))))
def l5_24 (call : CallFn) (n : Nat) : Nat → AV → AV → AV → AHeap → Kont → Bool
  | 0 => fun _ _ _ _ _ => false
  | m + 1 => fun x1 x3 x4 h K => b5_24 call n (fun x1 x3 x4 h => l5_24 call n m x1 x3 x4 h K) x1 x3 x4 h K
theorem l5_24_ok (hc : Le call call') (hK : KLe K K') : ∀ (m : Nat) (x1 x3 x4 : AV) (h : AHeap) (ρ : Regs), Has ρ [(1, x1), (3, x3), (4, x4)] → l5_24 call n m x1 x3 x4 h K = true → iter (runC call' n c5_25) (k5_1 call' n K') m ⟨ρ, h⟩ = true
  | 0, _, _, _, _, _, _, s => nomatch s
  | m + 1, _, _, _, _, _, H, s => c_round (b5_24_ok hc hK (fun x1 x3 x4 h ρ H s => l5_24_ok hc hK m x1 x3 x4 h ρ H s) H s)
def p5_20 (call : CallFn) (n : Nat) (x1 x3 : AV) (h : AHeap) (K : Kont) : Bool :=
  l5_24 call n n x1 x3 (.int .i64 0) h K
theorem p5_20_ok (hc : Le call call') (hK : KLe K K') (H : Has ρ [(1, x1), (3, x3)]) (s : p5_20 call n x1 x3 h K = true) : runC call' n c5_20 ⟨ρ, h⟩ (finK A5.res K') = true :=
  c_seq (c_seq (c_reg (q_mv H rfl fun H => r_nil (k_seq (c_block (c_loop (l5_24_ok hc hK n _ _ _ _ _ (H.keep [1, 3, 4] rfl) s)))))))
def p5_10 (call : CallFn) (n : Nat) (x1 : AV) (h : AHeap) (K : Kont) : Bool :=
  call (.func 8) [] h fun v6 h => optB (eqV h false .ptr v6 .nilPtr) fun v7 => condB v7 (K (.bool false) h) (p5_20 call n x1 v6 h K)
theorem p5_10_ok (hc : Le call call') (hK : KLe K K') (H : Has ρ [(1, x1)]) (s : p5_10 call n x1 h K = true) : runC call' n c5_10 ⟨ρ, h⟩ (finK A5.res K') = true :=
  c_seq (c_reg (q_call hc H rfl s fun _ _ s H => q_mv H rfl fun H => r_nil (k_seq (c_seq (c_seq (c_reg (q_mv H rfl fun H => q_pure H rfl s fun _ s H => r_nil (k_seq (c_cond H rfl s (fun s => c_seq (c_reg (q_mv H rfl fun H => r_nil (k_seq (c_ret (k_seq_ret (fin_ret H rfl hK s))))))) (fun s => c_skip (k_seq (p5_20_ok hc hK (H.keep [1, 3] rfl) s))))))))))))
def s5 (call : CallFn) (n : Nat) (x0 : AV) (h : AHeap) (K : Kont) : Bool :=
  optP (boxA h 1 x0) fun v1 h => optB (loadA h true 1 v1) fun v2 => call (.func 6) [v2] h fun v3 h => optB (notA v3) fun v4 => condB v4 (call (.func 7) [] h fun v5 h => K v5 h) (p5_10 call n v1 h K)
theorem s5_ok (hc : Le call call') (hK : KLe K K') (H : Has ρ [(0, x0)]) (s : s5 call n x0 h K = true) : runC call' n A5.body ⟨ρ, h⟩ (finK A5.res K') = true :=
  c_seq (c_reg (q_heap H rfl s fun _ _ s H => q_mv H rfl fun H => r_nil (k_seq (c_seq (c_seq (c_reg (q_pure H rfl s fun _ s H => q_call hc H rfl s fun _ _ s H => q_pure H rfl s fun _ s H => r_nil (k_seq (c_cond H rfl s (fun s => c_seq (c_reg (q_call hc H rfl s fun _ _ s H => q_mv H rfl fun H => r_nil (k_seq (c_ret (k_seq_ret (fin_ret H rfl hK s))))))) (fun s => c_skip (k_seq (p5_10_ok hc hK (H.keep [1] rfl) s))))))))))))
def w5 : Sh := fun call n args h K => match args with
  | [x0] => s5 call n x0 h K
  | _ => false
theorem w5_ok {E : Env} (e : E.code 5 = some A5) : ShOK E 5 w5 := fun call call' n args h K K' hc hK s =>
  match args, s with
  | [x0], s => ⟨A5, e, rfl, s5_ok hc hK (Has.nil.set 0 x0) s⟩
  | [], s => nomatch s
  | _ :: _ :: _, s => nomatch s
def p6_33 (call : CallFn) (n : Nat) (B8 : F3) (x1 x3 x4 : AV) (h : AHeap) (K : Kont) : Bool :=
  optB (binA .add x4 (.int .i64 1)) fun v38 => B8 x1 x3 v38 h
abbrev k6_0 (call' : CallFn) (n : Nat) (K' : Kont) := seqK call' n c6_34 (finK A6.res K')
abbrev k6_1 (call' : CallFn) (n : Nat) (K' : Kont) := blockK 0 (k6_0 call' n K')
abbrev H6_8 (call' : CallFn) (n : Nat) (K' : Kont) (m : Nat) (B : F3) : Prop := ∀ (x1 x3 x4 : AV) (h : AHeap) (ρ : Regs), Has ρ [(1, x1), (3, x3), (4, x4)] → B x1 x3 x4 h = true → iter (runC call' n c6_9) (k6_1 call' n K') m ⟨ρ, h⟩ = true
abbrev k6_2 (call' : CallFn) (n : Nat) (K' : Kont) (m8 : Nat) := loopK call' n c6_9 (k6_1 call' n K') m8
theorem p6_33_ok (hc : Le call call') (hK : KLe K K') {m8 : Nat} {B8 : F3} (hB8 : H6_8 call' n K' m8 B8) (H : Has ρ [(1, x1), (3, x3), (4, x4)]) (s : p6_33 call n B8 x1 x3 x4 h K = true) : runC call' n c6_33 ⟨ρ, h⟩ (k6_2 call' n K' m8) = true :=
  c_reg (q_mv H rfl fun H => q_pure H rfl s fun _ s H => q_mv H rfl fun H => r_nil (k_loop (hB8 _ _ _ _ _ (H.keep [1, 3, 4] rfl) s)))
def b6_22 (call : CallFn) (n : Nat) (B8 : F3) (B22 : F4) (x1 x3 x4 x5 : AV) (h : AHeap) (K : Kont) : Bool :=
  optB (fadrA 0 x1) fun v17 => optB (loadA h false 1 v17) fun v18 => optB (iadrA h 7 v18 x4) fun v19 => optB (fadrA 3 v19) fun v20 => optB (fadrA 1 v20) fun v21 => optB (loadA h false 1 v21) fun v22 => optB (lenA h 1 v22) fun v23 => optB (binA .lss x5 v23) fun v24 => condB v24 (optB (binA .add x3 (.int .i64 1)) fun v25 => optB (fadrA 0 x1) fun v26 => optB (loadA h false 1 v26) fun v27 => optB (iadrA h 7 v27 x4) fun v28 => optB (fadrA 3 v28) fun v29 => optB (fadrA 1 v29) fun v30 => optB (loadA h false 1 v30) fun v31 => optB (iadrA h 3 v31 x5) fun v32 => optB (fadrA 2 v32) fun v33 => optB (loadA h false 1 v33) fun v34 => call (.func 32) [v34] h fun v35 h => optB (binA .add v25 v35) fun v36 => optB (binA .add x5 (.int .i64 1)) fun v37 => B22 x1 v36 x4 v37 h) (p6_33 call n B8 x1 x3 x4 h K)
abbrev k6_3 (call' : CallFn) (n : Nat) (K' : Kont) (m8 : Nat) := seqK call' n c6_33 (k6_2 call' n K' m8)
abbrev k6_4 (call' : CallFn) (n : Nat) (K' : Kont) (m8 : Nat) := blockK 1 (k6_3 call' n K' m8)
abbrev k6_5 (call' : CallFn) (n : Nat) (K' : Kont) (m8 : Nat) := blockK 2 (k6_4 call' n K' m8)
abbrev H6_22 (call' : CallFn) (n : Nat) (K' : Kont) (m8 : Nat) (m : Nat) (B : F4) : Prop := ∀ (x1 x3 x4 x5 : AV) (h : AHeap) (ρ : Regs), Has ρ [(1, x1), (3, x3), (4, x4), (5, x5)] → B x1 x3 x4 x5 h = true → iter (runC call' n c6_23) (k6_5 call' n K' m8) m ⟨ρ, h⟩ = true
abbrev k6_6 (call' : CallFn) (n : Nat) (K' : Kont) (m8 m22 : Nat) := loopK call' n c6_23 (k6_5 call' n K' m8) m22
theorem b6_22_ok (hc : Le call call') (hK : KLe K K') {m8 : Nat} {B8 : F3} (hB8 : H6_8 call' n K' m8 B8) {m22 : Nat} {B22 : F4} (hB22 : H6_22 call' n K' m8 m22 B22) (H : Has ρ [(1, x1), (3, x3), (4, x4), (5, x5)]) (s : b6_22 call n B8 B22 x1 x3 x4 x5 h K = true) : runC call' n c6_23 ⟨ρ, h⟩ (k6_6 call' n K' m8 m22) = true :=
  c_seq (c_seq (c_reg (q_mv H rfl fun H => q_pure H rfl s fun _ s H => q_pure H rfl s fun _ s H => q_mv H rfl fun H => q_pure H rfl s fun _ s H => q_pure H rfl s fun _ s H => q_pure H rfl s fun _ s H => q_pure H rfl s fun _ s H => q_pure H rfl s fun _ s H => q_pure H rfl s fun _ s H => r_nil (k_seq (c_cond H rfl s (fun s => c_skip (k_seq (c_seq (c_block (c_reg (q_mv H rfl fun H => q_pure H rfl s fun _ s H => q_pure H rfl s fun _ s H => q_pure H rfl s fun _ s H => q_mv H rfl fun H => q_pure H rfl s fun _ s H => q_pure H rfl s fun _ s H => q_pure H rfl s fun _ s H => q_pure H rfl s fun _ s H => q_mv H rfl fun H => q_pure H rfl s fun _ s H => q_pure H rfl s fun _ s H => q_pure H rfl s fun _ s H => q_call hc H rfl s fun _ _ s H => q_pure H rfl s fun _ s H => q_mv H rfl fun H => r_nil (k_block (k_seq (c_reg (q_mv H rfl fun H => q_pure H rfl s fun _ s H => q_mv H rfl fun H => r_nil (k_loop (hB22 _ _ _ _ _ _ (H.keep [1, 3, 4, 5] rfl) s)))))))))))) (fun s => c_exit (k_seq_exit (k_loop_exit (k_block_eq (k_block (k_seq (p6_33_ok hc hK hB8 (H.keep [1, 3, 4] rfl) s))))))))))))
def l6_22 (call : CallFn) (n : Nat) (B8 : F3) : Nat → AV → AV → AV → AV → AHeap → Kont → Bool
  | 0 => fun _ _ _ _ _ _ => false
  | m + 1 => fun x1 x3 x4 x5 h K => b6_22 call n B8 (fun x1 x3 x4 x5 h => l6_22 call n B8 m x1 x3 x4 x5 h K) x1 x3 x4 x5 h K
theorem l6_22_ok (hc : Le call call') (hK : KLe K K') {m8 : Nat} {B8 : F3} (hB8 : H6_8 call' n K' m8 B8) : ∀ (m : Nat) (x1 x3 x4 x5 : AV) (h : AHeap) (ρ : Regs), Has ρ [(1, x1), (3, x3), (4, x4), (5, x5)] → l6_22 call n B8 m x1 x3 x4 x5 h K = true → iter (runC call' n c6_23) (k6_5 call' n K' m8) m ⟨ρ, h⟩ = true
  | 0, _, _, _, _, _, _, _, s => nomatch s
  | m + 1, _, _, _, _, _, _, H, s => c_round (b6_22_ok hc hK hB8 (fun x1 x3 x4 x5 h ρ H s => l6_22_ok hc hK hB8 m x1 x3 x4 x5 h ρ H s) H s)
def p6_15 (call : CallFn) (n : Nat) (B8 : F3) (x1 x3 x4 : AV) (h : AHeap) (K : Kont) : Bool :=
  optB (binA .add x3 (.int .i64 1)) fun v9 => optB (fadrA 0 x1) fun v10 => optB (loadA h false 1 v10) fun v11 => optB (iadrA h 7 v11 x4) fun v12 => optB (fadrA 2 v12) fun v13 => optB (loadA h false 1 v13) fun v14 => call (.func 32) [v14] h fun v15 h => optB (binA .add v9 v15) fun v16 => l6_22 call n B8 n x1 v16 x4 (.int .i64 0) h K
theorem p6_15_ok (hc : Le call call') (hK : KLe K K') {m8 : Nat} {B8 : F3} (hB8 : H6_8 call' n K' m8 B8) (H : Has ρ [(1, x1), (3, x3), (4, x4)]) (s : p6_15 call n B8 x1 x3 x4 h K = true) : runC call' n c6_15 ⟨ρ, h⟩ (k6_2 call' n K' m8) = true :=
  c_seq (c_block (c_seq (c_reg (q_mv H rfl fun H => q_pure H rfl s fun _ s H => q_pure H rfl s fun _ s H => q_pure H rfl s fun _ s H => q_mv H rfl fun H => q_pure H rfl s fun _ s H => q_pure H rfl s fun _ s H => q_pure H rfl s fun _ s H => q_call hc H rfl s fun _ _ s H => q_pure H rfl s fun _ s H => q_mv H rfl fun H => r_nil (k_seq (c_seq (c_reg (q_mv H rfl fun H => r_nil (k_seq (c_block (c_loop (l6_22_ok hc hK hB8 n _ _ _ _ _ _ (H.keep [1, 3, 4, 5] rfl) s))))))))))))
def p6_34 (call : CallFn) (n : Nat) (x3 : AV) (h : AHeap) (K : Kont) : Bool :=
  optB (binA .leq x3 (.int .i64 1500)) fun v39 => K v39 h
theorem p6_34_ok (hc : Le call call') (hK : KLe K K') (H : Has ρ [(3, x3)]) (s : p6_34 call n x3 h K = true) : runC call' n c6_34 ⟨ρ, h⟩ (finK A6.res K') = true :=
  c_seq (c_reg (q_mv H rfl fun H => q_pure H rfl s fun _ s H => q_mv H rfl fun H => r_nil (k_seq (c_ret (fin_ret H rfl hK s)))))
def b6_8 (call : CallFn) (n : Nat) (B8 : F3) (x1 x3 x4 : AV) (h : AHeap) (K : Kont) : Bool :=
  optB (fadrA 0 x1) fun v2 => optB (loadA h false 1 v2) fun v3 => optB (lenA h 1 v3) fun v4 => optB (binA .lss x4 v4) fun v5 => optB (grdO (wantV v5 true) (some x4)) fun v6 => optB (grdO (wantV v5 true) (binA .lss v6 (.int .i64 60))) fun v7 => optB (pickV v5 v7 (.bool false)) fun v8 => condB v8 (p6_15 call n B8 x1 x3 x4 h K) (p6_34 call n x3 h K)
theorem b6_8_ok (hc : Le call call') (hK : KLe K K') {m8 : Nat} {B8 : F3} (hB8 : H6_8 call' n K' m8 B8) (H : Has ρ [(1, x1), (3, x3), (4, x4)]) (s : b6_8 call n B8 x1 x3 x4 h K = true) : runC call' n c6_9 ⟨ρ, h⟩ (k6_2 call' n K' m8) = true :=
  c_seq (c_seq (c_reg (q_mv H rfl fun H => q_pure H rfl s fun _ s H => q_pure H rfl s fun _ s H => q_pure H rfl s fun _ s H => q_pure H rfl s fun _ s H => q_mv H rfl fun H => qgstep_pure H rfl rfl s fun _ s H => qgstep_pure H rfl rfl s fun _ s H => q_pure H rfl s fun _ s H => r_nil (k_seq (c_cond H rfl s (fun s => c_skip (k_seq (p6_15_ok hc hK hB8 (H.keep [1, 3, 4] rfl) s))) (fun s => c_exit (k_seq_exit (k_loop_exit (k_block_eq (k_seq (p6_34_ok hc hK (H.keep [3] rfl) s)))))))))))
def l6_8 (call : CallFn) (n : Nat) : Nat → AV → AV → AV → AHeap → Kont → Bool
  | 0 => fun _ _ _ _ _ => false
  | m + 1 => fun x1 x3 x4 h K => b6_8 call n (fun x1 x3 x4 h => l6_8 call n m x1 x3 x4 h K) x1 x3 x4 h K
theorem l6_8_ok (hc : Le call call') (hK : KLe K K') : ∀ (m : Nat) (x1 x3 x4 : AV) (h : AHeap) (ρ : Regs), Has ρ [(1, x1), (3, x3), (4, x4)] → l6_8 call n m x1 x3 x4 h K = true → iter (runC call' n c6_9) (k6_1 call' n K') m ⟨ρ, h⟩ = true
  | 0, _, _, _, _, _, _, s => nomatch s
  | m + 1, _, _, _, _, _, H, s => c_round (b6_8_ok hc hK (fun x1 x3 x4 h ρ H s => l6_8_ok hc hK m x1 x3 x4 h ρ H s) H s)
def s6 (call : CallFn) (n : Nat) (x0 : AV) (h : AHeap) (K : Kont) : Bool :=
  optP (boxA h 1 x0) fun v1 h => l6_8 call n n v1 (.int .i64 0) (.int .i64 0) h K
theorem s6_ok (hc : Le call call') (hK : KLe K K') (H : Has ρ [(0, x0)]) (s : s6 call n x0 h K = true) : runC call' n A6.body ⟨ρ, h⟩ (finK A6.res K') = true :=
  c_seq (c_reg (q_heap H rfl s fun _ _ s H => q_mv H rfl fun H => r_nil (k_seq (c_seq (c_reg (q_mv H rfl fun H => r_nil (k_seq (c_seq (c_seq (c_reg (q_mv H rfl fun H => r_nil (k_seq (c_block (c_loop (l6_8_ok hc hK n _ _ _ _ _ (H.keep [1, 3, 4] rfl) s)))))))))))))))
def w6 : Sh := fun call n args h K => match args with
  | [x0] => s6 call n x0 h K
  | _ => false
theorem w6_ok {E : Env} (e : E.code 6 = some A6) : ShOK E 6 w6 := fun call call' n args h K K' hc hK s =>
  match args, s with
  | [x0], s => ⟨A6, e, rfl, s6_ok hc hK (Has.nil.set 0 x0) s⟩
  | [], s => nomatch s
  | _ :: _ :: _, s => nomatch s
def s8 (call : CallFn) (n : Nat) (h : AHeap) (K : Kont) : Bool :=
  optP (mkmapV h) fun v1 h => optP (mkmapV h) fun v2 h => optB (buildV [.nilMap, .nilMap, .int .i64 0, .int .i64 0] [(0, 1, v1), (1, 1, v2)]) fun v3 => optP (boxA h 4 v3) fun v4 h => K v4 h
theorem s8_ok (hc : Le call call') (hK : KLe K K') (H : Has ρ []) (s : s8 call n  h K = true) : runC call' n A8.body ⟨ρ, h⟩ (finK A8.res K') = true :=
  c_seq (c_reg (q_mv H rfl fun H => r_nil (k_seq (c_seq (c_reg (q_heap H rfl s fun _ _ s H => q_heap H rfl s fun _ _ s H => q_pure H rfl s fun _ s H => q_heap H rfl s fun _ _ s H => q_mv H rfl fun H => r_nil (k_seq (c_ret (fin_ret H rfl hK s)))))))))
def w8 : Sh := fun call n args h K => match args with
  | [] => s8 call n  h K
  | _ => false
theorem w8_ok {E : Env} (e : E.code 8 = some A8) : ShOK E 8 w8 := fun call call' n args h K K' hc hK s =>
  match args, s with
  | [], s => ⟨A8, e, rfl, s8_ok hc hK Has.nil s⟩
  | _ :: _, s => nomatch s
def p10_36 (call : CallFn) (n : Nat) (x0 x7 x8 : AV) (h : AHeap) (K : Kont) : Bool :=
  optB (nilckA x0) fun v103 => optB (fadrA 0 v103) fun v104 => optB (loadA h false 1 v104) fun v105 => optB (loadA h true 2 x7) fun v106 => optB (lookA h (.st [.str, .str]) false .nilPtr v105 v106) fun v107 => optB (nilckA v107) fun v108 => optB (fadrA 3 v108) fun v109 => optB (loadA h false 1 v109) fun v110 => optB (loadA h true 2 x8) fun v111 => optB (buildV [] []) fun v112 => optP (unit (mupdA h (.st [.int, .str]) v110 v111 v112)) fun _ h => optB (nilckA x0) fun v114 => optB (fadrA 1 v114) fun v115 => optB (loadA h false 1 v115) fun v116 => optB (loadA h true 2 x8) fun v117 => optB (lookA h (.st [.int, .str]) false .nilPtr v116 v117) fun v118 => optB (nilckA v118) fun v119 => optB (fadrA 4 v119) fun v120 => optB (loadA h false 1 v120) fun v121 => optB (loadA h true 2 x7) fun v122 => optB (buildV [] []) fun v123 => optP (unit (mupdA h (.st [.str, .str]) v121 v122 v123)) fun _ h => K (.int .i64 0) h
theorem p10_36_ok (hc : Le call call') (hK : KLe K K') (H : Has ρ [(0, x0), (7, x7), (8, x8)]) (s : p10_36 call n x0 x7 x8 h K = true) : runC call' n c10_36 ⟨ρ, h⟩ (finK A10.res K') = true :=
  c_seq (c_dreg (c_m H rfl fun H => c_p H rfl s fun _ s H => c_p H rfl s fun _ s H => c_p H rfl s fun _ s H => c_p H rfl s fun _ s H => c_p H rfl s fun _ s H => c_p H rfl s fun _ s H => c_p H rfl s fun _ s H => c_p H rfl s fun _ s H => c_p H rfl s fun _ s H => c_p H rfl s fun _ s H => calc_nil (d_cons (step_heap0 H rfl s fun _ _ s H => dk (again_nil (calc_nil (d_nil (k_seq (c_seq (c_dreg (c_m H rfl fun H => c_p H rfl s fun _ s H => c_p H rfl s fun _ s H => c_p H rfl s fun _ s H => c_p H rfl s fun _ s H => c_p H rfl s fun _ s H => c_p H rfl s fun _ s H => c_p H rfl s fun _ s H => c_p H rfl s fun _ s H => c_p H rfl s fun _ s H => c_p H rfl s fun _ s H => calc_nil (d_cons (step_heap0 H rfl s fun _ _ s H => dk (again_nil (calc_nil (d_nil (k_seq (c_seq (c_reg (q_mv H rfl fun H => r_nil (k_seq (c_ret (fin_ret H rfl hK s)))))))))))))))))))))))
def p10_28 (call : CallFn) (n : Nat) (x0 x7 x8 : AV) (h : AHeap) (K : Kont) : Bool :=
  optB (nilckA x0) fun v81 => optB (fadrA 0 v81) fun v82 => optB (loadA h false 1 v82) fun v83 => optB (loadA h true 2 x7) fun v84 => optB (lookA h (.st [.str, .str]) false .nilPtr v83 v84) fun v85 => optB (nilckA v85) fun v86 => optB (fadrA 3 v86) fun v87 => optB (loadA h false 1 v87) fun v88 => optB (loadA h true 2 x8) fun v89 => optB (lookA h (.st [.int, .str]) true (.agg []) v88 v89) fun v90 => optB (extA 0 v90) fun v91 => optB (extA 1 v90) fun v92 => optP (allocV h []) fun v93 h => sameB (loadA h false 1 v82) v83 <| sameB (loadA h true 2 x7) v84 <| sameB (lookA h (.st [.str, .str]) false .nilPtr v83 v84) v85 <| sameB (loadA h false 1 v87) v88 <| sameB (loadA h true 2 x8) v89 <| sameB (lookA h (.st [.int, .str]) true (.agg []) v88 v89) v90 <| optP (unit (storeA h 0 v93 v91)) fun _ h => optB (notA v92) fun v95 => condB v95 (optB (nilckA x0) fun v96 => optB (fadrA 3 v96) fun v97 => optB (loadA h false 1 v97) fun v98 => optB (binA .add v98 (.int .i64 1)) fun v99 => optB (nilckA x0) fun v100 => optB (fadrA 3 v100) fun v101 => optP (unit (storeA h 1 v101 v99)) fun _ h => p10_36 call n x0 x7 x8 h K) (p10_36 call n x0 x7 x8 h K)
theorem p10_28_ok (hc : Le call call') (hK : KLe K K') (H : Has ρ [(0, x0), (7, x7), (8, x8)]) (s : p10_28 call n x0 x7 x8 h K = true) : runC call' n c10_28 ⟨ρ, h⟩ (finK A10.res K') = true :=
  c_seq (c_seq (c_dreg (c_m H rfl fun H => c_p H rfl s fun _ s H => c_p H rfl s fun _ s H => c_p H rfl s fun _ s H => c_p H rfl s fun _ s H => c_p H rfl s fun _ s H => c_p H rfl s fun _ s H => c_p H rfl s fun _ s H => c_p H rfl s fun _ s H => c_p H rfl s fun _ s H => c_p H rfl s fun _ s H => c_m H rfl fun H => c_p H rfl s fun _ s H => c_p H rfl s fun _ s H => calc_nil (d_cons (step_heap H rfl s fun _ _ s H => dk (a_s H rfl rfl s fun s => a_s H rfl rfl s fun s => a_s H rfl rfl s fun s => a_s H rfl rfl s fun s => a_s H rfl rfl s fun s => a_s H rfl rfl s fun s => again_nil (calc_nil (d_cons (step_heap0 H rfl s fun _ _ s H => dk (again_nil (c_m H rfl fun H => calc_nil (d_nil (k_seq (c_seq (c_reg (q_mv H rfl fun H => q_pure H rfl s fun _ s H => r_nil (k_seq (c_cond H rfl s (fun s => c_reg (q_mv H rfl fun H => q_pure H rfl s fun _ s H => q_pure H rfl s fun _ s H => q_pure H rfl s fun _ s H => q_pure H rfl s fun _ s H => q_pure H rfl s fun _ s H => q_pure H rfl s fun _ s H => q_heap0 H rfl s fun _ _ s H => r_nil (k_seq (p10_36_ok hc hK (H.keep [0, 7, 8] rfl) s)))) (fun s => c_skip (k_seq (p10_36_ok hc hK (H.keep [0, 7, 8] rfl) s)))))))))))))))))))))
set_option maxRecDepth 100000 in
def p10_20 (call : CallFn) (n : Nat) (x0 x5 x7 x8 : AV) (h : AHeap) (K : Kont) : Bool :=
  optB (nilckA x0) fun v55 => optB (fadrA 1 v55) fun v56 => optB (loadA h false 1 v56) fun v57 => optB (loadA h true 2 x8) fun v58 => optB (lookA h (.st [.int, .str]) false .nilPtr v57 v58) fun v59 => optB (eqV h false .ptr v59 .nilPtr) fun v60 => condB v60 (optB (nilckA x0) fun v61 => optB (fadrA 2 v61) fun v62 => optB (loadA h false 1 v62) fun v63 => optB (binA .add v63 (.int .i64 1)) fun v64 => optB (nilckA x0) fun v65 => optB (fadrA 2 v65) fun v66 => optP (unit (storeA h 1 v66 v64)) fun _ h => optB (nilckA x0) fun v68 => optB (fadrA 1 v68) fun v69 => optB (loadA h false 1 v69) fun v70 => optB (loadA h true 2 x8) fun v71 => optB (loadA h true 3 x5) fun v72 => optB (nilckA x0) fun v73 => optB (fadrA 2 v73) fun v74 => optB (loadA h false 1 v74) fun v75 => optP (mkmapV h) fun v76 h => sameB (loadA h false 1 v69) v70 <| sameB (loadA h true 2 x8) v71 <| sameB (loadA h true 3 x5) v72 <| sameB (loadA h false 1 v74) v75 <| call (.func 41) [v72] h fun v77 h => sameB (loadA h false 1 v69) v70 <| sameB (loadA h true 2 x8) v71 <| sameB (loadA h false 1 v74) v75 <| optB (buildV [.int .i64 0, .nilSlc, .nilSlc, .int .i64 0, .nilMap] [(0, 3, v77), (3, 1, v75), (4, 1, v76)]) fun v78 => optP (boxA h 5 v78) fun v79 h => sameB (loadA h false 1 v69) v70 <| sameB (loadA h true 2 x8) v71 <| sameB (loadA h true 3 x5) v72 <| sameB (loadA h false 1 v74) v75 <| optP (unit (mupdA h (.st [.int, .str]) v70 v71 v79)) fun _ h => p10_28 call n x0 x7 x8 h K) (p10_28 call n x0 x7 x8 h K)
set_option maxRecDepth 100000 in
theorem p10_20_ok (hc : Le call call') (hK : KLe K K') (H : Has ρ [(0, x0), (5, x5), (7, x7), (8, x8)]) (s : p10_20 call n x0 x5 x7 x8 h K = true) : runC call' n c10_20 ⟨ρ, h⟩ (finK A10.res K') = true :=
  c_seq (c_seq (c_dreg (c_m H rfl fun H => c_p H rfl s fun _ s H => c_p H rfl s fun _ s H => c_p H rfl s fun _ s H => c_p H rfl s fun _ s H => c_p H rfl s fun _ s H => c_p H rfl s fun _ s H => calc_nil (d_nil (k_seq (c_cond H rfl s (fun s => c_seq (c_reg (q_mv H rfl fun H => q_pure H rfl s fun _ s H => q_pure H rfl s fun _ s H => q_pure H rfl s fun _ s H => q_pure H rfl s fun _ s H => q_pure H rfl s fun _ s H => q_pure H rfl s fun _ s H => q_heap0 H rfl s fun _ _ s H => r_nil (k_seq (c_dreg (c_m H rfl fun H => c_p H rfl s fun _ s H => c_p H rfl s fun _ s H => c_p H rfl s fun _ s H => c_p H rfl s fun _ s H => c_p H rfl s fun _ s H => c_m H rfl fun H => c_p H rfl s fun _ s H => c_p H rfl s fun _ s H => c_p H rfl s fun _ s H => calc_nil (d_cons (step_heap H rfl s fun _ _ s H => dk (a_s H rfl rfl s fun s => a_s H rfl rfl s fun s => a_s H rfl rfl s fun s => a_s H rfl rfl s fun s => again_nil (calc_nil (d_cons (step_call hc H rfl s fun _ _ s H => dk (a_s H rfl rfl s fun s => a_s H rfl rfl s fun s => a_s H rfl rfl s fun s => again_nil (c_p H rfl s fun _ s H => calc_nil (d_cons (step_heap H rfl s fun _ _ s H => dk (a_s H rfl rfl s fun s => a_s H rfl rfl s fun s => a_s H rfl rfl s fun s => a_s H rfl rfl s fun s => again_nil (calc_nil (d_cons (step_heap0 H rfl s fun _ _ s H => dk (again_nil (calc_nil (d_nil (k_seq (p10_28_ok hc hK (H.keep [0, 7, 8] rfl) s))))))))))))))))))))))))) (fun s => c_skip (k_seq (p10_28_ok hc hK (H.keep [0, 7, 8] rfl) s)))))))))
set_option maxRecDepth 100000 in
def s10 (call : CallFn) (n : Nat) (x0 x1 x2 : AV) (h : AHeap) (K : Kont) : Bool :=
  optP (boxA h 2 x1) fun v1 h => optP (boxA h 3 x2) fun v2 h => optB (fadrA 0 v1) fun v3 => optB (loadA h false 1 v3) fun v4 => optB (binA .eql v4 (.str [])) fun v5 => optB (grdO (wantV v5 false) (fadrA 1 v1)) fun v6 => optB (grdO (wantV v5 false) (loadA h false 1 v6)) fun v7 => grdC (wantV v5 false) (fun k => call (.func 35) [v7] h k) h fun v8 h => optB (pickV v5 (.bool true) v8) fun v9 => optB (grdO (wantV v9 false) (fadrA 1 v2)) fun v10 => optB (grdO (wantV v9 false) (loadA h false 1 v10)) fun v11 => grdC (wantV v9 false) (fun k => call (.func 36) [v11, (.fn (.func 37) [] [])] h k) h fun v12 h => optB (pickV v9 (.bool true) v12) fun v13 => condB v13 (K (.int .i64 1) h) (optB (loadA h true 2 v1) fun v14 => optB (fadrA 0 v2) fun v15 => optB (loadA h false 1 v15) fun v16 => optB (loadA h true 3 v2) fun v17 => optP (allocV h [.str [], .str []]) fun v18 h => sameB (loadA h true 2 v1) v14 <| sameB (loadA h false 1 v15) v16 <| sameB (loadA h true 3 v2) v17 <| optP (allocV h [.int .i64 0, .str []]) fun v19 h => sameB (loadA h true 2 v1) v14 <| sameB (loadA h false 1 v15) v16 <| sameB (loadA h true 3 v2) v17 <| call (.func 38) [v14] h fun v20 h => sameB (loadA h false 1 v15) v16 <| sameB (loadA h true 3 v2) v17 <| call (.func 39) [v17] h fun v21 h => sameB (loadA h false 1 v15) v16 <| optB (buildV [.int .i64 0, .str []] [(0, 1, v16), (1, 1, v21)]) fun v22 => optP (unit (storeA h 2 v18 v20)) fun _ h => sameB (loadA h false 1 v15) v16 <| optP (unit (storeA h 2 v19 v22)) fun _ h => optB (nilckA x0) fun v25 => optB (fadrA 0 v25) fun v26 => optB (loadA h false 1 v26) fun v27 => optB (loadA h true 2 v18) fun v28 => optB (lookA h (.st [.str, .str]) false .nilPtr v27 v28) fun v29 => optB (eqV h false .ptr v29 .nilPtr) fun v30 => condB v30 (optB (nilckA x0) fun v31 => optB (fadrA 2 v31) fun v32 => optB (loadA h false 1 v32) fun v33 => optB (binA .add v33 (.int .i64 1)) fun v34 => optB (nilckA x0) fun v35 => optB (fadrA 2 v35) fun v36 => optP (unit (storeA h 1 v36 v34)) fun _ h => optB (nilckA x0) fun v38 => optB (fadrA 0 v38) fun v39 => optB (loadA h false 1 v39) fun v40 => optB (loadA h true 2 v18) fun v41 => optB (fadrA 0 v1) fun v42 => optB (loadA h false 1 v42) fun v43 => optB (fadrA 1 v1) fun v44 => optB (loadA h false 1 v44) fun v45 => optB (nilckA x0) fun v46 => optB (fadrA 2 v46) fun v47 => optB (loadA h false 1 v47) fun v48 => optP (mkmapV h) fun v49 h => sameB (loadA h false 1 v39) v40 <| sameB (loadA h true 2 v18) v41 <| sameB (loadA h false 1 v42) v43 <| sameB (loadA h false 1 v44) v45 <| sameB (loadA h false 1 v47) v48 <| call (.func 40) [v45] h fun v50 h => sameB (loadA h false 1 v39) v40 <| sameB (loadA h true 2 v18) v41 <| sameB (loadA h false 1 v42) v43 <| sameB (loadA h false 1 v47) v48 <| optB (buildV [.str [], .nilSlc] [(0, 1, v43), (1, 1, v50)]) fun v51 => optB (buildV [.str [], .nilSlc, .int .i64 0, .nilMap] [(0, 2, v51), (2, 1, v48), (3, 1, v49)]) fun v52 => optP (boxA h 4 v52) fun v53 h => sameB (loadA h false 1 v39) v40 <| sameB (loadA h true 2 v18) v41 <| sameB (loadA h false 1 v42) v43 <| sameB (loadA h false 1 v44) v45 <| sameB (loadA h false 1 v47) v48 <| optP (unit (mupdA h (.st [.str, .str]) v40 v41 v53)) fun _ h => p10_20 call n x0 v2 v18 v19 h K) (p10_20 call n x0 v2 v18 v19 h K))
set_option maxRecDepth 100000 in
theorem s10_ok (hc : Le call call') (hK : KLe K K') (H : Has ρ [(2, x2), (1, x1), (0, x0)]) (s : s10 call n x0 x1 x2 h K = true) : runC call' n A10.body ⟨ρ, h⟩ (finK A10.res K') = true :=
  c_seq (c_reg (q_heap H rfl s fun _ _ s H => q_heap H rfl s fun _ _ s H => q_mv H rfl fun H => r_nil (k_seq (c_seq (c_seq (c_reg (q_pure H rfl s fun _ s H => q_pure H rfl s fun _ s H => q_pure H rfl s fun _ s H => q_mv H rfl fun H => qgstep_pure H rfl rfl s fun _ s H => qgstep_pure H rfl rfl s fun _ s H => qgstep_call hc H rfl rfl s fun _ _ s H => q_pure H rfl s fun _ s H => q_mv H rfl fun H => qgstep_pure H rfl rfl s fun _ s H => qgstep_pure H rfl rfl s fun _ s H => qgstep_call hc H rfl rfl s fun _ _ s H => q_pure H rfl s fun _ s H => r_nil (k_seq (c_cond H rfl s (fun s => c_seq (c_reg (q_mv H rfl fun H => r_nil (k_seq (c_ret (k_seq_ret (fin_ret H rfl hK s))))))) (fun s => c_skip (k_seq (c_seq (c_dreg (c_p H rfl s fun _ s H => c_p H rfl s fun _ s H => c_p H rfl s fun _ s H => c_p H rfl s fun _ s H => calc_nil (d_cons (step_heap H rfl s fun _ _ s H => dk (a_s H rfl rfl s fun s => a_s H rfl rfl s fun s => a_s H rfl rfl s fun s => again_nil (calc_nil (d_cons (step_heap H rfl s fun _ _ s H => dk (a_s H rfl rfl s fun s => a_s H rfl rfl s fun s => a_s H rfl rfl s fun s => again_nil (calc_nil (d_cons (step_call hc H rfl s fun _ _ s H => dk (a_s H rfl rfl s fun s => a_s H rfl rfl s fun s => again_nil (calc_nil (d_cons (step_call hc H rfl s fun _ _ s H => dk (a_s H rfl rfl s fun s => again_nil (c_p H rfl s fun _ s H => calc_nil (d_cons (step_heap0 H rfl s fun _ _ s H => dk (a_s H rfl rfl s fun s => again_nil (calc_nil (d_cons (step_heap0 H rfl s fun _ _ s H => dk (again_nil (calc_nil (d_nil (k_seq (c_seq (c_seq (c_dreg (c_m H rfl fun H => c_p H rfl s fun _ s H => c_p H rfl s fun _ s H => c_p H rfl s fun _ s H => c_p H rfl s fun _ s H => c_p H rfl s fun _ s H => c_p H rfl s fun _ s H => calc_nil (d_nil (k_seq (c_cond H rfl s (fun s => c_seq (c_reg (q_mv H rfl fun H => q_pure H rfl s fun _ s H => q_pure H rfl s fun _ s H => q_pure H rfl s fun _ s H => q_pure H rfl s fun _ s H => q_pure H rfl s fun _ s H => q_pure H rfl s fun _ s H => q_heap0 H rfl s fun _ _ s H => r_nil (k_seq (c_dreg (c_m H rfl fun H => c_p H rfl s fun _ s H => c_p H rfl s fun _ s H => c_p H rfl s fun _ s H => c_p H rfl s fun _ s H => c_p H rfl s fun _ s H => c_p H rfl s fun _ s H => c_p H rfl s fun _ s H => c_p H rfl s fun _ s H => c_m H rfl fun H => c_p H rfl s fun _ s H => c_p H rfl s fun _ s H => c_p H rfl s fun _ s H => calc_nil (d_cons (step_heap H rfl s fun _ _ s H => dk (a_s H rfl rfl s fun s => a_s H rfl rfl s fun s => a_s H rfl rfl s fun s => a_s H rfl rfl s fun s => a_s H rfl rfl s fun s => again_nil (calc_nil (d_cons (step_call hc H rfl s fun _ _ s H => dk (a_s H rfl rfl s fun s => a_s H rfl rfl s fun s => a_s H rfl rfl s fun s => a_s H rfl rfl s fun s => again_nil (c_p H rfl s fun _ s H => c_p H rfl s fun _ s H => calc_nil (d_cons (step_heap H rfl s fun _ _ s H => dk (a_s H rfl rfl s fun s => a_s H rfl rfl s fun s => a_s H rfl rfl s fun s => a_s H rfl rfl s fun s => a_s H rfl rfl s fun s => again_nil (calc_nil (d_cons (step_heap0 H rfl s fun _ _ s H => dk (again_nil (calc_nil (d_nil (k_seq (p10_20_ok hc hK (H.keep [0, 5, 7, 8] rfl) s))))))))))))))))))))))))) (fun s => c_skip (k_seq (p10_20_ok hc hK (H.keep [0, 5, 7, 8] rfl) s))))))))))))))))))))))))))))))))))))))))))))))))))
def w10 : Sh := fun call n args h K => match args with
  | [x0, x1, x2] => s10 call n x0 x1 x2 h K
  | _ => false
theorem w10_ok {E : Env} (e : E.code 10 = some A10) : ShOK E 10 w10 := fun call call' n args h K K' hc hK s =>
  match args, s with
  | [x0, x1, x2], s => ⟨A10, e, rfl, s10_ok hc hK (((Has.nil.set 0 x0).set 1 x1).set 2 x2) s⟩
  | [], s => nomatch s
  | [_], s => nomatch s
  | [_, _], s => nomatch s
  | _ :: _ :: _ :: _ :: _, s => nomatch s
def p13_66 (call : CallFn) (n : Nat) (B35 : F6) (x1 x2 x7 x34 x35 x36 : AV) (h : AHeap) (K : Kont) : Bool :=
  optB (binA .add x36 (.int .i64 1)) fun v55 => B35 x1 x2 x7 x34 x35 v55 h
abbrev k13_0 (call' : CallFn) (n : Nat) (K' : Kont) := seqK call' n c13_67 (finK A13.res K')
abbrev k13_1 (call' : CallFn) (n : Nat) (K' : Kont) := blockK 2 (k13_0 call' n K')
abbrev H13_35 (call' : CallFn) (n : Nat) (K' : Kont) (m : Nat) (B : F6) : Prop := ∀ (x1 x2 x7 x34 x35 x36 : AV) (h : AHeap) (ρ : Regs), Has ρ [(1, x1), (2, x2), (7, x7), (34, x34), (35, x35), (36, x36)] → B x1 x2 x7 x34 x35 x36 h = true → iter (runC call' n c13_36) (k13_1 call' n K') m ⟨ρ, h⟩ = true
abbrev k13_2 (call' : CallFn) (n : Nat) (K' : Kont) (m35 : Nat) := loopK call' n c13_36 (k13_1 call' n K') m35
theorem p13_66_ok (hc : Le call call') (hK : KLe K K') {m35 : Nat} {B35 : F6} (hB35 : H13_35 call' n K' m35 B35) (H : Has ρ [(1, x1), (2, x2), (7, x7), (34, x34), (35, x35), (36, x36)]) (s : p13_66 call n B35 x1 x2 x7 x34 x35 x36 h K = true) : runC call' n c13_66 ⟨ρ, h⟩ (k13_2 call' n K' m35) = true :=
  c_reg (q_pure H rfl s fun _ s H => q_mv H rfl fun H => r_nil (k_loop (hB35 _ _ _ _ _ _ _ _ (H.keep [1, 2, 7, 34, 35, 36] rfl) s)))
def b13_54 (call : CallFn) (n : Nat) (B35 : F6) (B54 : F8) (x1 x2 x7 x9 x34 x35 x36 x58 : AV) (h : AHeap) (K : Kont) : Bool :=
  nextA h x58 fun v45 h => optB (extA 0 v45) fun v46 => condB v46 (optB (entA h x58) fun v47 => optB (extA 0 v47) fun v48 => optP (allocV h [.str [], .str []]) fun v49 h => optP (unit (storeA h 2 v49 v48)) fun _ h => optB (loadA h false 1 x2) fun v51 => optB (loadA h true 2 v49) fun v52 => optB (loadA h true 2 x9) fun v53 => call (.func 48) [v51, v52, v53] h fun v54 h => B54 x1 x2 x7 x9 x34 x35 x36 x58 h) (p13_66 call n B35 x1 x2 x7 x34 x35 x36 h K)
abbrev k13_3 (call' : CallFn) (n : Nat) (K' : Kont) (m35 : Nat) := seqK call' n c13_66 (k13_2 call' n K' m35)
abbrev k13_4 (call' : CallFn) (n : Nat) (K' : Kont) (m35 : Nat) := blockK 3 (k13_3 call' n K' m35)
abbrev k13_5 (call' : CallFn) (n : Nat) (K' : Kont) (m35 : Nat) := blockK 4 (k13_4 call' n K' m35)
abbrev H13_54 (call' : CallFn) (n : Nat) (K' : Kont) (m35 : Nat) (m : Nat) (B : F8) : Prop := ∀ (x1 x2 x7 x9 x34 x35 x36 x58 : AV) (h : AHeap) (ρ : Regs), Has ρ [(1, x1), (2, x2), (7, x7), (9, x9), (34, x34), (35, x35), (36, x36), (58, x58)] → B x1 x2 x7 x9 x34 x35 x36 x58 h = true → iter (runC call' n c13_55) (k13_5 call' n K' m35) m ⟨ρ, h⟩ = true
abbrev k13_6 (call' : CallFn) (n : Nat) (K' : Kont) (m35 m54 : Nat) := loopK call' n c13_55 (k13_5 call' n K' m35) m54
theorem b13_54_ok (hc : Le call call') (hK : KLe K K') {m35 : Nat} {B35 : F6} (hB35 : H13_35 call' n K' m35 B35) {m54 : Nat} {B54 : F8} (hB54 : H13_54 call' n K' m35 m54 B54) (H : Has ρ [(1, x1), (2, x2), (7, x7), (9, x9), (34, x34), (35, x35), (36, x36), (58, x58)]) (s : b13_54 call n B35 B54 x1 x2 x7 x9 x34 x35 x36 x58 h K = true) : runC call' n c13_55 ⟨ρ, h⟩ (k13_6 call' n K' m35 m54) = true :=
  c_seq (c_reg (q_nxt H rfl s fun _ _ s H => q_pure H rfl s fun _ s H => r_nil (k_seq (c_seq (c_cond H rfl s (fun s => c_skip (k_seq (c_block (c_seq (c_reg (q_pure H rfl s fun _ s H => q_pure H rfl s fun _ s H => q_heap H rfl s fun _ _ s H => q_heap0 H rfl s fun _ _ s H => r_nil (k_seq (c_reg (q_pure H rfl s fun _ s H => q_pure H rfl s fun _ s H => q_pure H rfl s fun _ s H => q_call hc H rfl s fun _ _ s H => r_nil (k_block (k_loop (hB54 _ _ _ _ _ _ _ _ _ _ (H.keep [1, 2, 7, 9, 34, 35, 36, 58] rfl) s)))))))))))) (fun s => c_exit (k_seq_exit (k_loop_exit (k_block_eq (k_block (k_seq (p13_66_ok hc hK hB35 (H.keep [1, 2, 7, 34, 35, 36] rfl) s))))))))))))
def l13_54 (call : CallFn) (n : Nat) (B35 : F6) : Nat → AV → AV → AV → AV → AV → AV → AV → AV → AHeap → Kont → Bool
  | 0 => fun _ _ _ _ _ _ _ _ _ _ => false
  | m + 1 => fun x1 x2 x7 x9 x34 x35 x36 x58 h K => b13_54 call n B35 (fun x1 x2 x7 x9 x34 x35 x36 x58 h => l13_54 call n B35 m x1 x2 x7 x9 x34 x35 x36 x58 h K) x1 x2 x7 x9 x34 x35 x36 x58 h K
theorem l13_54_ok (hc : Le call call') (hK : KLe K K') {m35 : Nat} {B35 : F6} (hB35 : H13_35 call' n K' m35 B35) : ∀ (m : Nat) (x1 x2 x7 x9 x34 x35 x36 x58 : AV) (h : AHeap) (ρ : Regs), Has ρ [(1, x1), (2, x2), (7, x7), (9, x9), (34, x34), (35, x35), (36, x36), (58, x58)] → l13_54 call n B35 m x1 x2 x7 x9 x34 x35 x36 x58 h K = true → iter (runC call' n c13_55) (k13_5 call' n K' m35) m ⟨ρ, h⟩ = true
  | 0, _, _, _, _, _, _, _, _, _, _, _, s => nomatch s
  | m + 1, _, _, _, _, _, _, _, _, _, _, H, s => c_round (b13_54_ok hc hK hB35 (fun x1 x2 x7 x9 x34 x35 x36 x58 h ρ H s => l13_54_ok hc hK hB35 m x1 x2 x7 x9 x34 x35 x36 x58 h ρ H s) H s)
def p13_42 (call : CallFn) (n : Nat) (B35 : F6) (x1 x2 x7 x34 x35 x36 : AV) (h : AHeap) (K : Kont) : Bool :=
  optB (iadrA h 2 x34 x36) fun v25 => optB (loadA h true 2 v25) fun v26 => optP (allocV h [.int .i64 0, .str []]) fun v27 h => optP (unit (storeA h 2 v27 v26)) fun _ h => optB (loadA h false 1 x2) fun v29 => optB (nilckA v29) fun v30 => optB (fadrA 1 v30) fun v31 => optB (loadA h false 1 v31) fun v32 => optB (loadA h true 2 v27) fun v33 => optB (lookA h (.st [.int, .str]) false .nilPtr v32 v33) fun v34 => optB (nilckA v34) fun v35 => optB (fadrA 0 v35) fun v36 => optB (loadA h true 3 v36) fun v37 => call (.func 41) [v37] h fun v38 h => callV call x1 [v38] h fun v39 h => optB (notA v39) fun v40 => condB v40 (optB (nilckA v34) fun v41 => optB (fadrA 4 v41) fun v42 => optB (loadA h false 1 v42) fun v43 => optP (rngA h v43) fun v44 h => l13_54 call n B35 n x1 x2 x7 v27 x34 x35 x36 v44 h K) (p13_66 call n B35 x1 x2 x7 x34 x35 x36 h K)
theorem p13_42_ok (hc : Le call call') (hK : KLe K K') {m35 : Nat} {B35 : F6} (hB35 : H13_35 call' n K' m35 B35) (H : Has ρ [(1, x1), (2, x2), (7, x7), (34, x34), (35, x35), (36, x36)]) (s : p13_42 call n B35 x1 x2 x7 x34 x35 x36 h K = true) : runC call' n c13_42 ⟨ρ, h⟩ (k13_2 call' n K' m35) = true :=
  c_seq (c_block (c_seq (c_reg (q_pure H rfl s fun _ s H => q_pure H rfl s fun _ s H => q_heap H rfl s fun _ _ s H => q_heap0 H rfl s fun _ _ s H => r_nil (k_seq (c_seq (c_dreg (c_p H rfl s fun _ s H => c_p H rfl s fun _ s H => c_p H rfl s fun _ s H => c_p H rfl s fun _ s H => c_p H rfl s fun _ s H => c_p H rfl s fun _ s H => c_m H rfl fun H => calc_nil (d_nil (k_seq (c_seq (c_reg (q_mv H rfl fun H => q_mv H rfl fun H => q_pure H rfl s fun _ s H => q_pure H rfl s fun _ s H => q_pure H rfl s fun _ s H => q_call hc H rfl s fun _ _ s H => q_callv hc H rfl rfl s fun _ _ s H => q_pure H rfl s fun _ s H => r_nil (k_seq (c_cond H rfl s (fun s => c_seq (c_reg (q_mv H rfl fun H => q_pure H rfl s fun _ s H => q_pure H rfl s fun _ s H => q_pure H rfl s fun _ s H => q_heap H rfl s fun _ _ s H => r_nil (k_seq (c_block (c_loop (l13_54_ok hc hK hB35 n _ _ _ _ _ _ _ _ _ _ (H.keep [1, 2, 7, 9, 34, 35, 36, 58] rfl) s))))))) (fun s => c_skip (k_block (k_seq (p13_66_ok hc hK hB35 (H.keep [1, 2, 7, 34, 35, 36] rfl) s)))))))))))))))))))
def p13_67 (call : CallFn) (n : Nat) (x2 x7 : AV) (h : AHeap) (K : Kont) : Bool :=
  optB (loadA h false 1 x2) fun v56 => optB (nilckA v56) fun v57 => optB (fadrA 3 v57) fun v58 => optB (loadA h false 1 v58) fun v59 => optB (binA .sub x7 v59) fun v60 => K v60 h
theorem p13_67_ok (hc : Le call call') (hK : KLe K K') (H : Has ρ [(2, x2), (7, x7)]) (s : p13_67 call n x2 x7 h K = true) : runC call' n c13_67 ⟨ρ, h⟩ (finK A13.res K') = true :=
  c_seq (c_reg (q_mv H rfl fun H => q_pure H rfl s fun _ s H => q_pure H rfl s fun _ s H => q_pure H rfl s fun _ s H => q_pure H rfl s fun _ s H => q_pure H rfl s fun _ s H => q_mv H rfl fun H => r_nil (k_seq (c_ret (fin_ret H rfl hK s)))))
def b13_35 (call : CallFn) (n : Nat) (B35 : F6) (x1 x2 x7 x34 x35 x36 : AV) (h : AHeap) (K : Kont) : Bool :=
  optB (binA .lss x36 x35) fun v24 => condB v24 (p13_42 call n B35 x1 x2 x7 x34 x35 x36 h K) (p13_67 call n x2 x7 h K)
theorem b13_35_ok (hc : Le call call') (hK : KLe K K') {m35 : Nat} {B35 : F6} (hB35 : H13_35 call' n K' m35 B35) (H : Has ρ [(1, x1), (2, x2), (7, x7), (34, x34), (35, x35), (36, x36)]) (s : b13_35 call n B35 x1 x2 x7 x34 x35 x36 h K = true) : runC call' n c13_36 ⟨ρ, h⟩ (k13_2 call' n K' m35) = true :=
  c_seq (c_reg (q_pure H rfl s fun _ s H => r_nil (k_seq (c_seq (c_cond H rfl s (fun s => c_skip (k_seq (p13_42_ok hc hK hB35 (H.keep [1, 2, 7, 34, 35, 36] rfl) s))) (fun s => c_exit (k_seq_exit (k_loop_exit (k_block_eq (k_seq (p13_67_ok hc hK (H.keep [2, 7] rfl) s)))))))))))
def l13_35 (call : CallFn) (n : Nat) : Nat → AV → AV → AV → AV → AV → AV → AHeap → Kont → Bool
  | 0 => fun _ _ _ _ _ _ _ _ => false
  | m + 1 => fun x1 x2 x7 x34 x35 x36 h K => b13_35 call n (fun x1 x2 x7 x34 x35 x36 h => l13_35 call n m x1 x2 x7 x34 x35 x36 h K) x1 x2 x7 x34 x35 x36 h K
theorem l13_35_ok (hc : Le call call') (hK : KLe K K') : ∀ (m : Nat) (x1 x2 x7 x34 x35 x36 : AV) (h : AHeap) (ρ : Regs), Has ρ [(1, x1), (2, x2), (7, x7), (34, x34), (35, x35), (36, x36)] → l13_35 call n m x1 x2 x7 x34 x35 x36 h K = true → iter (runC call' n c13_36) (k13_1 call' n K') m ⟨ρ, h⟩ = true
  | 0, _, _, _, _, _, _, _, _, _, s => nomatch s
  | m + 1, _, _, _, _, _, _, _, _, H, s => c_round (b13_35_ok hc hK (fun x1 x2 x7 x34 x35 x36 h ρ H s => l13_35_ok hc hK m x1 x2 x7 x34 x35 x36 h ρ H s) H s)
def p13_27 (call : CallFn) (n : Nat) (x1 x2 x5 : AV) (h : AHeap) (K : Kont) : Bool :=
  optB (some (.fn (.func 47) [] [x2])) fun v17 => call (.func 46) [x5, v17] h fun v18 h => optB (loadA h false 1 x2) fun v19 => optB (nilckA v19) fun v20 => optB (fadrA 3 v20) fun v21 => optB (loadA h false 1 v21) fun v22 => optB (lenA h 1 x5) fun v23 => l13_35 call n n x1 x2 v22 x5 v23 (.int .i64 0) h K
theorem p13_27_ok (hc : Le call call') (hK : KLe K K') (H : Has ρ [(1, x1), (2, x2), (5, x5)]) (s : p13_27 call n x1 x2 x5 h K = true) : runC call' n c13_27 ⟨ρ, h⟩ (finK A13.res K') = true :=
  c_seq (c_reg (q_mv H rfl fun H => q_pure H rfl s fun _ s H => q_call hc H rfl s fun _ _ s H => r_nil (k_seq (c_seq (c_reg (q_pure H rfl s fun _ s H => q_pure H rfl s fun _ s H => q_pure H rfl s fun _ s H => q_pure H rfl s fun _ s H => q_mv H rfl fun H => r_nil (k_seq (c_seq (c_seq (c_reg (q_mv H rfl fun H => q_pure H rfl s fun _ s H => q_mv H rfl fun H => r_nil (k_seq (c_block (c_loop (l13_35_ok hc hK n _ _ _ _ _ _ _ _ (H.keep [1, 2, 7, 34, 35, 36] rfl) s)))))))))))))))
def b13_16 (call : CallFn) (n : Nat) (B16 : F4) (x1 x2 x5 x18 : AV) (h : AHeap) (K : Kont) : Bool :=
  nextA h x18 fun v8 h => optB (extA 0 v8) fun v9 => condB v9 (optB (entA h x18) fun v10 => optB (extA 0 v10) fun v11 => optP (allocV h [.int .i64 0, .str []]) fun v12 h => optP (unit (storeA h 2 v12 v11)) fun _ h => optB (loadA h true 2 v12) fun v14 => optP (bsliceV h 1 2 [.int .i64 0, .str []] [(0, v14)]) fun v15 h => optP (appendA h 2 24 x5 v15) fun v16 h => B16 x1 x2 v16 x18 h) (p13_27 call n x1 x2 x5 h K)
abbrev k13_7 (call' : CallFn) (n : Nat) (K' : Kont) := seqK call' n c13_27 (finK A13.res K')
abbrev k13_8 (call' : CallFn) (n : Nat) (K' : Kont) := blockK 0 (k13_7 call' n K')
abbrev H13_16 (call' : CallFn) (n : Nat) (K' : Kont) (m : Nat) (B : F4) : Prop := ∀ (x1 x2 x5 x18 : AV) (h : AHeap) (ρ : Regs), Has ρ [(1, x1), (2, x2), (5, x5), (18, x18)] → B x1 x2 x5 x18 h = true → iter (runC call' n c13_17) (k13_8 call' n K') m ⟨ρ, h⟩ = true
abbrev k13_9 (call' : CallFn) (n : Nat) (K' : Kont) (m16 : Nat) := loopK call' n c13_17 (k13_8 call' n K') m16
theorem b13_16_ok (hc : Le call call') (hK : KLe K K') {m16 : Nat} {B16 : F4} (hB16 : H13_16 call' n K' m16 B16) (H : Has ρ [(1, x1), (2, x2), (5, x5), (18, x18)]) (s : b13_16 call n B16 x1 x2 x5 x18 h K = true) : runC call' n c13_17 ⟨ρ, h⟩ (k13_9 call' n K' m16) = true :=
  c_seq (c_reg (q_nxt H rfl s fun _ _ s H => q_pure H rfl s fun _ s H => r_nil (k_seq (c_seq (c_cond H rfl s (fun s => c_skip (k_seq (c_block (c_seq (c_reg (q_pure H rfl s fun _ s H => q_pure H rfl s fun _ s H => q_heap H rfl s fun _ _ s H => q_heap0 H rfl s fun _ _ s H => r_nil (k_seq (c_reg (q_mv H rfl fun H => q_pure H rfl s fun _ s H => q_heap H rfl s fun _ _ s H => q_heap H rfl s fun _ _ s H => q_mv H rfl fun H => r_nil (k_block (k_loop (hB16 _ _ _ _ _ _ (H.keep [1, 2, 5, 18] rfl) s)))))))))))) (fun s => c_exit (k_seq_exit (k_loop_exit (k_block_eq (k_seq (p13_27_ok hc hK (H.keep [1, 2, 5] rfl) s)))))))))))
def l13_16 (call : CallFn) (n : Nat) : Nat → AV → AV → AV → AV → AHeap → Kont → Bool
  | 0 => fun _ _ _ _ _ _ => false
  | m + 1 => fun x1 x2 x5 x18 h K => b13_16 call n (fun x1 x2 x5 x18 h => l13_16 call n m x1 x2 x5 x18 h K) x1 x2 x5 x18 h K
theorem l13_16_ok (hc : Le call call') (hK : KLe K K') : ∀ (m : Nat) (x1 x2 x5 x18 : AV) (h : AHeap) (ρ : Regs), Has ρ [(1, x1), (2, x2), (5, x5), (18, x18)] → l13_16 call n m x1 x2 x5 x18 h K = true → iter (runC call' n c13_17) (k13_8 call' n K') m ⟨ρ, h⟩ = true
  | 0, _, _, _, _, _, _, _, s => nomatch s
  | m + 1, _, _, _, _, _, _, H, s => c_round (b13_16_ok hc hK (fun x1 x2 x5 x18 h ρ H s => l13_16_ok hc hK m x1 x2 x5 x18 h ρ H s) H s)
def p13_10 (call : CallFn) (n : Nat) (x1 x2 : AV) (h : AHeap) (K : Kont) : Bool :=
  optB (loadA h false 1 x2) fun v3 => optB (nilckA v3) fun v4 => optB (fadrA 1 v4) fun v5 => optB (loadA h false 1 v5) fun v6 => optP (rngA h v6) fun v7 h => l13_16 call n n x1 x2 .nilSlc v7 h K
theorem p13_10_ok (hc : Le call call') (hK : KLe K K') (H : Has ρ [(1, x1), (2, x2)]) (s : p13_10 call n x1 x2 h K = true) : runC call' n c13_10 ⟨ρ, h⟩ (finK A13.res K') = true :=
  c_seq (c_reg (q_mv H rfl fun H => r_nil (k_seq (c_seq (c_seq (c_reg (q_pure H rfl s fun _ s H => q_pure H rfl s fun _ s H => q_pure H rfl s fun _ s H => q_pure H rfl s fun _ s H => q_heap H rfl s fun _ _ s H => r_nil (k_seq (c_block (c_loop (l13_16_ok hc hK n _ _ _ _ _ _ (H.keep [1, 2, 5, 18] rfl) s)))))))))))
def s13 (call : CallFn) (n : Nat) (x0 x1 : AV) (h : AHeap) (K : Kont) : Bool :=
  optP (boxA h 1 x0) fun v1 h => optB (eqV h false .fn x1 .nilFn) fun v2 => condB v2 (K (.int .i64 0) h) (p13_10 call n x1 v1 h K)
theorem s13_ok (hc : Le call call') (hK : KLe K K') (H : Has ρ [(1, x1), (0, x0)]) (s : s13 call n x0 x1 h K = true) : runC call' n A13.body ⟨ρ, h⟩ (finK A13.res K') = true :=
  c_seq (c_reg (q_heap H rfl s fun _ _ s H => q_mv H rfl fun H => r_nil (k_seq (c_seq (c_seq (c_reg (q_mv H rfl fun H => q_pure H rfl s fun _ s H => r_nil (k_seq (c_cond H rfl s (fun s => c_seq (c_reg (q_mv H rfl fun H => r_nil (k_seq (c_ret (k_seq_ret (fin_ret H rfl hK s))))))) (fun s => c_skip (k_seq (p13_10_ok hc hK (H.keep [1, 2] rfl) s))))))))))))
def w13 : Sh := fun call n args h K => match args with
  | [x0, x1] => s13 call n x0 x1 h K
  | _ => false
theorem w13_ok {E : Env} (e : E.code 13 = some A13) : ShOK E 13 w13 := fun call call' n args h K K' hc hK s =>
  match args, s with
  | [x0, x1], s => ⟨A13, e, rfl, s13_ok hc hK ((Has.nil.set 0 x0).set 1 x1) s⟩
  | [], s => nomatch s
  | [_], s => nomatch s
  | _ :: _ :: _ :: _, s => nomatch s
def b19_18 (call : CallFn) (n : Nat) (B18 : F4) (x0 x3 x6 x31 : AV) (h : AHeap) (K : Kont) : Bool :=
  nextA h x31 fun v21 h => optB (extA 0 v21) fun v22 => condB v22 (optB (entA h x31) fun v23 => optB (extA 0 v23) fun v24 => optP (allocV h [.int .i64 0, .str []]) fun v25 h => optP (unit (storeA h 2 v25 v24)) fun _ h => optB (loadA h true 2 x3) fun v27 => optB (loadA h true 2 v25) fun v28 => call (.func 38) [v27] h fun v29 h => sameB (loadA h true 2 v25) v28 <| call (.func 48) [x0, v29, v28] h fun v30 h => B18 x0 x3 x6 x31 h) (K x6 h)
abbrev k19_0 (call' : CallFn) (n : Nat) (K' : Kont) := seqK call' n c19_29 (finK A19.res K')
abbrev k19_1 (call' : CallFn) (n : Nat) (K' : Kont) := blockK 0 (k19_0 call' n K')
abbrev H19_18 (call' : CallFn) (n : Nat) (K' : Kont) (m : Nat) (B : F4) : Prop := ∀ (x0 x3 x6 x31 : AV) (h : AHeap) (ρ : Regs), Has ρ [(0, x0), (3, x3), (6, x6), (31, x31)] → B x0 x3 x6 x31 h = true → iter (runC call' n c19_19) (k19_1 call' n K') m ⟨ρ, h⟩ = true
abbrev k19_2 (call' : CallFn) (n : Nat) (K' : Kont) (m18 : Nat) := loopK call' n c19_19 (k19_1 call' n K') m18
theorem b19_18_ok (hc : Le call call') (hK : KLe K K') {m18 : Nat} {B18 : F4} (hB18 : H19_18 call' n K' m18 B18) (H : Has ρ [(0, x0), (3, x3), (6, x6), (31, x31)]) (s : b19_18 call n B18 x0 x3 x6 x31 h K = true) : runC call' n c19_19 ⟨ρ, h⟩ (k19_2 call' n K' m18) = true :=
  c_seq (c_reg (q_nxt H rfl s fun _ _ s H => q_pure H rfl s fun _ s H => r_nil (k_seq (c_seq (c_cond H rfl s (fun s => c_skip (k_seq (c_block (c_seq (c_reg (q_pure H rfl s fun _ s H => q_pure H rfl s fun _ s H => q_heap H rfl s fun _ _ s H => q_heap0 H rfl s fun _ _ s H => r_nil (k_seq (c_dreg (c_m H rfl fun H => c_p H rfl s fun _ s H => c_p H rfl s fun _ s H => calc_nil (d_cons (step_call hc H rfl s fun _ _ s H => dk (a_s H rfl rfl s fun s => again_nil (calc_nil (d_cons (step_call hc H rfl s fun _ _ s H => dk (again_nil (calc_nil (d_nil (k_block (k_loop (hB18 _ _ _ _ _ _ (H.keep [0, 3, 6, 31] rfl) s))))))))))))))))))))) (fun s => c_exit (k_seq_exit (k_loop_exit (k_block_eq (k_seq (c_seq (c_reg (q_mv H rfl fun H => q_mv H rfl fun H => r_nil (k_seq (c_ret (fin_ret H rfl hK s))))))))))))))))
def l19_18 (call : CallFn) (n : Nat) : Nat → AV → AV → AV → AV → AHeap → Kont → Bool
  | 0 => fun _ _ _ _ _ _ => false
  | m + 1 => fun x0 x3 x6 x31 h K => b19_18 call n (fun x0 x3 x6 x31 h => l19_18 call n m x0 x3 x6 x31 h K) x0 x3 x6 x31 h K
theorem l19_18_ok (hc : Le call call') (hK : KLe K K') : ∀ (m : Nat) (x0 x3 x6 x31 : AV) (h : AHeap) (ρ : Regs), Has ρ [(0, x0), (3, x3), (6, x6), (31, x31)] → l19_18 call n m x0 x3 x6 x31 h K = true → iter (runC call' n c19_19) (k19_1 call' n K') m ⟨ρ, h⟩ = true
  | 0, _, _, _, _, _, _, _, s => nomatch s
  | m + 1, _, _, _, _, _, _, H, s => c_round (b19_18_ok hc hK (fun x0 x3 x6 x31 h ρ H s => l19_18_ok hc hK m x0 x3 x6 x31 h ρ H s) H s)
def p19_12 (call : CallFn) (n : Nat) (x0 x3 x5 : AV) (h : AHeap) (K : Kont) : Bool :=
  optB (nilckA x5) fun v13 => optB (fadrA 3 v13) fun v14 => optB (loadA h false 1 v14) fun v15 => optB (lenA h 2 v15) fun v16 => optB (nilckA x5) fun v17 => optB (fadrA 3 v17) fun v18 => optB (loadA h false 1 v18) fun v19 => optP (rngA h v19) fun v20 h => l19_18 call n n x0 x3 v16 v20 h K
theorem p19_12_ok (hc : Le call call') (hK : KLe K K') (H : Has ρ [(0, x0), (3, x3), (5, x5)]) (s : p19_12 call n x0 x3 x5 h K = true) : runC call' n c19_12 ⟨ρ, h⟩ (finK A19.res K') = true :=
  c_seq (c_reg (q_mv H rfl fun H => q_pure H rfl s fun _ s H => q_pure H rfl s fun _ s H => q_pure H rfl s fun _ s H => q_pure H rfl s fun _ s H => q_mv H rfl fun H => r_nil (k_seq (c_seq (c_seq (c_reg (q_mv H rfl fun H => q_pure H rfl s fun _ s H => q_pure H rfl s fun _ s H => q_pure H rfl s fun _ s H => q_heap H rfl s fun _ _ s H => r_nil (k_seq (c_block (c_loop (l19_18_ok hc hK n _ _ _ _ _ _ (H.keep [0, 3, 6, 31] rfl) s)))))))))))
def s19 (call : CallFn) (n : Nat) (x0 x1 : AV) (h : AHeap) (K : Kont) : Bool :=
  optP (boxA h 2 x1) fun v1 h => optB (nilckA x0) fun v2 => optB (fadrA 0 v2) fun v3 => optB (loadA h false 1 v3) fun v4 => optB (loadA h true 2 v1) fun v5 => call (.func 38) [v5] h fun v6 h => sameB (loadA h false 1 v3) v4 <| optB (lookA h (.st [.str, .str]) false .nilPtr v4 v6) fun v7 => optB (eqV h false .ptr v7 .nilPtr) fun v8 => optB (grdO (wantV v8 false) (fadrA 1 v1)) fun v9 => optB (grdO (wantV v8 false) (loadA h false 1 v9)) fun v10 => grdC (wantV v8 false) (fun k => call (.func 35) [v10] h k) h fun v11 h => optB (pickV v8 (.bool true) v11) fun v12 => condB v12 (K (.int .i64 0) h) (p19_12 call n x0 v1 v7 h K)
theorem s19_ok (hc : Le call call') (hK : KLe K K') (H : Has ρ [(1, x1), (0, x0)]) (s : s19 call n x0 x1 h K = true) : runC call' n A19.body ⟨ρ, h⟩ (finK A19.res K') = true :=
  c_seq (c_reg (q_heap H rfl s fun _ _ s H => q_mv H rfl fun H => r_nil (k_seq (c_seq (c_dreg (c_m H rfl fun H => c_p H rfl s fun _ s H => c_p H rfl s fun _ s H => c_p H rfl s fun _ s H => c_p H rfl s fun _ s H => calc_nil (d_cons (step_call hc H rfl s fun _ _ s H => dk (a_s H rfl rfl s fun s => again_nil (c_p H rfl s fun _ s H => c_m H rfl fun H => calc_nil (d_nil (k_seq (c_seq (c_seq (c_reg (q_mv H rfl fun H => q_pure H rfl s fun _ s H => q_mv H rfl fun H => qgstep_pure H rfl rfl s fun _ s H => qgstep_pure H rfl rfl s fun _ s H => qgstep_call hc H rfl rfl s fun _ _ s H => q_pure H rfl s fun _ s H => r_nil (k_seq (c_cond H rfl s (fun s => c_seq (c_reg (q_mv H rfl fun H => r_nil (k_seq (c_ret (k_seq_ret (fin_ret H rfl hK s))))))) (fun s => c_skip (k_seq (p19_12_ok hc hK (H.keep [0, 3, 5] rfl) s)))))))))))))))))))))
def w19 : Sh := fun call n args h K => match args with
  | [x0, x1] => s19 call n x0 x1 h K
  | _ => false
theorem w19_ok {E : Env} (e : E.code 19 = some A19) : ShOK E 19 w19 := fun call call' n args h K K' hc hK s =>
  match args, s with
  | [x0, x1], s => ⟨A19, e, rfl, s19_ok hc hK ((Has.nil.set 0 x0).set 1 x1) s⟩
  | [], s => nomatch s
  | [_], s => nomatch s
  | _ :: _ :: _ :: _, s => nomatch s
def b21_27 (call : CallFn) (n : Nat) (B27 : F4) (x6 x24 x25 x26 : AV) (h : AHeap) (K : Kont) : Bool :=
  optB (binA .lss x26 x25) fun v13 => condB v13 (optB (iadrA h 1 x24 x26) fun v14 => optB (loadA h false 1 v14) fun v15 => optB (nilckA v15) fun v16 => optB (fadrA 0 v16) fun v17 => optB (fadrA 0 v17) fun v18 => optB (loadA h false 1 v18) fun v19 => optB (nilckA v15) fun v20 => optB (fadrA 0 v20) fun v21 => optB (fadrA 1 v21) fun v22 => optB (loadA h false 1 v22) fun v23 => call (.func 40) [v23] h fun v24 h => sameB (loadA h false 1 v18) v19 <| optB (buildV [.str [], .nilSlc] [(0, 1, v19), (1, 1, v24)]) fun v25 => optP (bsliceV h 1 2 [.str [], .nilSlc] [(0, v25)]) fun v26 h => optP (appendA h 2 40 x6 v26) fun v27 h => optB (binA .add x26 (.int .i64 1)) fun v28 => B27 v27 x24 x25 v28 h) (K x6 h)
abbrev k21_0 (call' : CallFn) (n : Nat) (K' : Kont) := seqK call' n c21_40 (finK A21.res K')
abbrev k21_1 (call' : CallFn) (n : Nat) (K' : Kont) := blockK 2 (k21_0 call' n K')
abbrev H21_27 (call' : CallFn) (n : Nat) (K' : Kont) (m : Nat) (B : F4) : Prop := ∀ (x6 x24 x25 x26 : AV) (h : AHeap) (ρ : Regs), Has ρ [(6, x6), (24, x24), (25, x25), (26, x26)] → B x6 x24 x25 x26 h = true → iter (runC call' n c21_28) (k21_1 call' n K') m ⟨ρ, h⟩ = true
abbrev k21_2 (call' : CallFn) (n : Nat) (K' : Kont) (m27 : Nat) := loopK call' n c21_28 (k21_1 call' n K') m27
theorem b21_27_ok (hc : Le call call') (hK : KLe K K') {m27 : Nat} {B27 : F4} (hB27 : H21_27 call' n K' m27 B27) (H : Has ρ [(6, x6), (24, x24), (25, x25), (26, x26)]) (s : b21_27 call n B27 x6 x24 x25 x26 h K = true) : runC call' n c21_28 ⟨ρ, h⟩ (k21_2 call' n K' m27) = true :=
  c_seq (c_reg (q_pure H rfl s fun _ s H => r_nil (k_seq (c_seq (c_cond H rfl s (fun s => c_skip (k_seq (c_seq (c_block (c_seq (c_reg (q_pure H rfl s fun _ s H => q_pure H rfl s fun _ s H => q_mv H rfl fun H => r_nil (k_seq (c_dreg (c_m H rfl fun H => c_m H rfl fun H => c_p H rfl s fun _ s H => c_p H rfl s fun _ s H => c_p H rfl s fun _ s H => c_p H rfl s fun _ s H => c_m H rfl fun H => c_p H rfl s fun _ s H => c_p H rfl s fun _ s H => c_p H rfl s fun _ s H => c_p H rfl s fun _ s H => calc_nil (d_cons (step_call hc H rfl s fun _ _ s H => dk (a_s H rfl rfl s fun s => again_nil (c_p H rfl s fun _ s H => calc_nil (d_cons (step_heap H rfl s fun _ _ s H => dk (again_nil (calc_nil (d_cons (step_heap H rfl s fun _ _ s H => dk (again_nil (calc_nil (d_cons (step_mv H rfl fun H => dk (again_nil (calc_nil (d_nil (k_block (k_seq (c_reg (q_pure H rfl s fun _ s H => q_mv H rfl fun H => r_nil (k_loop (hB27 _ _ _ _ _ _ (H.keep [6, 24, 25, 26] rfl) s))))))))))))))))))))))))))))))))) (fun s => c_exit (k_seq_exit (k_loop_exit (k_block_eq (k_seq (c_seq (c_reg (q_mv H rfl fun H => q_mv H rfl fun H => r_nil (k_seq (c_ret (fin_ret H rfl hK s))))))))))))))))
def l21_27 (call : CallFn) (n : Nat) : Nat → AV → AV → AV → AV → AHeap → Kont → Bool
  | 0 => fun _ _ _ _ _ _ => false
  | m + 1 => fun x6 x24 x25 x26 h K => b21_27 call n (fun x6 x24 x25 x26 h => l21_27 call n m x6 x24 x25 x26 h K) x6 x24 x25 x26 h K
theorem l21_27_ok (hc : Le call call') (hK : KLe K K') : ∀ (m : Nat) (x6 x24 x25 x26 : AV) (h : AHeap) (ρ : Regs), Has ρ [(6, x6), (24, x24), (25, x25), (26, x26)] → l21_27 call n m x6 x24 x25 x26 h K = true → iter (runC call' n c21_28) (k21_1 call' n K') m ⟨ρ, h⟩ = true
  | 0, _, _, _, _, _, _, _, s => nomatch s
  | m + 1, _, _, _, _, _, _, H, s => c_round (b21_27_ok hc hK (fun x6 x24 x25 x26 h ρ H s => l21_27_ok hc hK m x6 x24 x25 x26 h ρ H s) H s)
def p21_19 (call : CallFn) (n : Nat) (x3 : AV) (h : AHeap) (K : Kont) : Bool :=
  call (.func 51) [x3, (.fn (.func 52) [] [])] h fun v11 h => optB (lenA h 1 x3) fun v12 => l21_27 call n n .nilSlc x3 v12 (.int .i64 0) h K
theorem p21_19_ok (hc : Le call call') (hK : KLe K K') (H : Has ρ [(3, x3)]) (s : p21_19 call n x3 h K = true) : runC call' n c21_19 ⟨ρ, h⟩ (finK A21.res K') = true :=
  c_seq (c_reg (q_mv H rfl fun H => q_call hc H rfl s fun _ _ s H => r_nil (k_seq (c_seq (c_reg (q_mv H rfl fun H => r_nil (k_seq (c_seq (c_seq (c_reg (q_mv H rfl fun H => q_pure H rfl s fun _ s H => q_mv H rfl fun H => r_nil (k_seq (c_block (c_loop (l21_27_ok hc hK n _ _ _ _ _ _ (H.keep [6, 24, 25, 26] rfl) s)))))))))))))))
def b21_8 (call : CallFn) (n : Nat) (B8 : F2) (x3 x13 : AV) (h : AHeap) (K : Kont) : Bool :=
  nextA h x13 fun v5 h => optB (extA 0 v5) fun v6 => condB v6 (optB (entA h x13) fun v7 => optB (extA 1 v7) fun v8 => optP (bsliceV h 1 1 [.nilPtr] [(0, v8)]) fun v9 h => optP (appendA h 1 8 x3 v9) fun v10 h => B8 v10 x13 h) (p21_19 call n x3 h K)
abbrev k21_3 (call' : CallFn) (n : Nat) (K' : Kont) := seqK call' n c21_19 (finK A21.res K')
abbrev k21_4 (call' : CallFn) (n : Nat) (K' : Kont) := blockK 0 (k21_3 call' n K')
abbrev H21_8 (call' : CallFn) (n : Nat) (K' : Kont) (m : Nat) (B : F2) : Prop := ∀ (x3 x13 : AV) (h : AHeap) (ρ : Regs), Has ρ [(3, x3), (13, x13)] → B x3 x13 h = true → iter (runC call' n c21_9) (k21_4 call' n K') m ⟨ρ, h⟩ = true
abbrev k21_5 (call' : CallFn) (n : Nat) (K' : Kont) (m8 : Nat) := loopK call' n c21_9 (k21_4 call' n K') m8
theorem b21_8_ok (hc : Le call call') (hK : KLe K K') {m8 : Nat} {B8 : F2} (hB8 : H21_8 call' n K' m8 B8) (H : Has ρ [(3, x3), (13, x13)]) (s : b21_8 call n B8 x3 x13 h K = true) : runC call' n c21_9 ⟨ρ, h⟩ (k21_5 call' n K' m8) = true :=
  c_seq (c_reg (q_nxt H rfl s fun _ _ s H => q_pure H rfl s fun _ s H => r_nil (k_seq (c_seq (c_cond H rfl s (fun s => c_skip (k_seq (c_block (c_seq (c_reg (q_pure H rfl s fun _ s H => q_pure H rfl s fun _ s H => q_mv H rfl fun H => r_nil (k_seq (c_reg (q_mv H rfl fun H => q_mv H rfl fun H => q_heap H rfl s fun _ _ s H => q_heap H rfl s fun _ _ s H => q_mv H rfl fun H => r_nil (k_block (k_loop (hB8 _ _ _ _ (H.keep [3, 13] rfl) s)))))))))))) (fun s => c_exit (k_seq_exit (k_loop_exit (k_block_eq (k_seq (p21_19_ok hc hK (H.keep [3] rfl) s)))))))))))
def l21_8 (call : CallFn) (n : Nat) : Nat → AV → AV → AHeap → Kont → Bool
  | 0 => fun _ _ _ _ => false
  | m + 1 => fun x3 x13 h K => b21_8 call n (fun x3 x13 h => l21_8 call n m x3 x13 h K) x3 x13 h K
theorem l21_8_ok (hc : Le call call') (hK : KLe K K') : ∀ (m : Nat) (x3 x13 : AV) (h : AHeap) (ρ : Regs), Has ρ [(3, x3), (13, x13)] → l21_8 call n m x3 x13 h K = true → iter (runC call' n c21_9) (k21_4 call' n K') m ⟨ρ, h⟩ = true
  | 0, _, _, _, _, _, s => nomatch s
  | m + 1, _, _, _, _, H, s => c_round (b21_8_ok hc hK (fun x3 x13 h ρ H s => l21_8_ok hc hK m x3 x13 h ρ H s) H s)
def s21 (call : CallFn) (n : Nat) (x0 : AV) (h : AHeap) (K : Kont) : Bool :=
  optB (nilckA x0) fun v1 => optB (fadrA 0 v1) fun v2 => optB (loadA h false 1 v2) fun v3 => optP (rngA h v3) fun v4 h => l21_8 call n n .nilSlc v4 h K
theorem s21_ok (hc : Le call call') (hK : KLe K K') (H : Has ρ [(0, x0)]) (s : s21 call n x0 h K = true) : runC call' n A21.body ⟨ρ, h⟩ (finK A21.res K') = true :=
  c_seq (c_reg (q_mv H rfl fun H => r_nil (k_seq (c_seq (c_reg (q_mv H rfl fun H => r_nil (k_seq (c_seq (c_seq (c_reg (q_mv H rfl fun H => q_pure H rfl s fun _ s H => q_pure H rfl s fun _ s H => q_pure H rfl s fun _ s H => q_heap H rfl s fun _ _ s H => r_nil (k_seq (c_block (c_loop (l21_8_ok hc hK n _ _ _ _ (H.keep [3, 13] rfl) s)))))))))))))))
def w21 : Sh := fun call n args h K => match args with
  | [x0] => s21 call n x0 h K
  | _ => false
theorem w21_ok {E : Env} (e : E.code 21 = some A21) : ShOK E 21 w21 := fun call call' n args h K K' hc hK s =>
  match args, s with
  | [x0], s => ⟨A21, e, rfl, s21_ok hc hK (Has.nil.set 0 x0) s⟩
  | [], s => nomatch s
  | _ :: _ :: _, s => nomatch s
def s23 (call : CallFn) (n : Nat) (x0 : AV) (h : AHeap) (K : Kont) : Bool :=
  optB (nilckA x0) fun v1 => optB (fadrA 3 v1) fun v2 => optB (loadA h false 1 v2) fun v3 => K v3 h
theorem s23_ok (hc : Le call call') (hK : KLe K K') (H : Has ρ [(0, x0)]) (s : s23 call n x0 h K = true) : runC call' n A23.body ⟨ρ, h⟩ (finK A23.res K') = true :=
  c_seq (c_reg (q_mv H rfl fun H => r_nil (k_seq (c_seq (c_reg (q_mv H rfl fun H => q_pure H rfl s fun _ s H => q_pure H rfl s fun _ s H => q_pure H rfl s fun _ s H => q_mv H rfl fun H => r_nil (k_seq (c_ret (fin_ret H rfl hK s)))))))))
def w23 : Sh := fun call n args h K => match args with
  | [x0] => s23 call n x0 h K
  | _ => false
theorem w23_ok {E : Env} (e : E.code 23 = some A23) : ShOK E 23 w23 := fun call call' n args h K K' hc hK s =>
  match args, s with
  | [x0], s => ⟨A23, e, rfl, s23_ok hc hK (Has.nil.set 0 x0) s⟩
  | [], s => nomatch s
  | _ :: _ :: _, s => nomatch s
def s24 (call : CallFn) (n : Nat) (x0 x1 : AV) (h : AHeap) (K : Kont) : Bool :=
  optP (boxA h 2 x1) fun v1 h => optB (nilckA x0) fun v2 => optB (fadrA 0 v2) fun v3 => optB (loadA h false 1 v3) fun v4 => optB (loadA h true 2 v1) fun v5 => call (.func 38) [v5] h fun v6 h => sameB (loadA h false 1 v3) v4 <| optB (lookA h (.st [.str, .str]) false .nilPtr v4 v6) fun v7 => optB (eqV h false .ptr v7 .nilPtr) fun v8 => optB (grdO (wantV v8 false) (fadrA 1 v1)) fun v9 => optB (grdO (wantV v8 false) (loadA h false 1 v9)) fun v10 => grdC (wantV v8 false) (fun k => call (.func 35) [v10] h k) h fun v11 h => optB (pickV v8 (.bool true) v11) fun v12 => condB v12 (K (.int .i64 0) h) (optB (nilckA v7) fun v13 => optB (fadrA 3 v13) fun v14 => optB (loadA h false 1 v14) fun v15 => optB (lenA h 2 v15) fun v16 => K v16 h)
theorem s24_ok (hc : Le call call') (hK : KLe K K') (H : Has ρ [(1, x1), (0, x0)]) (s : s24 call n x0 x1 h K = true) : runC call' n A24.body ⟨ρ, h⟩ (finK A24.res K') = true :=
  c_seq (c_reg (q_heap H rfl s fun _ _ s H => q_mv H rfl fun H => r_nil (k_seq (c_seq (c_dreg (c_m H rfl fun H => c_p H rfl s fun _ s H => c_p H rfl s fun _ s H => c_p H rfl s fun _ s H => c_p H rfl s fun _ s H => calc_nil (d_cons (step_call hc H rfl s fun _ _ s H => dk (a_s H rfl rfl s fun s => again_nil (c_p H rfl s fun _ s H => c_m H rfl fun H => calc_nil (d_nil (k_seq (c_seq (c_seq (c_reg (q_mv H rfl fun H => q_pure H rfl s fun _ s H => q_mv H rfl fun H => qgstep_pure H rfl rfl s fun _ s H => qgstep_pure H rfl rfl s fun _ s H => qgstep_call hc H rfl rfl s fun _ _ s H => q_pure H rfl s fun _ s H => r_nil (k_seq (c_cond H rfl s (fun s => c_seq (c_reg (q_mv H rfl fun H => r_nil (k_seq (c_ret (k_seq_ret (fin_ret H rfl hK s))))))) (fun s => c_skip (k_seq (c_seq (c_reg (q_mv H rfl fun H => q_pure H rfl s fun _ s H => q_pure H rfl s fun _ s H => q_pure H rfl s fun _ s H => q_pure H rfl s fun _ s H => q_mv H rfl fun H => r_nil (k_seq (c_ret (fin_ret H rfl hK s))))))))))))))))))))))))))
def w24 : Sh := fun call n args h K => match args with
  | [x0, x1] => s24 call n x0 x1 h K
  | _ => false
theorem w24_ok {E : Env} (e : E.code 24 = some A24) : ShOK E 24 w24 := fun call call' n args h K K' hc hK s =>
  match args, s with
  | [x0, x1], s => ⟨A24, e, rfl, s24_ok hc hK ((Has.nil.set 0 x0).set 1 x1) s⟩
  | [], s => nomatch s
  | [_], s => nomatch s
  | _ :: _ :: _ :: _, s => nomatch s
def s30 (call : CallFn) (n : Nat) (x0 : AV) (h : AHeap) (K : Kont) : Bool :=
  optP (boxA h 3 x0) fun v1 h => K (.bool true) h
theorem s30_ok (hc : Le call call') (hK : KLe K K') (H : Has ρ [(0, x0)]) (s : s30 call n x0 h K = true) : runC call' n A30.body ⟨ρ, h⟩ (finK A30.res K') = true :=
  c_seq (c_reg (q_heap H rfl s fun _ _ s H => q_mv H rfl fun H => r_nil (k_seq (c_seq (c_reg (q_mv H rfl fun H => r_nil (k_seq (c_ret (fin_ret H rfl hK s)))))))))
def w30 : Sh := fun call n args h K => match args with
  | [x0] => s30 call n x0 h K
  | _ => false
theorem w30_ok {E : Env} (e : E.code 30 = some A30) : ShOK E 30 w30 := fun call call' n args h K K' hc hK s =>
  match args, s with
  | [x0], s => ⟨A30, e, rfl, s30_ok hc hK (Has.nil.set 0 x0) s⟩
  | [], s => nomatch s
  | _ :: _ :: _, s => nomatch s
def s31 (call : CallFn) (n : Nat) (x0 : AV) (h : AHeap) (K : Kont) : Bool :=
  optP (boxA h 3 x0) fun v1 h => K (.bool false) h
theorem s31_ok (hc : Le call call') (hK : KLe K K') (H : Has ρ [(0, x0)]) (s : s31 call n x0 h K = true) : runC call' n A31.body ⟨ρ, h⟩ (finK A31.res K') = true :=
  c_seq (c_reg (q_heap H rfl s fun _ _ s H => q_mv H rfl fun H => r_nil (k_seq (c_seq (c_reg (q_mv H rfl fun H => r_nil (k_seq (c_ret (fin_ret H rfl hK s)))))))))
def w31 : Sh := fun call n args h K => match args with
  | [x0] => s31 call n x0 h K
  | _ => false
theorem w31_ok {E : Env} (e : E.code 31 = some A31) : ShOK E 31 w31 := fun call call' n args h K K' hc hK s =>
  match args, s with
  | [x0], s => ⟨A31, e, rfl, s31_ok hc hK (Has.nil.set 0 x0) s⟩
  | [], s => nomatch s
  | _ :: _ :: _, s => nomatch s
def s32 (call : CallFn) (n : Nat) (x0 : AV) (h : AHeap) (K : Kont) : Bool :=
  call (.func 54) [x0, (.int .i64 0)] h fun v1 h => K v1 h
theorem s32_ok (hc : Le call call') (hK : KLe K K') (H : Has ρ [(0, x0)]) (s : s32 call n x0 h K = true) : runC call' n A32.body ⟨ρ, h⟩ (finK A32.res K') = true :=
  c_seq (c_reg (q_mv H rfl fun H => r_nil (k_seq (c_seq (c_reg (q_mv H rfl fun H => q_call hc H rfl s fun _ _ s H => q_mv H rfl fun H => r_nil (k_seq (c_ret (fin_ret H rfl hK s)))))))))
def w32 : Sh := fun call n args h K => match args with
  | [x0] => s32 call n x0 h K
  | _ => false
theorem w32_ok {E : Env} (e : E.code 32 = some A32) : ShOK E 32 w32 := fun call call' n args h K K' hc hK s =>
  match args, s with
  | [x0], s => ⟨A32, e, rfl, s32_ok hc hK (Has.nil.set 0 x0) s⟩
  | [], s => nomatch s
  | _ :: _ :: _, s => nomatch s
def s35 (call : CallFn) (n : Nat) (x0 : AV) (h : AHeap) (K : Kont) : Bool :=
  call (.func 55) [x0, (.fn (.func 56) [] [])] h fun v1 h => K v1 h
theorem s35_ok (hc : Le call call') (hK : KLe K K') (H : Has ρ [(0, x0)]) (s : s35 call n x0 h K = true) : runC call' n A35.body ⟨ρ, h⟩ (finK A35.res K') = true :=
  c_seq (c_reg (q_mv H rfl fun H => r_nil (k_seq (c_seq (c_reg (q_mv H rfl fun H => q_call hc H rfl s fun _ _ s H => q_mv H rfl fun H => r_nil (k_seq (c_ret (fin_ret H rfl hK s)))))))))
def w35 : Sh := fun call n args h K => match args with
  | [x0] => s35 call n x0 h K
  | _ => false
theorem w35_ok {E : Env} (e : E.code 35 = some A35) : ShOK E 35 w35 := fun call call' n args h K K' hc hK s =>
  match args, s with
  | [x0], s => ⟨A35, e, rfl, s35_ok hc hK (Has.nil.set 0 x0) s⟩
  | [], s => nomatch s
  | _ :: _ :: _, s => nomatch s
def s36 (call : CallFn) (n : Nat) (x0 x1 : AV) (h : AHeap) (K : Kont) : Bool :=
  call (.func 58) [x0, x1] h fun v1 h => optB (binA .geq v1 (.int .i64 0)) fun v2 => K v2 h
theorem s36_ok (hc : Le call call') (hK : KLe K K') (H : Has ρ [(1, x1), (0, x0)]) (s : s36 call n x0 x1 h K = true) : runC call' n A36.body ⟨ρ, h⟩ (finK A36.res K') = true :=
  c_seq (c_reg (q_mv H rfl fun H => r_nil (k_seq (c_seq (c_reg (q_mv H rfl fun H => q_mv H rfl fun H => q_call hc H rfl s fun _ _ s H => q_pure H rfl s fun _ s H => q_mv H rfl fun H => r_nil (k_seq (c_ret (fin_ret H rfl hK s)))))))))
def w36 : Sh := fun call n args h K => match args with
  | [x0, x1] => s36 call n x0 x1 h K
  | _ => false
theorem w36_ok {E : Env} (e : E.code 36 = some A36) : ShOK E 36 w36 := fun call call' n args h K K' hc hK s =>
  match args, s with
  | [x0, x1], s => ⟨A36, e, rfl, s36_ok hc hK ((Has.nil.set 0 x0).set 1 x1) s⟩
  | [], s => nomatch s
  | [_], s => nomatch s
  | _ :: _ :: _ :: _, s => nomatch s
def s37 (call : CallFn) (n : Nat) (x0 : AV) (h : AHeap) (K : Kont) : Bool :=
  optP (boxA h 3 x0) fun v1 h => optB (fadrA 2 v1) fun v2 => optB (loadA h false 1 v2) fun v3 => call (.func 35) [v3] h fun v4 h => K v4 h
theorem s37_ok (hc : Le call call') (hK : KLe K K') (H : Has ρ [(0, x0)]) (s : s37 call n x0 h K = true) : runC call' n A37.body ⟨ρ, h⟩ (finK A37.res K') = true :=
  c_seq (c_reg (q_heap H rfl s fun _ _ s H => q_mv H rfl fun H => r_nil (k_seq (c_seq (c_reg (q_pure H rfl s fun _ s H => q_pure H rfl s fun _ s H => q_call hc H rfl s fun _ _ s H => q_mv H rfl fun H => r_nil (k_seq (c_ret (fin_ret H rfl hK s)))))))))
def w37 : Sh := fun call n args h K => match args with
  | [x0] => s37 call n x0 h K
  | _ => false
theorem w37_ok {E : Env} (e : E.code 37 = some A37) : ShOK E 37 w37 := fun call call' n args h K K' hc hK s =>
  match args, s with
  | [x0], s => ⟨A37, e, rfl, s37_ok hc hK (Has.nil.set 0 x0) s⟩
  | [], s => nomatch s
  | _ :: _ :: _, s => nomatch s
def p38_23 (call : CallFn) (n : Nat) (x1 x2 x3 : AV) (h : AHeap) (K : Kont) : Bool :=
  optB (fadrA 0 x1) fun v17 => optB (loadA h false 1 v17) fun v18 => optB (b2sA h x3) fun v19 => optB (buildV [.str [], .str []] [(0, 1, v18), (1, 1, v19)]) fun v20 => optP (unit (storeA h 2 x2 v20)) fun _ h => optR (resV h [(x2, some (true, 2))]) h K
theorem p38_23_ok (hc : Le call call') (hK : KLe K K') (H : Has ρ [(1, x1), (2, x2), (3, x3)]) (s : p38_23 call n x1 x2 x3 h K = true) : runC call' n c38_23 ⟨ρ, h⟩ (finK A38.res K') = true :=
  c_seq (c_reg (q_pure H rfl s fun _ s H => q_pure H rfl s fun _ s H => q_mv H rfl fun H => q_pure H rfl s fun _ s H => q_pure H rfl s fun _ s H => q_heap0 H rfl s fun _ _ s H => r_nil (k_seq (c_ret (fin_ret H rfl hK s)))))
def b38_8 (call : CallFn) (n : Nat) (B8 : F6) (x1 x2 x3 x9 x10 x11 : AV) (h : AHeap) (K : Kont) : Bool :=
  optB (binA .lss x11 x10) fun v6 => condB v6 (optB (iadrA h 5 x9 x11) fun v7 => optB (loadA h true 5 v7) fun v8 => optP (allocV h [.int .i64 0, .bool false, .int .i64 0, .str [], .nilSlc]) fun v9 h => optP (unit (storeA h 5 v9 v8)) fun _ h => optB (loadA h true 5 v9) fun v11 => call (.func 59) [v11] h fun v12 h => optB (extA 0 v12) fun v13 => optB (extA 1 v12) fun v14 => optP (appbA h 5 x3 v13) fun v15 h => optB (binA .add x11 (.int .i64 1)) fun v16 => B8 x1 x2 v15 x9 x10 v16 h) (p38_23 call n x1 x2 x3 h K)
abbrev k38_0 (call' : CallFn) (n : Nat) (K' : Kont) := seqK call' n c38_23 (finK A38.res K')
abbrev k38_1 (call' : CallFn) (n : Nat) (K' : Kont) := blockK 0 (k38_0 call' n K')
abbrev H38_8 (call' : CallFn) (n : Nat) (K' : Kont) (m : Nat) (B : F6) : Prop := ∀ (x1 x2 x3 x9 x10 x11 : AV) (h : AHeap) (ρ : Regs), Has ρ [(1, x1), (2, x2), (3, x3), (9, x9), (10, x10), (11, x11)] → B x1 x2 x3 x9 x10 x11 h = true → iter (runC call' n c38_9) (k38_1 call' n K') m ⟨ρ, h⟩ = true
abbrev k38_2 (call' : CallFn) (n : Nat) (K' : Kont) (m8 : Nat) := loopK call' n c38_9 (k38_1 call' n K') m8
theorem b38_8_ok (hc : Le call call') (hK : KLe K K') {m8 : Nat} {B8 : F6} (hB8 : H38_8 call' n K' m8 B8) (H : Has ρ [(1, x1), (2, x2), (3, x3), (9, x9), (10, x10), (11, x11)]) (s : b38_8 call n B8 x1 x2 x3 x9 x10 x11 h K = true) : runC call' n c38_9 ⟨ρ, h⟩ (k38_2 call' n K' m8) = true :=
  c_seq (c_reg (q_pure H rfl s fun _ s H => r_nil (k_seq (c_seq (c_cond H rfl s (fun s => c_skip (k_seq (c_seq (c_block (c_seq (c_reg (q_pure H rfl s fun _ s H => q_pure H rfl s fun _ s H => q_heap H rfl s fun _ _ s H => q_heap0 H rfl s fun _ _ s H => r_nil (k_seq (c_seq (c_reg (q_pure H rfl s fun _ s H => q_call hc H rfl s fun _ _ s H => q_mv H rfl fun H => q_pure H rfl s fun _ s H => q_pure H rfl s fun _ s H => q_mv H rfl fun H => q_mv H rfl fun H => r_nil (k_seq (c_reg (q_mv H rfl fun H => q_mv H rfl fun H => q_heap H rfl s fun _ _ s H => q_mv H rfl fun H => r_nil (k_block (k_seq (c_reg (q_pure H rfl s fun _ s H => q_mv H rfl fun H => r_nil (k_loop (hB8 _ _ _ _ _ _ _ _ (H.keep [1, 2, 3, 9, 10, 11] rfl) s)))))))))))))))))))) (fun s => c_exit (k_seq_exit (k_loop_exit (k_block_eq (k_seq (p38_23_ok hc hK (H.keep [1, 2, 3] rfl) s)))))))))))
def l38_8 (call : CallFn) (n : Nat) : Nat → AV → AV → AV → AV → AV → AV → AHeap → Kont → Bool
  | 0 => fun _ _ _ _ _ _ _ _ => false
  | m + 1 => fun x1 x2 x3 x9 x10 x11 h K => b38_8 call n (fun x1 x2 x3 x9 x10 x11 h => l38_8 call n m x1 x2 x3 x9 x10 x11 h K) x1 x2 x3 x9 x10 x11 h K
theorem l38_8_ok (hc : Le call call') (hK : KLe K K') : ∀ (m : Nat) (x1 x2 x3 x9 x10 x11 : AV) (h : AHeap) (ρ : Regs), Has ρ [(1, x1), (2, x2), (3, x3), (9, x9), (10, x10), (11, x11)] → l38_8 call n m x1 x2 x3 x9 x10 x11 h K = true → iter (runC call' n c38_9) (k38_1 call' n K') m ⟨ρ, h⟩ = true
  | 0, _, _, _, _, _, _, _, _, _, s => nomatch s
  | m + 1, _, _, _, _, _, _, _, _, H, s => c_round (b38_8_ok hc hK (fun x1 x2 x3 x9 x10 x11 h ρ H s => l38_8_ok hc hK m x1 x2 x3 x9 x10 x11 h ρ H s) H s)
def s38 (call : CallFn) (n : Nat) (x0 : AV) (h : AHeap) (K : Kont) : Bool :=
  optP (boxA h 2 x0) fun v1 h => optP (allocV h [.str [], .str []]) fun v2 h => optB (fadrA 1 v1) fun v3 => optB (loadA h false 1 v3) fun v4 => optB (lenA h 1 v4) fun v5 => l38_8 call n n v1 v2 .nilSlc v4 v5 (.int .i64 0) h K
theorem s38_ok (hc : Le call call') (hK : KLe K K') (H : Has ρ [(0, x0)]) (s : s38 call n x0 h K = true) : runC call' n A38.body ⟨ρ, h⟩ (finK A38.res K') = true :=
  c_seq (c_reg (q_heap H rfl s fun _ _ s H => q_heap H rfl s fun _ _ s H => r_nil (k_seq (c_seq (c_reg (q_mv H rfl fun H => r_nil (k_seq (c_seq (c_seq (c_reg (q_pure H rfl s fun _ s H => q_pure H rfl s fun _ s H => q_pure H rfl s fun _ s H => q_mv H rfl fun H => r_nil (k_seq (c_block (c_loop (l38_8_ok hc hK n _ _ _ _ _ _ _ _ (H.keep [1, 2, 3, 9, 10, 11] rfl) s)))))))))))))))
def w38 : Sh := fun call n args h K => match args with
  | [x0] => s38 call n x0 h K
  | _ => false
theorem w38_ok {E : Env} (e : E.code 38 = some A38) : ShOK E 38 w38 := fun call call' n args h K K' hc hK s =>
  match args, s with
  | [x0], s => ⟨A38, e, rfl, s38_ok hc hK (Has.nil.set 0 x0) s⟩
  | [], s => nomatch s
  | _ :: _ :: _, s => nomatch s
def s39 (call : CallFn) (n : Nat) (x0 : AV) (h : AHeap) (K : Kont) : Bool :=
  optP (boxA h 3 x0) fun v1 h => optB (fadrA 1 v1) fun v2 => optB (loadA h false 1 v2) fun v3 => call (.func 60) [v3] h fun v4 h => K v4 h
theorem s39_ok (hc : Le call call') (hK : KLe K K') (H : Has ρ [(0, x0)]) (s : s39 call n x0 h K = true) : runC call' n A39.body ⟨ρ, h⟩ (finK A39.res K') = true :=
  c_seq (c_reg (q_heap H rfl s fun _ _ s H => q_mv H rfl fun H => r_nil (k_seq (c_seq (c_reg (q_pure H rfl s fun _ s H => q_pure H rfl s fun _ s H => q_call hc H rfl s fun _ _ s H => q_mv H rfl fun H => r_nil (k_seq (c_ret (fin_ret H rfl hK s)))))))))
def w39 : Sh := fun call n args h K => match args with
  | [x0] => s39 call n x0 h K
  | _ => false
theorem w39_ok {E : Env} (e : E.code 39 = some A39) : ShOK E 39 w39 := fun call call' n args h K K' hc hK s =>
  match args, s with
  | [x0], s => ⟨A39, e, rfl, s39_ok hc hK (Has.nil.set 0 x0) s⟩
  | [], s => nomatch s
  | _ :: _ :: _, s => nomatch s
def b40_8 (call : CallFn) (n : Nat) (B8 : F4) (x3 x6 x7 x8 : AV) (h : AHeap) (K : Kont) : Bool :=
  optB (binA .lss x8 x7) fun v2 => condB v2 (optB (iadrA h 5 x6 x8) fun v3 => optB (loadA h true 5 v3) fun v4 => optP (allocV h [.int .i64 0, .bool false, .int .i64 0, .str [], .nilSlc]) fun v5 h => optP (unit (storeA h 5 v5 v4)) fun _ h => optB (loadA h true 5 v5) fun v7 => call (.func 61) [v7] h fun v8 h => optP (bsliceV h 1 5 [.int .i64 0, .bool false, .int .i64 0, .str [], .nilSlc] [(0, v8)]) fun v9 h => optP (appendA h 5 64 x3 v9) fun v10 h => optB (binA .add x8 (.int .i64 1)) fun v11 => B8 v10 x6 x7 v11 h) (K x3 h)
abbrev k40_0 (call' : CallFn) (n : Nat) (K' : Kont) := seqK call' n c40_21 (finK A40.res K')
abbrev k40_1 (call' : CallFn) (n : Nat) (K' : Kont) := blockK 0 (k40_0 call' n K')
abbrev H40_8 (call' : CallFn) (n : Nat) (K' : Kont) (m : Nat) (B : F4) : Prop := ∀ (x3 x6 x7 x8 : AV) (h : AHeap) (ρ : Regs), Has ρ [(3, x3), (6, x6), (7, x7), (8, x8)] → B x3 x6 x7 x8 h = true → iter (runC call' n c40_9) (k40_1 call' n K') m ⟨ρ, h⟩ = true
abbrev k40_2 (call' : CallFn) (n : Nat) (K' : Kont) (m8 : Nat) := loopK call' n c40_9 (k40_1 call' n K') m8
theorem b40_8_ok (hc : Le call call') (hK : KLe K K') {m8 : Nat} {B8 : F4} (hB8 : H40_8 call' n K' m8 B8) (H : Has ρ [(3, x3), (6, x6), (7, x7), (8, x8)]) (s : b40_8 call n B8 x3 x6 x7 x8 h K = true) : runC call' n c40_9 ⟨ρ, h⟩ (k40_2 call' n K' m8) = true :=
  c_seq (c_reg (q_pure H rfl s fun _ s H => r_nil (k_seq (c_seq (c_cond H rfl s (fun s => c_skip (k_seq (c_seq (c_block (c_seq (c_reg (q_pure H rfl s fun _ s H => q_pure H rfl s fun _ s H => q_heap H rfl s fun _ _ s H => q_heap0 H rfl s fun _ _ s H => r_nil (k_seq (c_reg (q_mv H rfl fun H => q_pure H rfl s fun _ s H => q_call hc H rfl s fun _ _ s H => q_heap H rfl s fun _ _ s H => q_heap H rfl s fun _ _ s H => q_mv H rfl fun H => r_nil (k_block (k_seq (c_reg (q_pure H rfl s fun _ s H => q_mv H rfl fun H => r_nil (k_loop (hB8 _ _ _ _ _ _ (H.keep [3, 6, 7, 8] rfl) s)))))))))))))))) (fun s => c_exit (k_seq_exit (k_loop_exit (k_block_eq (k_seq (c_seq (c_reg (q_mv H rfl fun H => q_mv H rfl fun H => r_nil (k_seq (c_ret (fin_ret H rfl hK s))))))))))))))))
def l40_8 (call : CallFn) (n : Nat) : Nat → AV → AV → AV → AV → AHeap → Kont → Bool
  | 0 => fun _ _ _ _ _ _ => false
  | m + 1 => fun x3 x6 x7 x8 h K => b40_8 call n (fun x3 x6 x7 x8 h => l40_8 call n m x3 x6 x7 x8 h K) x3 x6 x7 x8 h K
theorem l40_8_ok (hc : Le call call') (hK : KLe K K') : ∀ (m : Nat) (x3 x6 x7 x8 : AV) (h : AHeap) (ρ : Regs), Has ρ [(3, x3), (6, x6), (7, x7), (8, x8)] → l40_8 call n m x3 x6 x7 x8 h K = true → iter (runC call' n c40_9) (k40_1 call' n K') m ⟨ρ, h⟩ = true
  | 0, _, _, _, _, _, _, _, s => nomatch s
  | m + 1, _, _, _, _, _, _, H, s => c_round (b40_8_ok hc hK (fun x3 x6 x7 x8 h ρ H s => l40_8_ok hc hK m x3 x6 x7 x8 h ρ H s) H s)
def s40 (call : CallFn) (n : Nat) (x0 : AV) (h : AHeap) (K : Kont) : Bool :=
  optB (lenA h 1 x0) fun v1 => l40_8 call n n .nilSlc x0 v1 (.int .i64 0) h K
theorem s40_ok (hc : Le call call') (hK : KLe K K') (H : Has ρ [(0, x0)]) (s : s40 call n x0 h K = true) : runC call' n A40.body ⟨ρ, h⟩ (finK A40.res K') = true :=
  c_seq (c_reg (q_mv H rfl fun H => r_nil (k_seq (c_seq (c_reg (q_mv H rfl fun H => r_nil (k_seq (c_seq (c_seq (c_reg (q_mv H rfl fun H => q_pure H rfl s fun _ s H => q_mv H rfl fun H => r_nil (k_seq (c_block (c_loop (l40_8_ok hc hK n _ _ _ _ _ _ (H.keep [3, 6, 7, 8] rfl) s)))))))))))))))
def w40 : Sh := fun call n args h K => match args with
  | [x0] => s40 call n x0 h K
  | _ => false
theorem w40_ok {E : Env} (e : E.code 40 = some A40) : ShOK E 40 w40 := fun call call' n args h K K' hc hK s =>
  match args, s with
  | [x0], s => ⟨A40, e, rfl, s40_ok hc hK (Has.nil.set 0 x0) s⟩
  | [], s => nomatch s
  | _ :: _ :: _, s => nomatch s
def p41_40 (call : CallFn) (n : Nat) (x2 x3 : AV) (h : AHeap) (K : Kont) : Bool :=
  optB (loadA h true 3 x3) fun v50 => optP (unit (storeA h 3 x2 v50)) fun _ h => optR (resV h [(x2, some (true, 3))]) h K
theorem p41_40_ok (hc : Le call call') (hK : KLe K K') (H : Has ρ [(2, x2), (3, x3)]) (s : p41_40 call n x2 x3 h K = true) : runC call' n c41_40 ⟨ρ, h⟩ (finK A41.res K') = true :=
  c_seq (c_reg (q_pure H rfl s fun _ s H => q_heap0 H rfl s fun _ _ s H => r_nil (k_seq (c_ret (fin_ret H rfl hK s)))))
def b41_27 (call : CallFn) (n : Nat) (B27 : F5) (x2 x3 x30 x31 x32 : AV) (h : AHeap) (K : Kont) : Bool :=
  optB (binA .lss x32 x31) fun v32 => condB v32 (optB (iadrA h 6 x30 x32) fun v33 => optB (loadA h true 6 v33) fun v34 => optP (allocV h [.str [], .int .i64 0, .bool false, .int .i64 0, .str [], .nilSlc]) fun v35 h => optP (unit (storeA h 6 v35 v34)) fun _ h => optB (fadrA 2 x3) fun v37 => optB (loadA h false 1 v37) fun v38 => optB (fadrA 0 v35) fun v39 => optB (loadA h false 1 v39) fun v40 => optB (fadrA 1 v35) fun v41 => optB (loadA h true 5 v41) fun v42 => call (.func 61) [v42] h fun v43 h => sameB (loadA h false 1 v37) v38 <| sameB (loadA h false 1 v39) v40 <| optB (buildV [.str [], .int .i64 0, .bool false, .int .i64 0, .str [], .nilSlc] [(0, 1, v40), (1, 5, v43)]) fun v44 => optP (bsliceV h 1 6 [.str [], .int .i64 0, .bool false, .int .i64 0, .str [], .nilSlc] [(0, v44)]) fun v45 h => sameB (loadA h false 1 v37) v38 <| optP (appendA h 6 80 v38 v45) fun v46 h => optB (fadrA 2 x3) fun v47 => optP (unit (storeA h 1 v47 v46)) fun _ h => optB (binA .add x32 (.int .i64 1)) fun v49 => B27 x2 x3 x30 x31 v49 h) (p41_40 call n x2 x3 h K)
abbrev k41_0 (call' : CallFn) (n : Nat) (K' : Kont) := seqK call' n c41_40 (finK A41.res K')
abbrev k41_1 (call' : CallFn) (n : Nat) (K' : Kont) := blockK 2 (k41_0 call' n K')
abbrev H41_27 (call' : CallFn) (n : Nat) (K' : Kont) (m : Nat) (B : F5) : Prop := ∀ (x2 x3 x30 x31 x32 : AV) (h : AHeap) (ρ : Regs), Has ρ [(2, x2), (3, x3), (30, x30), (31, x31), (32, x32)] → B x2 x3 x30 x31 x32 h = true → iter (runC call' n c41_28) (k41_1 call' n K') m ⟨ρ, h⟩ = true
abbrev k41_2 (call' : CallFn) (n : Nat) (K' : Kont) (m27 : Nat) := loopK call' n c41_28 (k41_1 call' n K') m27
theorem b41_27_ok (hc : Le call call') (hK : KLe K K') {m27 : Nat} {B27 : F5} (hB27 : H41_27 call' n K' m27 B27) (H : Has ρ [(2, x2), (3, x3), (30, x30), (31, x31), (32, x32)]) (s : b41_27 call n B27 x2 x3 x30 x31 x32 h K = true) : runC call' n c41_28 ⟨ρ, h⟩ (k41_2 call' n K' m27) = true :=
  c_seq (c_reg (q_pure H rfl s fun _ s H => r_nil (k_seq (c_seq (c_cond H rfl s (fun s => c_skip (k_seq (c_seq (c_block (c_seq (c_reg (q_pure H rfl s fun _ s H => q_pure H rfl s fun _ s H => q_heap H rfl s fun _ _ s H => q_heap0 H rfl s fun _ _ s H => r_nil (k_seq (c_dreg (c_p H rfl s fun _ s H => c_p H rfl s fun _ s H => c_p H rfl s fun _ s H => c_p H rfl s fun _ s H => c_p H rfl s fun _ s H => c_p H rfl s fun _ s H => calc_nil (d_cons (step_call hc H rfl s fun _ _ s H => dk (a_s H rfl rfl s fun s => a_s H rfl rfl s fun s => again_nil (c_p H rfl s fun _ s H => calc_nil (d_cons (step_heap H rfl s fun _ _ s H => dk (a_s H rfl rfl s fun s => again_nil (calc_nil (d_cons (step_heap H rfl s fun _ _ s H => dk (again_nil (c_p H rfl s fun _ s H => calc_nil (d_cons (step_heap0 H rfl s fun _ _ s H => dk (again_nil (calc_nil (d_nil (k_block (k_seq (c_reg (q_pure H rfl s fun _ s H => q_mv H rfl fun H => r_nil (k_loop (hB27 _ _ _ _ _ _ _ (H.keep [2, 3, 30, 31, 32] rfl) s))))))))))))))))))))))))))))))))) (fun s => c_exit (k_seq_exit (k_loop_exit (k_block_eq (k_seq (p41_40_ok hc hK (H.keep [2, 3] rfl) s)))))))))))
def l41_27 (call : CallFn) (n : Nat) : Nat → AV → AV → AV → AV → AV → AHeap → Kont → Bool
  | 0 => fun _ _ _ _ _ _ _ => false
  | m + 1 => fun x2 x3 x30 x31 x32 h K => b41_27 call n (fun x2 x3 x30 x31 x32 h => l41_27 call n m x2 x3 x30 x31 x32 h K) x2 x3 x30 x31 x32 h K
theorem l41_27_ok (hc : Le call call') (hK : KLe K K') : ∀ (m : Nat) (x2 x3 x30 x31 x32 : AV) (h : AHeap) (ρ : Regs), Has ρ [(2, x2), (3, x3), (30, x30), (31, x31), (32, x32)] → l41_27 call n m x2 x3 x30 x31 x32 h K = true → iter (runC call' n c41_28) (k41_1 call' n K') m ⟨ρ, h⟩ = true
  | 0, _, _, _, _, _, _, _, _, s => nomatch s
  | m + 1, _, _, _, _, _, _, _, H, s => c_round (b41_27_ok hc hK (fun x2 x3 x30 x31 x32 h ρ H s => l41_27_ok hc hK m x2 x3 x30 x31 x32 h ρ H s) H s)
def p41_23 (call : CallFn) (n : Nat) (x1 x2 x3 : AV) (h : AHeap) (K : Kont) : Bool :=
  optB (fadrA 2 x1) fun v29 => optB (loadA h false 1 v29) fun v30 => optB (lenA h 1 v30) fun v31 => l41_27 call n n x2 x3 v30 v31 (.int .i64 0) h K
theorem p41_23_ok (hc : Le call call') (hK : KLe K K') (H : Has ρ [(1, x1), (2, x2), (3, x3)]) (s : p41_23 call n x1 x2 x3 h K = true) : runC call' n c41_23 ⟨ρ, h⟩ (finK A41.res K') = true :=
  c_seq (c_seq (c_reg (q_pure H rfl s fun _ s H => q_pure H rfl s fun _ s H => q_pure H rfl s fun _ s H => q_mv H rfl fun H => r_nil (k_seq (c_block (c_loop (l41_27_ok hc hK n _ _ _ _ _ _ _ (H.keep [2, 3, 30, 31, 32] rfl) s)))))))
def b41_8 (call : CallFn) (n : Nat) (B8 : F6) (x1 x2 x3 x12 x13 x14 : AV) (h : AHeap) (K : Kont) : Bool :=
  optB (binA .lss x14 x13) fun v11 => condB v11 (optB (iadrA h 3 x12 x14) fun v12 => optB (loadA h true 3 v12) fun v13 => optP (allocV h [.int .i64 0, .int .i64 0, .nilSlc]) fun v14 h => optP (unit (storeA h 3 v14 v13)) fun _ h => optB (fadrA 2 v14) fun v16 => optB (loadA h false 1 v16) fun v17 => call (.func 40) [v17] h fun v18 h => optB (fadrA 2 v14) fun v19 => optP (unit (storeA h 1 v19 v18)) fun _ h => optB (fadrA 1 x3) fun v21 => optB (loadA h false 1 v21) fun v22 => optB (loadA h true 3 v14) fun v23 => optP (bsliceV h 1 3 [.int .i64 0, .int .i64 0, .nilSlc] [(0, v23)]) fun v24 h => optP (appendA h 3 40 v22 v24) fun v25 h => optB (fadrA 1 x3) fun v26 => optP (unit (storeA h 1 v26 v25)) fun _ h => optB (binA .add x14 (.int .i64 1)) fun v28 => B8 x1 x2 x3 x12 x13 v28 h) (p41_23 call n x1 x2 x3 h K)
abbrev k41_3 (call' : CallFn) (n : Nat) (K' : Kont) := seqK call' n c41_23 (finK A41.res K')
abbrev k41_4 (call' : CallFn) (n : Nat) (K' : Kont) := blockK 0 (k41_3 call' n K')
abbrev H41_8 (call' : CallFn) (n : Nat) (K' : Kont) (m : Nat) (B : F6) : Prop := ∀ (x1 x2 x3 x12 x13 x14 : AV) (h : AHeap) (ρ : Regs), Has ρ [(1, x1), (2, x2), (3, x3), (12, x12), (13, x13), (14, x14)] → B x1 x2 x3 x12 x13 x14 h = true → iter (runC call' n c41_9) (k41_4 call' n K') m ⟨ρ, h⟩ = true
abbrev k41_5 (call' : CallFn) (n : Nat) (K' : Kont) (m8 : Nat) := loopK call' n c41_9 (k41_4 call' n K') m8
theorem b41_8_ok (hc : Le call call') (hK : KLe K K') {m8 : Nat} {B8 : F6} (hB8 : H41_8 call' n K' m8 B8) (H : Has ρ [(1, x1), (2, x2), (3, x3), (12, x12), (13, x13), (14, x14)]) (s : b41_8 call n B8 x1 x2 x3 x12 x13 x14 h K = true) : runC call' n c41_9 ⟨ρ, h⟩ (k41_5 call' n K' m8) = true :=
  c_seq (c_reg (q_pure H rfl s fun _ s H => r_nil (k_seq (c_seq (c_cond H rfl s (fun s => c_skip (k_seq (c_seq (c_block (c_seq (c_reg (q_pure H rfl s fun _ s H => q_pure H rfl s fun _ s H => q_heap H rfl s fun _ _ s H => q_heap0 H rfl s fun _ _ s H => r_nil (k_seq (c_seq (c_reg (q_pure H rfl s fun _ s H => q_pure H rfl s fun _ s H => q_call hc H rfl s fun _ _ s H => q_pure H rfl s fun _ s H => q_heap0 H rfl s fun _ _ s H => r_nil (k_seq (c_reg (q_pure H rfl s fun _ s H => q_pure H rfl s fun _ s H => q_pure H rfl s fun _ s H => q_heap H rfl s fun _ _ s H => q_heap H rfl s fun _ _ s H => q_pure H rfl s fun _ s H => q_heap0 H rfl s fun _ _ s H => r_nil (k_block (k_seq (c_reg (q_pure H rfl s fun _ s H => q_mv H rfl fun H => r_nil (k_loop (hB8 _ _ _ _ _ _ _ _ (H.keep [1, 2, 3, 12, 13, 14] rfl) s)))))))))))))))))))) (fun s => c_exit (k_seq_exit (k_loop_exit (k_block_eq (k_seq (p41_23_ok hc hK (H.keep [1, 2, 3] rfl) s)))))))))))
def l41_8 (call : CallFn) (n : Nat) : Nat → AV → AV → AV → AV → AV → AV → AHeap → Kont → Bool
  | 0 => fun _ _ _ _ _ _ _ _ => false
  | m + 1 => fun x1 x2 x3 x12 x13 x14 h K => b41_8 call n (fun x1 x2 x3 x12 x13 x14 h => l41_8 call n m x1 x2 x3 x12 x13 x14 h K) x1 x2 x3 x12 x13 x14 h K
theorem l41_8_ok (hc : Le call call') (hK : KLe K K') : ∀ (m : Nat) (x1 x2 x3 x12 x13 x14 : AV) (h : AHeap) (ρ : Regs), Has ρ [(1, x1), (2, x2), (3, x3), (12, x12), (13, x13), (14, x14)] → l41_8 call n m x1 x2 x3 x12 x13 x14 h K = true → iter (runC call' n c41_9) (k41_4 call' n K') m ⟨ρ, h⟩ = true
  | 0, _, _, _, _, _, _, _, _, _, s => nomatch s
  | m + 1, _, _, _, _, _, _, _, _, H, s => c_round (b41_8_ok hc hK (fun x1 x2 x3 x12 x13 x14 h ρ H s => l41_8_ok hc hK m x1 x2 x3 x12 x13 x14 h ρ H s) H s)
def s41 (call : CallFn) (n : Nat) (x0 : AV) (h : AHeap) (K : Kont) : Bool :=
  optP (boxA h 3 x0) fun v1 h => optP (allocV h [.int .i64 0, .nilSlc, .nilSlc]) fun v2 h => optB (fadrA 0 v1) fun v3 => optB (loadA h false 1 v3) fun v4 => optB (buildV [.int .i64 0, .nilSlc, .nilSlc] [(0, 1, v4)]) fun v5 => optP (allocV h [.int .i64 0, .nilSlc, .nilSlc]) fun v6 h => optP (unit (storeA h 3 v6 v5)) fun _ h => optB (fadrA 1 v1) fun v8 => optB (loadA h false 1 v8) fun v9 => optB (lenA h 1 v9) fun v10 => l41_8 call n n v1 v2 v6 v9 v10 (.int .i64 0) h K
theorem s41_ok (hc : Le call call') (hK : KLe K K') (H : Has ρ [(0, x0)]) (s : s41 call n x0 h K = true) : runC call' n A41.body ⟨ρ, h⟩ (finK A41.res K') = true :=
  c_seq (c_reg (q_heap H rfl s fun _ _ s H => q_heap H rfl s fun _ _ s H => r_nil (k_seq (c_seq (c_reg (q_pure H rfl s fun _ s H => q_pure H rfl s fun _ s H => q_pure H rfl s fun _ s H => q_heap H rfl s fun _ _ s H => q_heap0 H rfl s fun _ _ s H => r_nil (k_seq (c_seq (c_seq (c_reg (q_pure H rfl s fun _ s H => q_pure H rfl s fun _ s H => q_pure H rfl s fun _ s H => q_mv H rfl fun H => r_nil (k_seq (c_block (c_loop (l41_8_ok hc hK n _ _ _ _ _ _ _ _ (H.keep [1, 2, 3, 12, 13, 14] rfl) s)))))))))))))))
def w41 : Sh := fun call n args h K => match args with
  | [x0] => s41 call n x0 h K
  | _ => false
theorem w41_ok {E : Env} (e : E.code 41 = some A41) : ShOK E 41 w41 := fun call call' n args h K K' hc hK s =>
  match args, s with
  | [x0], s => ⟨A41, e, rfl, s41_ok hc hK (Has.nil.set 0 x0) s⟩
  | [], s => nomatch s
  | _ :: _ :: _, s => nomatch s
def s47 (call : CallFn) (n : Nat) (x0 x1 x2 : AV) (h : AHeap) (K : Kont) : Bool :=
  optP (boxA h 2 x0) fun v1 h => optP (boxA h 2 x1) fun v2 h => optB (loadA h false 1 x2) fun v3 => optB (nilckA v3) fun v4 => optB (fadrA 1 v4) fun v5 => optB (loadA h false 1 v5) fun v6 => optB (loadA h true 2 v1) fun v7 => optB (lookA h (.st [.int, .str]) false .nilPtr v6 v7) fun v8 => optB (nilckA v8) fun v9 => optB (fadrA 3 v9) fun v10 => optB (loadA h false 1 v10) fun v11 => optB (loadA h false 1 x2) fun v12 => optB (nilckA v12) fun v13 => optB (fadrA 1 v13) fun v14 => optB (loadA h false 1 v14) fun v15 => optB (loadA h true 2 v2) fun v16 => optB (lookA h (.st [.int, .str]) false .nilPtr v15 v16) fun v17 => optB (nilckA v17) fun v18 => optB (fadrA 3 v18) fun v19 => optB (loadA h false 1 v19) fun v20 => optB (binA .sub v11 v20) fun v21 => K v21 h
theorem s47_ok (hc : Le call call') (hK : KLe K K') (H : Has ρ [(2, x2), (1, x1), (0, x0)]) (s : s47 call n x0 x1 x2 h K = true) : runC call' n A47.body ⟨ρ, h⟩ (finK A47.res K') = true :=
  c_seq (c_reg (q_heap H rfl s fun _ _ s H => q_heap H rfl s fun _ _ s H => q_mv H rfl fun H => r_nil (k_seq (c_seq (c_dreg (c_p H rfl s fun _ s H => c_p H rfl s fun _ s H => c_p H rfl s fun _ s H => c_p H rfl s fun _ s H => c_p H rfl s fun _ s H => c_p H rfl s fun _ s H => c_p H rfl s fun _ s H => c_p H rfl s fun _ s H => c_p H rfl s fun _ s H => c_p H rfl s fun _ s H => c_p H rfl s fun _ s H => c_p H rfl s fun _ s H => c_p H rfl s fun _ s H => c_p H rfl s fun _ s H => c_p H rfl s fun _ s H => c_p H rfl s fun _ s H => c_p H rfl s fun _ s H => c_p H rfl s fun _ s H => c_p H rfl s fun _ s H => c_m H rfl fun H => calc_nil (d_nil (k_seq (c_ret (fin_ret H rfl hK s))))))))))
def w47 : Sh := fun call n args h K => match args with
  | [x0, x1, x2] => s47 call n x0 x1 x2 h K
  | _ => false
theorem w47_ok {E : Env} (e : E.code 47 = some A47) : ShOK E 47 w47 := fun call call' n args h K K' hc hK s =>
  match args, s with
  | [x0, x1, x2], s => ⟨A47, e, rfl, s47_ok hc hK (((Has.nil.set 0 x0).set 1 x1).set 2 x2) s⟩
  | [], s => nomatch s
  | [_], s => nomatch s
  | [_, _], s => nomatch s
  | _ :: _ :: _ :: _ :: _, s => nomatch s
def p48_16 (call : CallFn) (n : Nat) (x0 x5 x7 : AV) (h : AHeap) (K : Kont) : Bool :=
  optB (nilckA x7) fun v40 => optB (fadrA 4 v40) fun v41 => optB (loadA h false 1 v41) fun v42 => optB (lenA h 2 v42) fun v43 => optB (binA .eql v43 (.int .i64 0)) fun v44 => condB v44 (optB (nilckA x0) fun v45 => optB (fadrA 1 v45) fun v46 => optB (loadA h false 1 v46) fun v47 => optB (loadA h true 2 x5) fun v48 => optP (unit (delA h (.st [.int, .str]) v47 v48)) fun _ h => K (.tup []) h) (K (.tup []) h)
theorem p48_16_ok (hc : Le call call') (hK : KLe K K') (H : Has ρ [(0, x0), (5, x5), (7, x7)]) (s : p48_16 call n x0 x5 x7 h K = true) : runC call' n c48_16 ⟨ρ, h⟩ (finK A48.res K') = true :=
  c_seq (c_reg (q_mv H rfl fun H => q_pure H rfl s fun _ s H => q_pure H rfl s fun _ s H => q_pure H rfl s fun _ s H => q_pure H rfl s fun _ s H => q_pure H rfl s fun _ s H => r_nil (k_seq (c_cond H rfl s (fun s => c_dreg (c_m H rfl fun H => c_p H rfl s fun _ s H => c_p H rfl s fun _ s H => c_p H rfl s fun _ s H => c_p H rfl s fun _ s H => calc_nil (d_cons (step_heap0 H rfl s fun _ _ s H => dk (again_nil (calc_nil (d_nil (fin_normal H rfl hK s)))))))) (fun s => c_skip (fin_normal H rfl hK s))))))
set_option maxRecDepth 100000 in
def s48 (call : CallFn) (n : Nat) (x0 x1 x2 : AV) (h : AHeap) (K : Kont) : Bool :=
  optP (boxA h 2 x1) fun v1 h => optP (boxA h 2 x2) fun v2 h => optB (nilckA x0) fun v3 => optB (fadrA 0 v3) fun v4 => optB (loadA h false 1 v4) fun v5 => optB (loadA h true 2 v1) fun v6 => optB (lookA h (.st [.str, .str]) false .nilPtr v5 v6) fun v7 => optB (nilckA x0) fun v8 => optB (fadrA 1 v8) fun v9 => optB (loadA h false 1 v9) fun v10 => optB (loadA h true 2 v2) fun v11 => optB (lookA h (.st [.int, .str]) false .nilPtr v10 v11) fun v12 => optB (nilckA v7) fun v13 => optB (fadrA 3 v13) fun v14 => optB (loadA h false 1 v14) fun v15 => optB (loadA h true 2 v2) fun v16 => optP (unit (delA h (.st [.int, .str]) v15 v16)) fun _ h => optB (nilckA v12) fun v18 => optB (fadrA 4 v18) fun v19 => optB (loadA h false 1 v19) fun v20 => optB (loadA h true 2 v1) fun v21 => optP (unit (delA h (.st [.str, .str]) v20 v21)) fun _ h => optB (nilckA x0) fun v23 => optB (fadrA 3 v23) fun v24 => optB (loadA h false 1 v24) fun v25 => optB (binA .sub v25 (.int .i64 1)) fun v26 => optB (nilckA x0) fun v27 => optB (fadrA 3 v27) fun v28 => optP (unit (storeA h 1 v28 v26)) fun _ h => optB (nilckA v7) fun v30 => optB (fadrA 3 v30) fun v31 => optB (loadA h false 1 v31) fun v32 => optB (lenA h 2 v32) fun v33 => optB (binA .eql v33 (.int .i64 0)) fun v34 => condB v34 (optB (nilckA x0) fun v35 => optB (fadrA 0 v35) fun v36 => optB (loadA h false 1 v36) fun v37 => optB (loadA h true 2 v1) fun v38 => optP (unit (delA h (.st [.str, .str]) v37 v38)) fun _ h => p48_16 call n x0 v2 v12 h K) (p48_16 call n x0 v2 v12 h K)
set_option maxRecDepth 100000 in
theorem s48_ok (hc : Le call call') (hK : KLe K K') (H : Has ρ [(2, x2), (1, x1), (0, x0)]) (s : s48 call n x0 x1 x2 h K = true) : runC call' n A48.body ⟨ρ, h⟩ (finK A48.res K') = true :=
  c_seq (c_reg (q_heap H rfl s fun _ _ s H => q_heap H rfl s fun _ _ s H => r_nil (k_seq (c_seq (c_dreg (c_m H rfl fun H => c_p H rfl s fun _ s H => c_p H rfl s fun _ s H => c_p H rfl s fun _ s H => c_p H rfl s fun _ s H => c_p H rfl s fun _ s H => c_m H rfl fun H => c_p H rfl s fun _ s H => c_p H rfl s fun _ s H => c_p H rfl s fun _ s H => c_p H rfl s fun _ s H => c_p H rfl s fun _ s H => c_m H rfl fun H => c_m H rfl fun H => calc_nil (d_nil (k_seq (c_seq (c_dreg (c_m H rfl fun H => c_p H rfl s fun _ s H => c_p H rfl s fun _ s H => c_p H rfl s fun _ s H => c_p H rfl s fun _ s H => calc_nil (d_cons (step_heap0 H rfl s fun _ _ s H => dk (again_nil (calc_nil (d_nil (k_seq (c_seq (c_dreg (c_m H rfl fun H => c_p H rfl s fun _ s H => c_p H rfl s fun _ s H => c_p H rfl s fun _ s H => c_p H rfl s fun _ s H => calc_nil (d_cons (step_heap0 H rfl s fun _ _ s H => dk (again_nil (calc_nil (d_nil (k_seq (c_seq (c_reg (q_mv H rfl fun H => q_pure H rfl s fun _ s H => q_pure H rfl s fun _ s H => q_pure H rfl s fun _ s H => q_pure H rfl s fun _ s H => q_pure H rfl s fun _ s H => q_pure H rfl s fun _ s H => q_heap0 H rfl s fun _ _ s H => r_nil (k_seq (c_seq (c_seq (c_reg (q_mv H rfl fun H => q_pure H rfl s fun _ s H => q_pure H rfl s fun _ s H => q_pure H rfl s fun _ s H => q_pure H rfl s fun _ s H => q_pure H rfl s fun _ s H => r_nil (k_seq (c_cond H rfl s (fun s => c_dreg (c_m H rfl fun H => c_p H rfl s fun _ s H => c_p H rfl s fun _ s H => c_p H rfl s fun _ s H => c_p H rfl s fun _ s H => calc_nil (d_cons (step_heap0 H rfl s fun _ _ s H => dk (again_nil (calc_nil (d_nil (k_seq (p48_16_ok hc hK (H.keep [0, 5, 7] rfl) s))))))))) (fun s => c_skip (k_seq (p48_16_ok hc hK (H.keep [0, 5, 7] rfl) s)))))))))))))))))))))))))))))))))))))))
def w48 : Sh := fun call n args h K => match args with
  | [x0, x1, x2] => s48 call n x0 x1 x2 h K
  | _ => false
theorem w48_ok {E : Env} (e : E.code 48 = some A48) : ShOK E 48 w48 := fun call call' n args h K K' hc hK s =>
  match args, s with
  | [x0, x1, x2], s => ⟨A48, e, rfl, s48_ok hc hK (((Has.nil.set 0 x0).set 1 x1).set 2 x2) s⟩
  | [], s => nomatch s
  | [_], s => nomatch s
  | [_, _], s => nomatch s
  | _ :: _ :: _ :: _ :: _, s => nomatch s
def s52 (call : CallFn) (n : Nat) (x0 x1 : AV) (h : AHeap) (K : Kont) : Bool :=
  optB (nilckA x0) fun v1 => optB (fadrA 2 v1) fun v2 => optB (loadA h false 1 v2) fun v3 => optB (nilckA x1) fun v4 => optB (fadrA 2 v4) fun v5 => optB (loadA h false 1 v5) fun v6 => optB (binA .sub v3 v6) fun v7 => K v7 h
theorem s52_ok (hc : Le call call') (hK : KLe K K') (H : Has ρ [(1, x1), (0, x0)]) (s : s52 call n x0 x1 h K = true) : runC call' n A52.body ⟨ρ, h⟩ (finK A52.res K') = true :=
  c_seq (c_reg (q_mv H rfl fun H => r_nil (k_seq (c_seq (c_dreg (c_m H rfl fun H => c_p H rfl s fun _ s H => c_p H rfl s fun _ s H => c_p H rfl s fun _ s H => c_m H rfl fun H => c_p H rfl s fun _ s H => c_p H rfl s fun _ s H => c_p H rfl s fun _ s H => c_p H rfl s fun _ s H => c_m H rfl fun H => calc_nil (d_nil (k_seq (c_ret (fin_ret H rfl hK s))))))))))
def w52 : Sh := fun call n args h K => match args with
  | [x0, x1] => s52 call n x0 x1 h K
  | _ => false
theorem w52_ok {E : Env} (e : E.code 52 = some A52) : ShOK E 52 w52 := fun call call' n args h K K' hc hK s =>
  match args, s with
  | [x0, x1], s => ⟨A52, e, rfl, s52_ok hc hK ((Has.nil.set 0 x0).set 1 x1) s⟩
  | [], s => nomatch s
  | [_], s => nomatch s
  | _ :: _ :: _ :: _, s => nomatch s
def b54_16 (call : CallFn) (n : Nat) (B16 : F4) (x0 x1 x5 x6 : AV) (h : AHeap) (K : Kont) : Bool :=
  optB (lenA h 1 x0) fun v2 => optB (binA .lss x6 v2) fun v3 => condB v3 (optB (binA .add x5 (.int .i64 1)) fun v4 => optB (iadrA h 5 x0 x6) fun v5 => optB (fadrA 3 v5) fun v6 => optB (loadA h false 1 v6) fun v7 => optB (lenA h 0 v7) fun v8 => optB (binA .quo v8 (.int .i64 64)) fun v9 => optB (binA .add v4 v9) fun v10 => optB (iadrA h 5 x0 x6) fun v11 => optB (fadrA 4 v11) fun v12 => optB (loadA h false 1 v12) fun v13 => optB (binA .add x1 (.int .i64 1)) fun v14 => call (.func 54) [v13, v14] h fun v15 h => sameB (iadrA h 5 x0 x6) v5 <| sameB (loadA h false 1 v6) v7 <| sameB (lenA h 0 v7) v8 <| optB (binA .add v10 v15) fun v16 => optB (binA .add x6 (.int .i64 1)) fun v17 => B16 x0 x1 v16 v17 h) (K x5 h)
abbrev k54_0 (call' : CallFn) (n : Nat) (K' : Kont) := seqK call' n c54_27 (finK A54.res K')
abbrev k54_1 (call' : CallFn) (n : Nat) (K' : Kont) := blockK 0 (k54_0 call' n K')
abbrev H54_16 (call' : CallFn) (n : Nat) (K' : Kont) (m : Nat) (B : F4) : Prop := ∀ (x0 x1 x5 x6 : AV) (h : AHeap) (ρ : Regs), Has ρ [(0, x0), (1, x1), (5, x5), (6, x6)] → B x0 x1 x5 x6 h = true → iter (runC call' n c54_17) (k54_1 call' n K') m ⟨ρ, h⟩ = true
abbrev k54_2 (call' : CallFn) (n : Nat) (K' : Kont) (m16 : Nat) := loopK call' n c54_17 (k54_1 call' n K') m16
theorem b54_16_ok (hc : Le call call') (hK : KLe K K') {m16 : Nat} {B16 : F4} (hB16 : H54_16 call' n K' m16 B16) (H : Has ρ [(0, x0), (1, x1), (5, x5), (6, x6)]) (s : b54_16 call n B16 x0 x1 x5 x6 h K = true) : runC call' n c54_17 ⟨ρ, h⟩ (k54_2 call' n K' m16) = true :=
  c_seq (c_seq (c_reg (q_mv H rfl fun H => q_mv H rfl fun H => q_pure H rfl s fun _ s H => q_pure H rfl s fun _ s H => r_nil (k_seq (c_cond H rfl s (fun s => c_skip (k_seq (c_seq (c_block (c_dreg (c_m H rfl fun H => c_p H rfl s fun _ s H => c_m H rfl fun H => c_m H rfl fun H => c_p H rfl s fun _ s H => c_p H rfl s fun _ s H => c_p H rfl s fun _ s H => c_p H rfl s fun _ s H => c_p H rfl s fun _ s H => c_p H rfl s fun _ s H => c_m H rfl fun H => c_m H rfl fun H => c_p H rfl s fun _ s H => c_p H rfl s fun _ s H => c_p H rfl s fun _ s H => c_m H rfl fun H => c_p H rfl s fun _ s H => calc_nil (d_cons (step_call hc H rfl s fun _ _ s H => dk (a_s H rfl rfl s fun s => a_s H rfl rfl s fun s => a_s H rfl rfl s fun s => again_nil (c_p H rfl s fun _ s H => calc_nil (d_cons (step_mv H rfl fun H => dk (again_nil (calc_nil (d_nil (k_block (k_seq (c_reg (q_mv H rfl fun H => q_pure H rfl s fun _ s H => q_mv H rfl fun H => r_nil (k_loop (hB16 _ _ _ _ _ _ (H.keep [0, 1, 5, 6] rfl) s))))))))))))))))))))) (fun s => c_exit (k_seq_exit (k_loop_exit (k_block_eq (k_seq (c_seq (c_reg (q_mv H rfl fun H => q_mv H rfl fun H => r_nil (k_seq (c_ret (fin_ret H rfl hK s))))))))))))))))
def l54_16 (call : CallFn) (n : Nat) : Nat → AV → AV → AV → AV → AHeap → Kont → Bool
  | 0 => fun _ _ _ _ _ _ => false
  | m + 1 => fun x0 x1 x5 x6 h K => b54_16 call n (fun x0 x1 x5 x6 h => l54_16 call n m x0 x1 x5 x6 h K) x0 x1 x5 x6 h K
theorem l54_16_ok (hc : Le call call') (hK : KLe K K') : ∀ (m : Nat) (x0 x1 x5 x6 : AV) (h : AHeap) (ρ : Regs), Has ρ [(0, x0), (1, x1), (5, x5), (6, x6)] → l54_16 call n m x0 x1 x5 x6 h K = true → iter (runC call' n c54_17) (k54_1 call' n K') m ⟨ρ, h⟩ = true
  | 0, _, _, _, _, _, _, _, s => nomatch s
  | m + 1, _, _, _, _, _, _, H, s => c_round (b54_16_ok hc hK (fun x0 x1 x5 x6 h ρ H s => l54_16_ok hc hK m x0 x1 x5 x6 h ρ H s) H s)
def p54_10 (call : CallFn) (n : Nat) (x0 x1 : AV) (h : AHeap) (K : Kont) : Bool :=
  l54_16 call n n x0 x1 (.int .i64 0) (.int .i64 0) h K
theorem p54_10_ok (hc : Le call call') (hK : KLe K K') (H : Has ρ [(0, x0), (1, x1)]) (s : p54_10 call n x0 x1 h K = true) : runC call' n c54_10 ⟨ρ, h⟩ (finK A54.res K') = true :=
  c_seq (c_reg (q_mv H rfl fun H => r_nil (k_seq (c_seq (c_seq (c_reg (q_mv H rfl fun H => r_nil (k_seq (c_block (c_loop (l54_16_ok hc hK n _ _ _ _ _ _ (H.keep [0, 1, 5, 6] rfl) s)))))))))))
def s54 (call : CallFn) (n : Nat) (x0 x1 : AV) (h : AHeap) (K : Kont) : Bool :=
  optB (binA .gtr x1 (.int .i64 100)) fun v1 => condB v1 (K (.int .i64 1048576) h) (p54_10 call n x0 x1 h K)
theorem s54_ok (hc : Le call call') (hK : KLe K K') (H : Has ρ [(1, x1), (0, x0)]) (s : s54 call n x0 x1 h K = true) : runC call' n A54.body ⟨ρ, h⟩ (finK A54.res K') = true :=
  c_seq (c_reg (q_mv H rfl fun H => r_nil (k_seq (c_seq (c_seq (c_reg (q_mv H rfl fun H => q_pure H rfl s fun _ s H => r_nil (k_seq (c_cond H rfl s (fun s => c_seq (c_reg (q_mv H rfl fun H => r_nil (k_seq (c_ret (k_seq_ret (fin_ret H rfl hK s))))))) (fun s => c_skip (k_seq (p54_10_ok hc hK (H.keep [0, 1] rfl) s))))))))))))
def w54 : Sh := fun call n args h K => match args with
  | [x0, x1] => s54 call n x0 x1 h K
  | _ => false
theorem w54_ok {E : Env} (e : E.code 54 = some A54) : ShOK E 54 w54 := fun call call' n args h K K' hc hK s =>
  match args, s with
  | [x0, x1], s => ⟨A54, e, rfl, s54_ok hc hK ((Has.nil.set 0 x0).set 1 x1) s⟩
  | [], s => nomatch s
  | [_], s => nomatch s
  | _ :: _ :: _ :: _, s => nomatch s
def s55 (call : CallFn) (n : Nat) (x0 x1 : AV) (h : AHeap) (K : Kont) : Bool :=
  call (.func 66) [x0, x1] h fun v1 h => optB (binA .geq v1 (.int .i64 0)) fun v2 => K v2 h
theorem s55_ok (hc : Le call call') (hK : KLe K K') (H : Has ρ [(1, x1), (0, x0)]) (s : s55 call n x0 x1 h K = true) : runC call' n A55.body ⟨ρ, h⟩ (finK A55.res K') = true :=
  c_seq (c_reg (q_mv H rfl fun H => r_nil (k_seq (c_seq (c_reg (q_mv H rfl fun H => q_mv H rfl fun H => q_call hc H rfl s fun _ _ s H => q_pure H rfl s fun _ s H => q_mv H rfl fun H => r_nil (k_seq (c_ret (fin_ret H rfl hK s)))))))))
def w55 : Sh := fun call n args h K => match args with
  | [x0, x1] => s55 call n x0 x1 h K
  | _ => false
theorem w55_ok {E : Env} (e : E.code 55 = some A55) : ShOK E 55 w55 := fun call call' n args h K K' hc hK s =>
  match args, s with
  | [x0, x1], s => ⟨A55, e, rfl, s55_ok hc hK ((Has.nil.set 0 x0).set 1 x1) s⟩
  | [], s => nomatch s
  | [_], s => nomatch s
  | _ :: _ :: _ :: _, s => nomatch s
def s56 (call : CallFn) (n : Nat) (x0 : AV) (h : AHeap) (K : Kont) : Bool :=
  optP (boxA h 5 x0) fun v1 h => optB (loadA h true 5 v1) fun v2 => call (.func 57) [v2] h fun v3 h => optB (notA v3) fun v4 => K v4 h
theorem s56_ok (hc : Le call call') (hK : KLe K K') (H : Has ρ [(0, x0)]) (s : s56 call n x0 h K = true) : runC call' n A56.body ⟨ρ, h⟩ (finK A56.res K') = true :=
  c_seq (c_reg (q_heap H rfl s fun _ _ s H => q_mv H rfl fun H => r_nil (k_seq (c_seq (c_reg (q_pure H rfl s fun _ s H => q_call hc H rfl s fun _ _ s H => q_pure H rfl s fun _ s H => q_mv H rfl fun H => r_nil (k_seq (c_ret (fin_ret H rfl hK s)))))))))
def w56 : Sh := fun call n args h K => match args with
  | [x0] => s56 call n x0 h K
  | _ => false
theorem w56_ok {E : Env} (e : E.code 56 = some A56) : ShOK E 56 w56 := fun call call' n args h K K' hc hK s =>
  match args, s with
  | [x0], s => ⟨A56, e, rfl, s56_ok hc hK (Has.nil.set 0 x0) s⟩
  | [], s => nomatch s
  | _ :: _ :: _, s => nomatch s
def s57 (call : CallFn) (n : Nat) (x0 : AV) (h : AHeap) (K : Kont) : Bool :=
  optP (boxA h 5 x0) fun v1 h => optB (loadA h true 5 v1) fun v2 => call (.func 67) [v2, (.int .i64 0)] h fun v3 h => K v3 h
theorem s57_ok (hc : Le call call') (hK : KLe K K') (H : Has ρ [(0, x0)]) (s : s57 call n x0 h K = true) : runC call' n A57.body ⟨ρ, h⟩ (finK A57.res K') = true :=
  c_seq (c_reg (q_heap H rfl s fun _ _ s H => q_mv H rfl fun H => r_nil (k_seq (c_seq (c_reg (q_pure H rfl s fun _ s H => q_call hc H rfl s fun _ _ s H => q_mv H rfl fun H => r_nil (k_seq (c_ret (fin_ret H rfl hK s)))))))))
def w57 : Sh := fun call n args h K => match args with
  | [x0] => s57 call n x0 h K
  | _ => false
theorem w57_ok {E : Env} (e : E.code 57 = some A57) : ShOK E 57 w57 := fun call call' n args h K K' hc hK s =>
  match args, s with
  | [x0], s => ⟨A57, e, rfl, s57_ok hc hK (Has.nil.set 0 x0) s⟩
  | [], s => nomatch s
  | _ :: _ :: _, s => nomatch s
def b58_6 (call : CallFn) (n : Nat) (B6 : F4) (x0 x1 x7 x8 : AV) (h : AHeap) (K : Kont) : Bool :=
  optB (binA .lss x8 x7) fun v2 => condB v2 (optB (iadrA h 3 x0 x8) fun v3 => optB (loadA h true 3 v3) fun v4 => callV call x1 [v4] h fun v5 h => condB v5 (K x8 h) (optB (binA .add x8 (.int .i64 1)) fun v6 => B6 x0 x1 x7 v6 h)) (K (.int .i64 (-1)) h)
abbrev k58_0 (call' : CallFn) (n : Nat) (K' : Kont) := seqK call' n c58_25 (finK A58.res K')
abbrev k58_1 (call' : CallFn) (n : Nat) (K' : Kont) := blockK 0 (k58_0 call' n K')
abbrev H58_6 (call' : CallFn) (n : Nat) (K' : Kont) (m : Nat) (B : F4) : Prop := ∀ (x0 x1 x7 x8 : AV) (h : AHeap) (ρ : Regs), Has ρ [(0, x0), (1, x1), (7, x7), (8, x8)] → B x0 x1 x7 x8 h = true → iter (runC call' n c58_7) (k58_1 call' n K') m ⟨ρ, h⟩ = true
abbrev k58_2 (call' : CallFn) (n : Nat) (K' : Kont) (m6 : Nat) := loopK call' n c58_7 (k58_1 call' n K') m6
theorem b58_6_ok (hc : Le call call') (hK : KLe K K') {m6 : Nat} {B6 : F4} (hB6 : H58_6 call' n K' m6 B6) (H : Has ρ [(0, x0), (1, x1), (7, x7), (8, x8)]) (s : b58_6 call n B6 x0 x1 x7 x8 h K = true) : runC call' n c58_7 ⟨ρ, h⟩ (k58_2 call' n K' m6) = true :=
  c_seq (c_reg (q_pure H rfl s fun _ s H => r_nil (k_seq (c_seq (c_cond H rfl s (fun s => c_skip (k_seq (c_seq (c_block (c_seq (c_reg (q_mv H rfl fun H => q_mv H rfl fun H => r_nil (k_seq (c_seq (c_reg (q_mv H rfl fun H => q_mv H rfl fun H => q_mv H rfl fun H => q_pure H rfl s fun _ s H => q_pure H rfl s fun _ s H => q_callv hc H rfl rfl s fun _ _ s H => r_nil (k_seq (c_cond H rfl s (fun s => c_seq (c_reg (q_mv H rfl fun H => q_mv H rfl fun H => r_nil (k_seq (c_ret (k_block_ret (k_seq_ret (k_loop_ret (k_block_ret (k_seq_ret (fin_ret H rfl hK s))))))))))) (fun s => c_skip (k_block (k_seq (c_reg (q_pure H rfl s fun _ s H => q_mv H rfl fun H => r_nil (k_loop (hB6 _ _ _ _ _ _ (H.keep [0, 1, 7, 8] rfl) s)))))))))))))))))))) (fun s => c_exit (k_seq_exit (k_loop_exit (k_block_eq (k_seq (c_seq (c_reg (q_mv H rfl fun H => r_nil (k_seq (c_ret (fin_ret H rfl hK s))))))))))))))))
def l58_6 (call : CallFn) (n : Nat) : Nat → AV → AV → AV → AV → AHeap → Kont → Bool
  | 0 => fun _ _ _ _ _ _ => false
  | m + 1 => fun x0 x1 x7 x8 h K => b58_6 call n (fun x0 x1 x7 x8 h => l58_6 call n m x0 x1 x7 x8 h K) x0 x1 x7 x8 h K
theorem l58_6_ok (hc : Le call call') (hK : KLe K K') : ∀ (m : Nat) (x0 x1 x7 x8 : AV) (h : AHeap) (ρ : Regs), Has ρ [(0, x0), (1, x1), (7, x7), (8, x8)] → l58_6 call n m x0 x1 x7 x8 h K = true → iter (runC call' n c58_7) (k58_1 call' n K') m ⟨ρ, h⟩ = true
  | 0, _, _, _, _, _, _, _, s => nomatch s
  | m + 1, _, _, _, _, _, _, H, s => c_round (b58_6_ok hc hK (fun x0 x1 x7 x8 h ρ H s => l58_6_ok hc hK m x0 x1 x7 x8 h ρ H s) H s)
def s58 (call : CallFn) (n : Nat) (x0 x1 : AV) (h : AHeap) (K : Kont) : Bool :=
  optB (lenA h 1 x0) fun v1 => l58_6 call n n x0 x1 v1 (.int .i64 0) h K
theorem s58_ok (hc : Le call call') (hK : KLe K K') (H : Has ρ [(1, x1), (0, x0)]) (s : s58 call n x0 x1 h K = true) : runC call' n A58.body ⟨ρ, h⟩ (finK A58.res K') = true :=
  c_seq (c_reg (q_mv H rfl fun H => r_nil (k_seq (c_seq (c_seq (c_reg (q_mv H rfl fun H => q_pure H rfl s fun _ s H => q_mv H rfl fun H => r_nil (k_seq (c_block (c_loop (l58_6_ok hc hK n _ _ _ _ _ _ (H.keep [0, 1, 7, 8] rfl) s)))))))))))
def w58 : Sh := fun call n args h K => match args with
  | [x0, x1] => s58 call n x0 x1 h K
  | _ => false
theorem w58_ok {E : Env} (e : E.code 58 = some A58) : ShOK E 58 w58 := fun call call' n args h K K' hc hK s =>
  match args, s with
  | [x0, x1], s => ⟨A58, e, rfl, s58_ok hc hK ((Has.nil.set 0 x0).set 1 x1) s⟩
  | [], s => nomatch s
  | [_], s => nomatch s
  | _ :: _ :: _ :: _, s => nomatch s
def s59 (call : CallFn) (n : Nat) (x0 : AV) (h : AHeap) (K : Kont) : Bool :=
  optP (boxA h 5 x0) fun v1 h => optB (loadA h true 5 v1) fun v2 => call (.func 57) [v2] h fun v3 h => optB (notA v3) fun v4 => condB v4 (K (.tup [.nilSlc, (.int .i64 1)]) h) (optB (loadA h true 5 v1) fun v5 => call (.func 68) [.nilSlc, v5] h fun v6 h => K (.tup [v6, (.int .i64 0)]) h)
theorem s59_ok (hc : Le call call') (hK : KLe K K') (H : Has ρ [(0, x0)]) (s : s59 call n x0 h K = true) : runC call' n A59.body ⟨ρ, h⟩ (finK A59.res K') = true :=
  c_seq (c_reg (q_heap H rfl s fun _ _ s H => q_mv H rfl fun H => q_mv H rfl fun H => r_nil (k_seq (c_seq (c_seq (c_reg (q_pure H rfl s fun _ s H => q_call hc H rfl s fun _ _ s H => q_pure H rfl s fun _ s H => r_nil (k_seq (c_cond H rfl s (fun s => c_seq (c_reg (q_mv H rfl fun H => q_mv H rfl fun H => r_nil (k_seq (c_ret (k_seq_ret (fin_ret H rfl hK s))))))) (fun s => c_skip (k_seq (c_seq (c_reg (q_pure H rfl s fun _ s H => q_call hc H rfl s fun _ _ s H => q_mv H rfl fun H => q_mv H rfl fun H => r_nil (k_seq (c_ret (fin_ret H rfl hK s)))))))))))))))))
def w59 : Sh := fun call n args h K => match args with
  | [x0] => s59 call n x0 h K
  | _ => false
theorem w59_ok {E : Env} (e : E.code 59 = some A59) : ShOK E 59 w59 := fun call call' n args h K K' hc hK s =>
  match args, s with
  | [x0], s => ⟨A59, e, rfl, s59_ok hc hK (Has.nil.set 0 x0) s⟩
  | [], s => nomatch s
  | _ :: _ :: _, s => nomatch s
def p60_45 (call : CallFn) (n : Nat) (B10 : F5) (x3 x4 x12 x13 x14 : AV) (h : AHeap) (K : Kont) : Bool :=
  optB (binA .add x14 (.int .i64 1)) fun v35 => B10 x3 x4 x12 x13 v35 h
abbrev k60_0 (call' : CallFn) (n : Nat) (K' : Kont) := seqK call' n c60_46 (finK A60.res K')
abbrev k60_1 (call' : CallFn) (n : Nat) (K' : Kont) := blockK 0 (k60_0 call' n K')
abbrev H60_10 (call' : CallFn) (n : Nat) (K' : Kont) (m : Nat) (B : F5) : Prop := ∀ (x3 x4 x12 x13 x14 : AV) (h : AHeap) (ρ : Regs), Has ρ [(3, x3), (4, x4), (12, x12), (13, x13), (14, x14)] → B x3 x4 x12 x13 x14 h = true → iter (runC call' n c60_11) (k60_1 call' n K') m ⟨ρ, h⟩ = true
abbrev k60_2 (call' : CallFn) (n : Nat) (K' : Kont) (m10 : Nat) := loopK call' n c60_11 (k60_1 call' n K') m10
theorem p60_45_ok (hc : Le call call') (hK : KLe K K') {m10 : Nat} {B10 : F5} (hB10 : H60_10 call' n K' m10 B10) (H : Has ρ [(3, x3), (4, x4), (12, x12), (13, x13), (14, x14)]) (s : p60_45 call n B10 x3 x4 x12 x13 x14 h K = true) : runC call' n c60_45 ⟨ρ, h⟩ (k60_2 call' n K' m10) = true :=
  c_reg (q_pure H rfl s fun _ s H => q_mv H rfl fun H => r_nil (k_loop (hB10 _ _ _ _ _ _ _ (H.keep [3, 4, 12, 13, 14] rfl) s)))
def b60_30 (call : CallFn) (n : Nat) (B10 : F5) (B30 : F8) (x3 x4 x12 x13 x14 x32 x33 x34 : AV) (h : AHeap) (K : Kont) : Bool :=
  optB (binA .lss x34 x33) fun v22 => condB v22 (optB (iadrA h 5 x32 x34) fun v23 => optB (loadA h true 5 v23) fun v24 => optP (allocV h [.int .i64 0, .bool false, .int .i64 0, .str [], .nilSlc]) fun v25 h => optP (unit (storeA h 5 v25 v24)) fun _ h => optB (loadA h true 5 v25) fun v27 => call (.func 59) [v27] h fun v28 h => optB (extA 0 v28) fun v29 => optB (extA 1 v28) fun v30 => optB (loadA h false 1 x3) fun v31 => optP (appbA h 5 v31 v29) fun v32 h => optP (unit (storeA h 1 x3 v32)) fun _ h => optB (binA .add x34 (.int .i64 1)) fun v34 => B30 x3 x4 x12 x13 x14 x32 x33 v34 h) (p60_45 call n B10 x3 x4 x12 x13 x14 h K)
abbrev k60_3 (call' : CallFn) (n : Nat) (K' : Kont) (m10 : Nat) := seqK call' n c60_45 (k60_2 call' n K' m10)
abbrev k60_4 (call' : CallFn) (n : Nat) (K' : Kont) (m10 : Nat) := blockK 1 (k60_3 call' n K' m10)
abbrev k60_5 (call' : CallFn) (n : Nat) (K' : Kont) (m10 : Nat) := blockK 2 (k60_4 call' n K' m10)
abbrev H60_30 (call' : CallFn) (n : Nat) (K' : Kont) (m10 : Nat) (m : Nat) (B : F8) : Prop := ∀ (x3 x4 x12 x13 x14 x32 x33 x34 : AV) (h : AHeap) (ρ : Regs), Has ρ [(3, x3), (4, x4), (12, x12), (13, x13), (14, x14), (32, x32), (33, x33), (34, x34)] → B x3 x4 x12 x13 x14 x32 x33 x34 h = true → iter (runC call' n c60_31) (k60_5 call' n K' m10) m ⟨ρ, h⟩ = true
abbrev k60_6 (call' : CallFn) (n : Nat) (K' : Kont) (m10 m30 : Nat) := loopK call' n c60_31 (k60_5 call' n K' m10) m30
theorem b60_30_ok (hc : Le call call') (hK : KLe K K') {m10 : Nat} {B10 : F5} (hB10 : H60_10 call' n K' m10 B10) {m30 : Nat} {B30 : F8} (hB30 : H60_30 call' n K' m10 m30 B30) (H : Has ρ [(3, x3), (4, x4), (12, x12), (13, x13), (14, x14), (32, x32), (33, x33), (34, x34)]) (s : b60_30 call n B10 B30 x3 x4 x12 x13 x14 x32 x33 x34 h K = true) : runC call' n c60_31 ⟨ρ, h⟩ (k60_6 call' n K' m10 m30) = true :=
  c_seq (c_reg (q_pure H rfl s fun _ s H => r_nil (k_seq (c_seq (c_cond H rfl s (fun s => c_skip (k_seq (c_seq (c_block (c_seq (c_reg (q_pure H rfl s fun _ s H => q_pure H rfl s fun _ s H => q_heap H rfl s fun _ _ s H => q_heap0 H rfl s fun _ _ s H => r_nil (k_seq (c_seq (c_reg (q_pure H rfl s fun _ s H => q_call hc H rfl s fun _ _ s H => q_mv H rfl fun H => q_pure H rfl s fun _ s H => q_pure H rfl s fun _ s H => q_mv H rfl fun H => q_mv H rfl fun H => r_nil (k_seq (c_reg (q_pure H rfl s fun _ s H => q_mv H rfl fun H => q_heap H rfl s fun _ _ s H => q_heap0 H rfl s fun _ _ s H => r_nil (k_block (k_seq (c_reg (q_pure H rfl s fun _ s H => q_mv H rfl fun H => r_nil (k_loop (hB30 _ _ _ _ _ _ _ _ _ _ (H.keep [3, 4, 12, 13, 14, 32, 33, 34] rfl) s)))))))))))))))))))) (fun s => c_exit (k_seq_exit (k_loop_exit (k_block_eq (k_block (k_seq (p60_45_ok hc hK hB10 (H.keep [3, 4, 12, 13, 14] rfl) s))))))))))))
def l60_30 (call : CallFn) (n : Nat) (B10 : F5) : Nat → AV → AV → AV → AV → AV → AV → AV → AV → AHeap → Kont → Bool
  | 0 => fun _ _ _ _ _ _ _ _ _ _ => false
  | m + 1 => fun x3 x4 x12 x13 x14 x32 x33 x34 h K => b60_30 call n B10 (fun x3 x4 x12 x13 x14 x32 x33 x34 h => l60_30 call n B10 m x3 x4 x12 x13 x14 x32 x33 x34 h K) x3 x4 x12 x13 x14 x32 x33 x34 h K
theorem l60_30_ok (hc : Le call call') (hK : KLe K K') {m10 : Nat} {B10 : F5} (hB10 : H60_10 call' n K' m10 B10) : ∀ (m : Nat) (x3 x4 x12 x13 x14 x32 x33 x34 : AV) (h : AHeap) (ρ : Regs), Has ρ [(3, x3), (4, x4), (12, x12), (13, x13), (14, x14), (32, x32), (33, x33), (34, x34)] → l60_30 call n B10 m x3 x4 x12 x13 x14 x32 x33 x34 h K = true → iter (runC call' n c60_31) (k60_5 call' n K' m10) m ⟨ρ, h⟩ = true
  | 0, _, _, _, _, _, _, _, _, _, _, _, s => nomatch s
  | m + 1, _, _, _, _, _, _, _, _, _, _, H, s => c_round (b60_30_ok hc hK hB10 (fun x3 x4 x12 x13 x14 x32 x33 x34 h ρ H s => l60_30_ok hc hK hB10 m x3 x4 x12 x13 x14 x32 x33 x34 h ρ H s) H s)
def p60_17 (call : CallFn) (n : Nat) (B10 : F5) (x3 x4 x12 x13 x14 : AV) (h : AHeap) (K : Kont) : Bool :=
  optB (iadrA h 3 x12 x14) fun v5 => optB (loadA h true 3 v5) fun v6 => optP (allocV h [.int .i64 0, .int .i64 0, .nilSlc]) fun v7 h => optP (unit (storeA h 3 v7 v6)) fun _ h => optB (fadrA 0 v7) fun v9 => optB (loadA h false 1 v9) fun v10 => callV call x4 [v10] h fun v11 h => optB (fadrA 1 v7) fun v12 => optB (loadA h false 1 v12) fun v13 => callV call x4 [v13] h fun v14 h => optB (fadrA 2 v7) fun v15 => optB (loadA h false 1 v15) fun v16 => optB (lenA h 1 v16) fun v17 => callV call x4 [v17] h fun v18 h => optB (fadrA 2 v7) fun v19 => optB (loadA h false 1 v19) fun v20 => optB (lenA h 1 v20) fun v21 => l60_30 call n B10 n x3 x4 x12 x13 x14 v20 v21 (.int .i64 0) h K
theorem p60_17_ok (hc : Le call call') (hK : KLe K K') {m10 : Nat} {B10 : F5} (hB10 : H60_10 call' n K' m10 B10) (H : Has ρ [(3, x3), (4, x4), (12, x12), (13, x13), (14, x14)]) (s : p60_17 call n B10 x3 x4 x12 x13 x14 h K = true) : runC call' n c60_17 ⟨ρ, h⟩ (k60_2 call' n K' m10) = true :=
  c_seq (c_block (c_seq (c_reg (q_pure H rfl s fun _ s H => q_pure H rfl s fun _ s H => q_heap H rfl s fun _ _ s H => q_heap0 H rfl s fun _ _ s H => r_nil (k_seq (c_seq (c_reg (q_mv H rfl fun H => q_pure H rfl s fun _ s H => q_pure H rfl s fun _ s H => q_callv hc H rfl rfl s fun _ _ s H => r_nil (k_seq (c_seq (c_reg (q_mv H rfl fun H => q_pure H rfl s fun _ s H => q_pure H rfl s fun _ s H => q_callv hc H rfl rfl s fun _ _ s H => r_nil (k_seq (c_seq (c_reg (q_mv H rfl fun H => q_pure H rfl s fun _ s H => q_pure H rfl s fun _ s H => q_pure H rfl s fun _ s H => q_callv hc H rfl rfl s fun _ _ s H => r_nil (k_seq (c_seq (c_reg (q_pure H rfl s fun _ s H => q_pure H rfl s fun _ s H => q_pure H rfl s fun _ s H => q_mv H rfl fun H => r_nil (k_seq (c_block (c_loop (l60_30_ok hc hK hB10 n _ _ _ _ _ _ _ _ _ _ (H.keep [3, 4, 12, 13, 14, 32, 33, 34] rfl) s))))))))))))))))))))))))
def p60_46 (call : CallFn) (n : Nat) (x3 : AV) (h : AHeap) (K : Kont) : Bool :=
  optB (loadA h false 1 x3) fun v36 => optB (b2sA h v36) fun v37 => K v37 h
theorem p60_46_ok (hc : Le call call') (hK : KLe K K') (H : Has ρ [(3, x3)]) (s : p60_46 call n x3 h K = true) : runC call' n c60_46 ⟨ρ, h⟩ (finK A60.res K') = true :=
  c_seq (c_reg (q_pure H rfl s fun _ s H => q_pure H rfl s fun _ s H => q_mv H rfl fun H => r_nil (k_seq (c_ret (fin_ret H rfl hK s)))))
def b60_10 (call : CallFn) (n : Nat) (B10 : F5) (x3 x4 x12 x13 x14 : AV) (h : AHeap) (K : Kont) : Bool :=
  optB (binA .lss x14 x13) fun v4 => condB v4 (p60_17 call n B10 x3 x4 x12 x13 x14 h K) (p60_46 call n x3 h K)
theorem b60_10_ok (hc : Le call call') (hK : KLe K K') {m10 : Nat} {B10 : F5} (hB10 : H60_10 call' n K' m10 B10) (H : Has ρ [(3, x3), (4, x4), (12, x12), (13, x13), (14, x14)]) (s : b60_10 call n B10 x3 x4 x12 x13 x14 h K = true) : runC call' n c60_11 ⟨ρ, h⟩ (k60_2 call' n K' m10) = true :=
  c_seq (c_reg (q_pure H rfl s fun _ s H => r_nil (k_seq (c_seq (c_cond H rfl s (fun s => c_skip (k_seq (p60_17_ok hc hK hB10 (H.keep [3, 4, 12, 13, 14] rfl) s))) (fun s => c_exit (k_seq_exit (k_loop_exit (k_block_eq (k_seq (p60_46_ok hc hK (H.keep [3] rfl) s)))))))))))
def l60_10 (call : CallFn) (n : Nat) : Nat → AV → AV → AV → AV → AV → AHeap → Kont → Bool
  | 0 => fun _ _ _ _ _ _ _ => false
  | m + 1 => fun x3 x4 x12 x13 x14 h K => b60_10 call n (fun x3 x4 x12 x13 x14 h => l60_10 call n m x3 x4 x12 x13 x14 h K) x3 x4 x12 x13 x14 h K
theorem l60_10_ok (hc : Le call call') (hK : KLe K K') : ∀ (m : Nat) (x3 x4 x12 x13 x14 : AV) (h : AHeap) (ρ : Regs), Has ρ [(3, x3), (4, x4), (12, x12), (13, x13), (14, x14)] → l60_10 call n m x3 x4 x12 x13 x14 h K = true → iter (runC call' n c60_11) (k60_1 call' n K') m ⟨ρ, h⟩ = true
  | 0, _, _, _, _, _, _, _, _, s => nomatch s
  | m + 1, _, _, _, _, _, _, _, H, s => c_round (b60_10_ok hc hK (fun x3 x4 x12 x13 x14 h ρ H s => l60_10_ok hc hK m x3 x4 x12 x13 x14 h ρ H s) H s)
def s60 (call : CallFn) (n : Nat) (x0 : AV) (h : AHeap) (K : Kont) : Bool :=
  optP (allocV h [.nilSlc]) fun v1 h => optB (some (.fn (.func 69) [] [v1])) fun v2 => optB (lenA h 1 x0) fun v3 => l60_10 call n n v1 v2 x0 v3 (.int .i64 0) h K
theorem s60_ok (hc : Le call call') (hK : KLe K K') (H : Has ρ [(0, x0)]) (s : s60 call n x0 h K = true) : runC call' n A60.body ⟨ρ, h⟩ (finK A60.res K') = true :=
  c_seq (c_reg (q_mv H rfl fun H => r_nil (k_seq (c_seq (c_reg (q_heap H rfl s fun _ _ s H => r_nil (k_seq (c_seq (c_reg (q_pure H rfl s fun _ s H => q_mv H rfl fun H => r_nil (k_seq (c_seq (c_seq (c_reg (q_mv H rfl fun H => q_pure H rfl s fun _ s H => q_mv H rfl fun H => r_nil (k_seq (c_block (c_loop (l60_10_ok hc hK n _ _ _ _ _ _ _ (H.keep [3, 4, 12, 13, 14] rfl) s)))))))))))))))))))
def w60 : Sh := fun call n args h K => match args with
  | [x0] => s60 call n x0 h K
  | _ => false
theorem w60_ok {E : Env} (e : E.code 60 = some A60) : ShOK E 60 w60 := fun call call' n args h K K' hc hK s =>
  match args, s with
  | [x0], s => ⟨A60, e, rfl, s60_ok hc hK (Has.nil.set 0 x0) s⟩
  | [], s => nomatch s
  | _ :: _ :: _, s => nomatch s
def s61 (call : CallFn) (n : Nat) (x0 : AV) (h : AHeap) (K : Kont) : Bool :=
  optP (boxA h 5 x0) fun v1 h => optP (allocV h [.int .i64 0, .bool false, .int .i64 0, .str [], .nilSlc]) fun v2 h => optB (fadrA 4 v1) fun v3 => optB (loadA h false 1 v3) fun v4 => call (.func 40) [v4] h fun v5 h => optB (fadrA 4 v1) fun v6 => optP (unit (storeA h 1 v6 v5)) fun _ h => optB (loadA h true 5 v1) fun v8 => optP (unit (storeA h 5 v2 v8)) fun _ h => optR (resV h [(v2, some (true, 5))]) h K
theorem s61_ok (hc : Le call call') (hK : KLe K K') (H : Has ρ [(0, x0)]) (s : s61 call n x0 h K = true) : runC call' n A61.body ⟨ρ, h⟩ (finK A61.res K') = true :=
  c_seq (c_reg (q_heap H rfl s fun _ _ s H => q_heap H rfl s fun _ _ s H => r_nil (k_seq (c_seq (c_reg (q_pure H rfl s fun _ s H => q_pure H rfl s fun _ s H => q_call hc H rfl s fun _ _ s H => q_pure H rfl s fun _ s H => q_heap0 H rfl s fun _ _ s H => r_nil (k_seq (c_seq (c_reg (q_pure H rfl s fun _ s H => q_heap0 H rfl s fun _ _ s H => r_nil (k_seq (c_ret (fin_ret H rfl hK s)))))))))))))
def w61 : Sh := fun call n args h K => match args with
  | [x0] => s61 call n x0 h K
  | _ => false
theorem w61_ok {E : Env} (e : E.code 61 = some A61) : ShOK E 61 w61 := fun call call' n args h K K' hc hK s =>
  match args, s with
  | [x0], s => ⟨A61, e, rfl, s61_ok hc hK (Has.nil.set 0 x0) s⟩
  | [], s => nomatch s
  | _ :: _ :: _, s => nomatch s
def b66_6 (call : CallFn) (n : Nat) (B6 : F4) (x0 x1 x7 x8 : AV) (h : AHeap) (K : Kont) : Bool :=
  optB (binA .lss x8 x7) fun v2 => condB v2 (optB (iadrA h 5 x0 x8) fun v3 => optB (loadA h true 5 v3) fun v4 => callV call x1 [v4] h fun v5 h => condB v5 (K x8 h) (optB (binA .add x8 (.int .i64 1)) fun v6 => B6 x0 x1 x7 v6 h)) (K (.int .i64 (-1)) h)
abbrev k66_0 (call' : CallFn) (n : Nat) (K' : Kont) := seqK call' n c66_25 (finK A66.res K')
abbrev k66_1 (call' : CallFn) (n : Nat) (K' : Kont) := blockK 0 (k66_0 call' n K')
abbrev H66_6 (call' : CallFn) (n : Nat) (K' : Kont) (m : Nat) (B : F4) : Prop := ∀ (x0 x1 x7 x8 : AV) (h : AHeap) (ρ : Regs), Has ρ [(0, x0), (1, x1), (7, x7), (8, x8)] → B x0 x1 x7 x8 h = true → iter (runC call' n c66_7) (k66_1 call' n K') m ⟨ρ, h⟩ = true
abbrev k66_2 (call' : CallFn) (n : Nat) (K' : Kont) (m6 : Nat) := loopK call' n c66_7 (k66_1 call' n K') m6
theorem b66_6_ok (hc : Le call call') (hK : KLe K K') {m6 : Nat} {B6 : F4} (hB6 : H66_6 call' n K' m6 B6) (H : Has ρ [(0, x0), (1, x1), (7, x7), (8, x8)]) (s : b66_6 call n B6 x0 x1 x7 x8 h K = true) : runC call' n c66_7 ⟨ρ, h⟩ (k66_2 call' n K' m6) = true :=
  c_seq (c_reg (q_pure H rfl s fun _ s H => r_nil (k_seq (c_seq (c_cond H rfl s (fun s => c_skip (k_seq (c_seq (c_block (c_seq (c_reg (q_mv H rfl fun H => q_mv H rfl fun H => r_nil (k_seq (c_seq (c_reg (q_mv H rfl fun H => q_mv H rfl fun H => q_mv H rfl fun H => q_pure H rfl s fun _ s H => q_pure H rfl s fun _ s H => q_callv hc H rfl rfl s fun _ _ s H => r_nil (k_seq (c_cond H rfl s (fun s => c_seq (c_reg (q_mv H rfl fun H => q_mv H rfl fun H => r_nil (k_seq (c_ret (k_block_ret (k_seq_ret (k_loop_ret (k_block_ret (k_seq_ret (fin_ret H rfl hK s))))))))))) (fun s => c_skip (k_block (k_seq (c_reg (q_pure H rfl s fun _ s H => q_mv H rfl fun H => r_nil (k_loop (hB6 _ _ _ _ _ _ (H.keep [0, 1, 7, 8] rfl) s)))))))))))))))))))) (fun s => c_exit (k_seq_exit (k_loop_exit (k_block_eq (k_seq (c_seq (c_reg (q_mv H rfl fun H => r_nil (k_seq (c_ret (fin_ret H rfl hK s))))))))))))))))
def l66_6 (call : CallFn) (n : Nat) : Nat → AV → AV → AV → AV → AHeap → Kont → Bool
  | 0 => fun _ _ _ _ _ _ => false
  | m + 1 => fun x0 x1 x7 x8 h K => b66_6 call n (fun x0 x1 x7 x8 h => l66_6 call n m x0 x1 x7 x8 h K) x0 x1 x7 x8 h K
theorem l66_6_ok (hc : Le call call') (hK : KLe K K') : ∀ (m : Nat) (x0 x1 x7 x8 : AV) (h : AHeap) (ρ : Regs), Has ρ [(0, x0), (1, x1), (7, x7), (8, x8)] → l66_6 call n m x0 x1 x7 x8 h K = true → iter (runC call' n c66_7) (k66_1 call' n K') m ⟨ρ, h⟩ = true
  | 0, _, _, _, _, _, _, _, s => nomatch s
  | m + 1, _, _, _, _, _, _, H, s => c_round (b66_6_ok hc hK (fun x0 x1 x7 x8 h ρ H s => l66_6_ok hc hK m x0 x1 x7 x8 h ρ H s) H s)
def s66 (call : CallFn) (n : Nat) (x0 x1 : AV) (h : AHeap) (K : Kont) : Bool :=
  optB (lenA h 1 x0) fun v1 => l66_6 call n n x0 x1 v1 (.int .i64 0) h K
theorem s66_ok (hc : Le call call') (hK : KLe K K') (H : Has ρ [(1, x1), (0, x0)]) (s : s66 call n x0 x1 h K = true) : runC call' n A66.body ⟨ρ, h⟩ (finK A66.res K') = true :=
  c_seq (c_reg (q_mv H rfl fun H => r_nil (k_seq (c_seq (c_seq (c_reg (q_mv H rfl fun H => q_pure H rfl s fun _ s H => q_mv H rfl fun H => r_nil (k_seq (c_block (c_loop (l66_6_ok hc hK n _ _ _ _ _ _ (H.keep [0, 1, 7, 8] rfl) s)))))))))))
def w66 : Sh := fun call n args h K => match args with
  | [x0, x1] => s66 call n x0 x1 h K
  | _ => false
theorem w66_ok {E : Env} (e : E.code 66 = some A66) : ShOK E 66 w66 := fun call call' n args h K K' hc hK s =>
  match args, s with
  | [x0, x1], s => ⟨A66, e, rfl, s66_ok hc hK ((Has.nil.set 0 x0).set 1 x1) s⟩
  | [], s => nomatch s
  | [_], s => nomatch s
  | _ :: _ :: _ :: _, s => nomatch s
set_option maxRecDepth 100000 in
def p67_64 (call : CallFn) (n : Nat) (x2 x5 : AV) (h : AHeap) (K : Kont) : Bool :=
  optB (fadrA 1 x2) fun v10 => optB (loadA h false 1 v10) fun v11 => optB (fadrA 1 x5) fun v12 => optB (loadA h false 1 v12) fun v13 => optB (eqV h false .bool v11 v13) fun v14 => optB (grdO (wantV v14 true) (fadrA 2 x2)) fun v15 => optB (grdO (wantV v14 true) (loadA h false 1 v15)) fun v16 => optB (grdO (wantV v14 true) (fadrA 2 x5)) fun v17 => optB (grdO (wantV v14 true) (loadA h false 1 v17)) fun v18 => optB (grdO (wantV v14 true) (binA .eql v16 v18)) fun v19 => optB (pickV v14 v19 (.bool false)) fun v20 => optB (grdO (wantV v20 true) (fadrA 3 x2)) fun v21 => optB (grdO (wantV v20 true) (loadA h false 1 v21)) fun v22 => optB (grdO (wantV v20 true) (fadrA 3 x5)) fun v23 => optB (grdO (wantV v20 true) (loadA h false 1 v23)) fun v24 => optB (grdO (wantV v20 true) (binA .eql v22 v24)) fun v25 => optB (pickV v20 v25 (.bool false)) fun v26 => optB (grdO (wantV v26 true) (fadrA 3 x2)) fun v27 => optB (grdO (wantV v26 true) (loadA h false 1 v27)) fun v28 => optB (grdO (wantV v26 true) (lenA h 0 v28)) fun v29 => optB (grdO (wantV v26 true) (binA .leq v29 (.int .i64 65536))) fun v30 => optB (pickV v26 v30 (.bool false)) fun v31 => optB (grdO (wantV v31 true) (fadrA 4 x2)) fun v32 => optB (grdO (wantV v31 true) (loadA h false 1 v32)) fun v33 => optB (grdO (wantV v31 true) (lenA h 1 v33)) fun v34 => optB (grdO (wantV v31 true) (binA .eql v34 (.int .i64 0))) fun v35 => optB (grdO (wantV v31 true) (some v35)) fun v36 => optB (grdO (wantV v36 false) (fadrA 0 x2)) fun v37 => optB (grdO (wantV v36 false) (loadA h false 1 v37)) fun v38 => optB (grdO (wantV v36 false) (binA .eql v38 (.int .i64 4))) fun v39 => optB (grdO (wantV v31 true) (pickV v36 (.bool true) v39)) fun v40 => optB (pickV v31 v40 (.bool false)) fun v41 => K v41 h
theorem p67_64_ok (hc : Le call call') (hK : KLe K K') (H : Has ρ [(2, x2), (5, x5)]) (s : p67_64 call n x2 x5 h K = true) : runC call' n c67_64 ⟨ρ, h⟩ (finK A67.res K') = true :=
  c_seq (c_reg (q_pure H rfl s fun _ s H => q_pure H rfl s fun _ s H => q_pure H rfl s fun _ s H => q_pure H rfl s fun _ s H => q_pure H rfl s fun _ s H => q_mv H rfl fun H => qgstep_pure H rfl rfl s fun _ s H => qgstep_pure H rfl rfl s fun _ s H => qgstep_pure H rfl rfl s fun _ s H => qgstep_pure H rfl rfl s fun _ s H => qgstep_pure H rfl rfl s fun _ s H => q_pure H rfl s fun _ s H => q_mv H rfl fun H => qgstep_pure H rfl rfl s fun _ s H => qgstep_pure H rfl rfl s fun _ s H => qgstep_pure H rfl rfl s fun _ s H => qgstep_pure H rfl rfl s fun _ s H => qgstep_pure H rfl rfl s fun _ s H => q_pure H rfl s fun _ s H => q_mv H rfl fun H => qgstep_pure H rfl rfl s fun _ s H => qgstep_pure H rfl rfl s fun _ s H => qgstep_pure H rfl rfl s fun _ s H => qgstep_pure H rfl rfl s fun _ s H => q_pure H rfl s fun _ s H => q_mv H rfl fun H => qgstep_pure H rfl rfl s fun _ s H => qgstep_pure H rfl rfl s fun _ s H => qgstep_pure H rfl rfl s fun _ s H => qgstep_pure H rfl rfl s fun _ s H => qgstep_pure H rfl rfl s fun _ s H => qgstep_pure H rfl rfl s fun _ s H => qgstep_pure H rfl rfl s fun _ s H => qgstep_pure H rfl rfl s fun _ s H => qgstep_pure H rfl rfl s fun _ s H => q_pure H rfl s fun _ s H => q_mv H rfl fun H => r_nil (k_seq (c_ret (fin_ret H rfl hK s)))))
def b67_42 (call : CallFn) (n : Nat) (B42 : F6) (x1 x2 x5 x47 x48 x49 : AV) (h : AHeap) (K : Kont) : Bool :=
  optB (binA .lss x49 x48) fun v73 => condB v73 (optB (iadrA h 5 x47 x49) fun v74 => optB (loadA h true 5 v74) fun v75 => optP (allocV h [.int .i64 0, .bool false, .int .i64 0, .str [], .nilSlc]) fun v76 h => optP (unit (storeA h 5 v76 v75)) fun _ h => optB (loadA h true 5 v76) fun v78 => optB (binA .add x1 (.int .i64 1)) fun v79 => call (.func 67) [v78, v79] h fun v80 h => optB (notA v80) fun v81 => condB v81 (K (.bool false) h) (optB (binA .add x49 (.int .i64 1)) fun v82 => B42 x1 x2 x5 x47 x48 v82 h)) (p67_64 call n x2 x5 h K)
abbrev k67_0 (call' : CallFn) (n : Nat) (K' : Kont) := seqK call' n c67_64 (finK A67.res K')
abbrev k67_1 (call' : CallFn) (n : Nat) (K' : Kont) := blockK 0 (k67_0 call' n K')
abbrev k67_2 (call' : CallFn) (n : Nat) (K' : Kont) := blockK 1 (k67_1 call' n K')
abbrev H67_42 (call' : CallFn) (n : Nat) (K' : Kont) (m : Nat) (B : F6) : Prop := ∀ (x1 x2 x5 x47 x48 x49 : AV) (h : AHeap) (ρ : Regs), Has ρ [(1, x1), (2, x2), (5, x5), (47, x47), (48, x48), (49, x49)] → B x1 x2 x5 x47 x48 x49 h = true → iter (runC call' n c67_43) (k67_2 call' n K') m ⟨ρ, h⟩ = true
abbrev k67_3 (call' : CallFn) (n : Nat) (K' : Kont) (m42 : Nat) := loopK call' n c67_43 (k67_2 call' n K') m42
theorem b67_42_ok (hc : Le call call') (hK : KLe K K') {m42 : Nat} {B42 : F6} (hB42 : H67_42 call' n K' m42 B42) (H : Has ρ [(1, x1), (2, x2), (5, x5), (47, x47), (48, x48), (49, x49)]) (s : b67_42 call n B42 x1 x2 x5 x47 x48 x49 h K = true) : runC call' n c67_43 ⟨ρ, h⟩ (k67_3 call' n K' m42) = true :=
  c_seq (c_reg (q_pure H rfl s fun _ s H => r_nil (k_seq (c_seq (c_cond H rfl s (fun s => c_skip (k_seq (c_seq (c_block (c_seq (c_reg (q_pure H rfl s fun _ s H => q_pure H rfl s fun _ s H => q_heap H rfl s fun _ _ s H => q_heap0 H rfl s fun _ _ s H => r_nil (k_seq (c_seq (c_reg (q_pure H rfl s fun _ s H => q_mv H rfl fun H => q_pure H rfl s fun _ s H => q_call hc H rfl s fun _ _ s H => q_pure H rfl s fun _ s H => r_nil (k_seq (c_cond H rfl s (fun s => c_seq (c_reg (q_mv H rfl fun H => r_nil (k_seq (c_ret (k_block_ret (k_seq_ret (k_loop_ret (k_block_ret (k_block_ret (k_seq_ret (fin_ret H rfl hK s)))))))))))) (fun s => c_skip (k_block (k_seq (c_reg (q_pure H rfl s fun _ s H => q_mv H rfl fun H => r_nil (k_loop (hB42 _ _ _ _ _ _ _ _ (H.keep [1, 2, 5, 47, 48, 49] rfl) s)))))))))))))))))))) (fun s => c_exit (k_seq_exit (k_loop_exit (k_block_eq (k_block (k_seq (p67_64_ok hc hK (H.keep [2, 5] rfl) s))))))))))))
def l67_42 (call : CallFn) (n : Nat) : Nat → AV → AV → AV → AV → AV → AV → AHeap → Kont → Bool
  | 0 => fun _ _ _ _ _ _ _ _ => false
  | m + 1 => fun x1 x2 x5 x47 x48 x49 h K => b67_42 call n (fun x1 x2 x5 x47 x48 x49 h => l67_42 call n m x1 x2 x5 x47 x48 x49 h K) x1 x2 x5 x47 x48 x49 h K
theorem l67_42_ok (hc : Le call call') (hK : KLe K K') : ∀ (m : Nat) (x1 x2 x5 x47 x48 x49 : AV) (h : AHeap) (ρ : Regs), Has ρ [(1, x1), (2, x2), (5, x5), (47, x47), (48, x48), (49, x49)] → l67_42 call n m x1 x2 x5 x47 x48 x49 h K = true → iter (runC call' n c67_43) (k67_2 call' n K') m ⟨ρ, h⟩ = true
  | 0, _, _, _, _, _, _, _, _, _, s => nomatch s
  | m + 1, _, _, _, _, _, _, _, _, H, s => c_round (b67_42_ok hc hK (fun x1 x2 x5 x47 x48 x49 h ρ H s => l67_42_ok hc hK m x1 x2 x5 x47 x48 x49 h ρ H s) H s)
def p67_39 (call : CallFn) (n : Nat) (x1 x2 x5 : AV) (h : AHeap) (K : Kont) : Bool :=
  optB (fadrA 4 x2) fun v70 => optB (loadA h false 1 v70) fun v71 => optB (lenA h 1 v71) fun v72 => l67_42 call n n x1 x2 x5 v71 v72 (.int .i64 0) h K
theorem p67_39_ok (hc : Le call call') (hK : KLe K K') (H : Has ρ [(1, x1), (2, x2), (5, x5)]) (s : p67_39 call n x1 x2 x5 h K = true) : runC call' n c67_39 ⟨ρ, h⟩ (k67_1 call' n K') = true :=
  c_seq (c_reg (q_pure H rfl s fun _ s H => q_pure H rfl s fun _ s H => q_pure H rfl s fun _ s H => q_mv H rfl fun H => r_nil (k_seq (c_block (c_loop (l67_42_ok hc hK n _ _ _ _ _ _ _ _ (H.keep [1, 2, 5, 47, 48, 49] rfl) s))))))
set_option maxRecDepth 100000 in
def s67 (call : CallFn) (n : Nat) (x0 x1 : AV) (h : AHeap) (K : Kont) : Bool :=
  optP (boxA h 5 x0) fun v1 h => optB (fadrA 0 v1) fun v2 => optB (loadA h false 1 v2) fun v3 => optB (buildV [.int .i64 0, .bool false, .int .i64 0, .str [], .nilSlc] [(0, 1, v3)]) fun v4 => optP (allocV h [.int .i64 0, .bool false, .int .i64 0, .str [], .nilSlc]) fun v5 h => optP (unit (storeA h 5 v5 v4)) fun _ h => optB (fadrA 0 v1) fun v7 => optB (loadA h false 1 v7) fun v8 => optB (binA .eql v8 (.int .i64 0)) fun v9 => condB v9 (p67_64 call n v1 v5 h K) (optB (binA .eql v8 (.int .i64 1)) fun v42 => condB v42 (optB (fadrA 1 v1) fun v43 => optB (loadA h false 1 v43) fun v44 => optB (fadrA 1 v5) fun v45 => optP (unit (storeA h 1 v45 v44)) fun _ h => p67_64 call n v1 v5 h K) (optB (binA .eql v8 (.int .i64 2)) fun v47 => condB v47 (optB (fadrA 2 v1) fun v48 => optB (loadA h false 1 v48) fun v49 => optB (fadrA 2 v5) fun v50 => optP (unit (storeA h 1 v50 v49)) fun _ h => p67_64 call n v1 v5 h K) (optB (binA .eql v8 (.int .i64 5)) fun v52 => condB v52 (optB (fadrA 2 v1) fun v53 => optB (loadA h false 1 v53) fun v54 => optB (mmV true [v54, (.int .i64 1)]) fun v55 => optB (fadrA 2 v5) fun v56 => optP (unit (storeA h 1 v56 v55)) fun _ h => p67_64 call n v1 v5 h K) (optB (binA .eql v8 (.int .i64 3)) fun v58 => condB v58 (optB (fadrA 3 v1) fun v59 => optB (loadA h false 1 v59) fun v60 => optB (fadrA 3 v5) fun v61 => optP (unit (storeA h 1 v61 v60)) fun _ h => p67_64 call n v1 v5 h K) (optB (binA .eql v8 (.int .i64 4)) fun v63 => condB v63 (optB (binA .geq x1 (.int .i64 30)) fun v64 => optB (grdO (wantV v64 false) (fadrA 4 v1)) fun v65 => optB (grdO (wantV v64 false) (loadA h false 1 v65)) fun v66 => optB (grdO (wantV v64 false) (lenA h 1 v66)) fun v67 => optB (grdO (wantV v64 false) (binA .gtr v67 (.int .i64 4096))) fun v68 => optB (pickV v64 (.bool true) v68) fun v69 => condB v69 (K (.bool false) h) (p67_39 call n x1 v1 v5 h K)) (K (.bool false) h))))))
set_option maxRecDepth 100000 in
theorem s67_ok (hc : Le call call') (hK : KLe K K') (H : Has ρ [(1, x1), (0, x0)]) (s : s67 call n x0 x1 h K = true) : runC call' n A67.body ⟨ρ, h⟩ (finK A67.res K') = true :=
  c_seq (c_reg (q_heap H rfl s fun _ _ s H => q_mv H rfl fun H => r_nil (k_seq (c_seq (c_reg (q_pure H rfl s fun _ s H => q_pure H rfl s fun _ s H => q_pure H rfl s fun _ s H => q_heap H rfl s fun _ _ s H => q_heap0 H rfl s fun _ _ s H => r_nil (k_seq (c_seq (c_seq (c_reg (q_pure H rfl s fun _ s H => q_pure H rfl s fun _ s H => r_nil (k_seq (c_block (c_seq (c_reg (q_pure H rfl s fun _ s H => q_mv H rfl fun H => r_nil (k_seq (c_cond H rfl s (fun s => c_skip (k_block (k_seq (p67_64_ok hc hK (H.keep [2, 5] rfl) s)))) (fun s => c_seq (c_reg (q_pure H rfl s fun _ s H => q_mv H rfl fun H => r_nil (k_seq (c_cond H rfl s (fun s => c_reg (q_pure H rfl s fun _ s H => q_pure H rfl s fun _ s H => q_pure H rfl s fun _ s H => q_heap0 H rfl s fun _ _ s H => r_nil (k_block (k_seq (p67_64_ok hc hK (H.keep [2, 5] rfl) s))))) (fun s => c_seq (c_reg (q_pure H rfl s fun _ s H => q_mv H rfl fun H => r_nil (k_seq (c_cond H rfl s (fun s => c_reg (q_pure H rfl s fun _ s H => q_pure H rfl s fun _ s H => q_pure H rfl s fun _ s H => q_heap0 H rfl s fun _ _ s H => r_nil (k_block (k_seq (p67_64_ok hc hK (H.keep [2, 5] rfl) s))))) (fun s => c_seq (c_reg (q_pure H rfl s fun _ s H => q_mv H rfl fun H => r_nil (k_seq (c_cond H rfl s (fun s => c_reg (q_pure H rfl s fun _ s H => q_pure H rfl s fun _ s H => q_pure H rfl s fun _ s H => q_pure H rfl s fun _ s H => q_heap0 H rfl s fun _ _ s H => r_nil (k_block (k_seq (p67_64_ok hc hK (H.keep [2, 5] rfl) s))))) (fun s => c_seq (c_reg (q_pure H rfl s fun _ s H => q_mv H rfl fun H => r_nil (k_seq (c_cond H rfl s (fun s => c_reg (q_pure H rfl s fun _ s H => q_pure H rfl s fun _ s H => q_pure H rfl s fun _ s H => q_heap0 H rfl s fun _ _ s H => r_nil (k_block (k_seq (p67_64_ok hc hK (H.keep [2, 5] rfl) s))))) (fun s => c_seq (c_reg (q_pure H rfl s fun _ s H => q_mv H rfl fun H => r_nil (k_seq (c_cond H rfl s (fun s => c_seq (c_seq (c_reg (q_mv H rfl fun H => q_pure H rfl s fun _ s H => q_mv H rfl fun H => qgstep_pure H rfl rfl s fun _ s H => qgstep_pure H rfl rfl s fun _ s H => qgstep_pure H rfl rfl s fun _ s H => qgstep_pure H rfl rfl s fun _ s H => q_pure H rfl s fun _ s H => r_nil (k_seq (c_cond H rfl s (fun s => c_seq (c_reg (q_mv H rfl fun H => r_nil (k_seq (c_ret (k_seq_ret (k_block_ret (k_seq_ret (fin_ret H rfl hK s))))))))) (fun s => c_skip (k_seq (p67_39_ok hc hK (H.keep [1, 2, 5] rfl) s))))))))) (fun s => c_seq (c_reg (q_mv H rfl fun H => r_nil (k_seq (c_ret (k_block_ret (k_seq_ret (fin_ret H rfl hK s)))))))))))))))))))))))))))))))))))))))))))))))))))
def w67 : Sh := fun call n args h K => match args with
  | [x0, x1] => s67 call n x0 x1 h K
  | _ => false
theorem w67_ok {E : Env} (e : E.code 67 = some A67) : ShOK E 67 w67 := fun call call' n args h K K' hc hK s =>
  match args, s with
  | [x0, x1], s => ⟨A67, e, rfl, s67_ok hc hK ((Has.nil.set 0 x0).set 1 x1) s⟩
  | [], s => nomatch s
  | [_], s => nomatch s
  | _ :: _ :: _ :: _, s => nomatch s
def b68_32 (call : CallFn) (n : Nat) (B32 : F4) (x0 x52 x53 x54 : AV) (h : AHeap) (K : Kont) : Bool :=
  optB (binA .lss x54 x53) fun v39 => condB v39 (optB (iadrA h 5 x52 x54) fun v40 => optB (loadA h true 5 v40) fun v41 => optP (allocV h [.int .i64 0, .bool false, .int .i64 0, .str [], .nilSlc]) fun v42 h => optP (unit (storeA h 5 v42 v41)) fun _ h => optB (loadA h true 5 v42) fun v44 => call (.func 68) [x0, v44] h fun v45 h => optB (binA .add x54 (.int .i64 1)) fun v46 => B32 v45 x52 x53 v46 h) (K x0 h)
abbrev k68_0 (call' : CallFn) (n : Nat) (K' : Kont) := seqK call' n c68_46 (finK A68.res K')
abbrev k68_1 (call' : CallFn) (n : Nat) (K' : Kont) := blockK 0 (k68_0 call' n K')
abbrev k68_2 (call' : CallFn) (n : Nat) (K' : Kont) := blockK 1 (k68_1 call' n K')
abbrev H68_32 (call' : CallFn) (n : Nat) (K' : Kont) (m : Nat) (B : F4) : Prop := ∀ (x0 x52 x53 x54 : AV) (h : AHeap) (ρ : Regs), Has ρ [(0, x0), (52, x52), (53, x53), (54, x54)] → B x0 x52 x53 x54 h = true → iter (runC call' n c68_33) (k68_2 call' n K') m ⟨ρ, h⟩ = true
abbrev k68_3 (call' : CallFn) (n : Nat) (K' : Kont) (m32 : Nat) := loopK call' n c68_33 (k68_2 call' n K') m32
theorem b68_32_ok (hc : Le call call') (hK : KLe K K') {m32 : Nat} {B32 : F4} (hB32 : H68_32 call' n K' m32 B32) (H : Has ρ [(0, x0), (52, x52), (53, x53), (54, x54)]) (s : b68_32 call n B32 x0 x52 x53 x54 h K = true) : runC call' n c68_33 ⟨ρ, h⟩ (k68_3 call' n K' m32) = true :=
  c_seq (c_reg (q_pure H rfl s fun _ s H => r_nil (k_seq (c_seq (c_cond H rfl s (fun s => c_skip (k_seq (c_seq (c_block (c_seq (c_reg (q_pure H rfl s fun _ s H => q_pure H rfl s fun _ s H => q_heap H rfl s fun _ _ s H => q_heap0 H rfl s fun _ _ s H => r_nil (k_seq (c_reg (q_mv H rfl fun H => q_pure H rfl s fun _ s H => q_call hc H rfl s fun _ _ s H => q_mv H rfl fun H => r_nil (k_block (k_seq (c_reg (q_pure H rfl s fun _ s H => q_mv H rfl fun H => r_nil (k_loop (hB32 _ _ _ _ _ _ (H.keep [0, 52, 53, 54] rfl) s)))))))))))))))) (fun s => c_exit (k_seq_exit (k_loop_exit (k_block_eq (k_block (k_seq (c_seq (c_reg (q_mv H rfl fun H => q_mv H rfl fun H => r_nil (k_seq (c_ret (fin_ret H rfl hK s)))))))))))))))))
def l68_32 (call : CallFn) (n : Nat) : Nat → AV → AV → AV → AV → AHeap → Kont → Bool
  | 0 => fun _ _ _ _ _ _ => false
  | m + 1 => fun x0 x52 x53 x54 h K => b68_32 call n (fun x0 x52 x53 x54 h => l68_32 call n m x0 x52 x53 x54 h K) x0 x52 x53 x54 h K
theorem l68_32_ok (hc : Le call call') (hK : KLe K K') : ∀ (m : Nat) (x0 x52 x53 x54 : AV) (h : AHeap) (ρ : Regs), Has ρ [(0, x0), (52, x52), (53, x53), (54, x54)] → l68_32 call n m x0 x52 x53 x54 h K = true → iter (runC call' n c68_33) (k68_2 call' n K') m ⟨ρ, h⟩ = true
  | 0, _, _, _, _, _, _, _, s => nomatch s
  | m + 1, _, _, _, _, _, _, H, s => c_round (b68_32_ok hc hK (fun x0 x52 x53 x54 h ρ H s => l68_32_ok hc hK m x0 x52 x53 x54 h ρ H s) H s)
def p68_18 (call : CallFn) (n : Nat) (x0 x3 x14 x24 : AV) (h : AHeap) (K : Kont) : Bool :=
  condB x24 (optB (fadrA 2 x3) fun v17 => optB (loadA h false 1 v17) fun v18 => optB (convA .u64 v18) fun v19 => call (.func 89) [x0, v19, (.int .i64 8)] h fun v20 h => K v20 h) (optB (binA .eql x14 (.int .i64 3)) fun v21 => condB v21 (optB (fadrA 3 x3) fun v22 => optB (loadA h false 1 v22) fun v23 => optB (lenA h 0 v23) fun v24 => optB (convA .u64 v24) fun v25 => optB (fadrA 3 x3) fun v26 => optB (loadA h false 1 v26) fun v27 => call (.func 89) [x0, v25, (.int .i64 4)] h fun v28 h => sameB (loadA h false 1 v26) v27 <| optP (appendA h 1 1 v28 v27) fun v29 h => K v29 h) (optB (binA .eql x14 (.int .i64 4)) fun v30 => condB v30 (optB (fadrA 4 x3) fun v31 => optB (loadA h false 1 v31) fun v32 => optB (lenA h 1 v32) fun v33 => optB (convA .u64 v33) fun v34 => call (.func 89) [x0, v34, (.int .i64 4)] h fun v35 h => optB (fadrA 4 x3) fun v36 => optB (loadA h false 1 v36) fun v37 => optB (lenA h 1 v37) fun v38 => l68_32 call n n v35 v37 v38 (.int .i64 0) h K) (K x0 h)))
set_option maxRecDepth 100000 in
theorem p68_18_ok (hc : Le call call') (hK : KLe K K') (H : Has ρ [(0, x0), (3, x3), (14, x14), (24, x24)]) (s : p68_18 call n x0 x3 x14 x24 h K = true) : runC call' n c68_18 ⟨ρ, h⟩ (k68_1 call' n K') = true :=
  c_cond H rfl s (fun s => c_reg (q_mv H rfl fun H => q_pure H rfl s fun _ s H => q_pure H rfl s fun _ s H => q_pure H rfl s fun _ s H => q_call hc H rfl s fun _ _ s H => q_mv H rfl fun H => r_nil (k_block (k_seq (c_seq (c_reg (q_mv H rfl fun H => q_mv H rfl fun H => r_nil (k_seq (c_ret (fin_ret H rfl hK s)))))))))) (fun s => c_seq (c_reg (q_pure H rfl s fun _ s H => q_mv H rfl fun H => r_nil (k_seq (c_cond H rfl s (fun s => c_dreg (c_m H rfl fun H => c_p H rfl s fun _ s H => c_p H rfl s fun _ s H => c_p H rfl s fun _ s H => c_p H rfl s fun _ s H => c_p H rfl s fun _ s H => c_p H rfl s fun _ s H => calc_nil (d_cons (step_call hc H rfl s fun _ _ s H => dk (a_s H rfl rfl s fun s => again_nil (calc_nil (d_cons (step_heap H rfl s fun _ _ s H => dk (again_nil (calc_nil (d_cons (step_mv H rfl fun H => dk (again_nil (calc_nil (d_nil (k_block (k_seq (c_seq (c_reg (q_mv H rfl fun H => q_mv H rfl fun H => r_nil (k_seq (c_ret (fin_ret H rfl hK s))))))))))))))))))))))) (fun s => c_seq (c_reg (q_pure H rfl s fun _ s H => q_mv H rfl fun H => r_nil (k_seq (c_cond H rfl s (fun s => c_seq (c_reg (q_mv H rfl fun H => q_pure H rfl s fun _ s H => q_pure H rfl s fun _ s H => q_pure H rfl s fun _ s H => q_pure H rfl s fun _ s H => q_call hc H rfl s fun _ _ s H => q_mv H rfl fun H => r_nil (k_seq (c_seq (c_reg (q_pure H rfl s fun _ s H => q_pure H rfl s fun _ s H => q_pure H rfl s fun _ s H => q_mv H rfl fun H => r_nil (k_seq (c_block (c_loop (l68_32_ok hc hK n _ _ _ _ _ _ (H.keep [0, 52, 53, 54] rfl) s))))))))))) (fun s => c_skip (k_block (k_seq (c_seq (c_reg (q_mv H rfl fun H => q_mv H rfl fun H => r_nil (k_seq (c_ret (fin_ret H rfl hK s)))))))))))))))))))
def s68 (call : CallFn) (n : Nat) (x0 x1 : AV) (h : AHeap) (K : Kont) : Bool :=
  optP (boxA h 5 x1) fun v1 h => optB (fadrA 0 v1) fun v2 => optB (loadA h false 1 v2) fun v3 => optB (convA .u8 v3) fun v4 => optP (bsliceV h 1 1 [.int .u8 0] [(0, v4)]) fun v5 h => optP (appbA h 5 x0 v5) fun v6 h => optB (fadrA 0 v1) fun v7 => optB (loadA h false 1 v7) fun v8 => optB (binA .eql v8 (.int .i64 1)) fun v9 => condB v9 (optB (fadrA 1 v1) fun v10 => optB (loadA h false 1 v10) fun v11 => call (.func 88) [v11] h fun v12 h => optB (convA .u8 v12) fun v13 => optP (bsliceV h 1 1 [.int .u8 0] [(0, v13)]) fun v14 h => optP (appbA h 5 v6 v14) fun v15 h => K v15 h) (optB (binA .eql v8 (.int .i64 2)) fun v16 => condB v16 (p68_18 call n v6 v1 v8 v16 h K) (optB (binA .eql v8 (.int .i64 5)) fun v47 => p68_18 call n v6 v1 v8 v47 h K))
theorem s68_ok (hc : Le call call') (hK : KLe K K') (H : Has ρ [(1, x1), (0, x0)]) (s : s68 call n x0 x1 h K = true) : runC call' n A68.body ⟨ρ, h⟩ (finK A68.res K') = true :=
  c_seq (c_reg (q_heap H rfl s fun _ _ s H => q_mv H rfl fun H => r_nil (k_seq (c_seq (c_reg (q_mv H rfl fun H => q_pure H rfl s fun _ s H => q_pure H rfl s fun _ s H => q_pure H rfl s fun _ s H => q_heap H rfl s fun _ _ s H => q_heap H rfl s fun _ _ s H => q_mv H rfl fun H => r_nil (k_seq (c_seq (c_seq (c_reg (q_pure H rfl s fun _ s H => q_pure H rfl s fun _ s H => r_nil (k_seq (c_block (c_seq (c_reg (q_pure H rfl s fun _ s H => q_mv H rfl fun H => r_nil (k_seq (c_cond H rfl s (fun s => c_reg (q_mv H rfl fun H => q_pure H rfl s fun _ s H => q_pure H rfl s fun _ s H => q_call hc H rfl s fun _ _ s H => q_pure H rfl s fun _ s H => q_heap H rfl s fun _ _ s H => q_heap H rfl s fun _ _ s H => q_mv H rfl fun H => r_nil (k_block (k_seq (c_seq (c_reg (q_mv H rfl fun H => q_mv H rfl fun H => r_nil (k_seq (c_ret (fin_ret H rfl hK s)))))))))) (fun s => c_seq (c_seq (c_reg (q_pure H rfl s fun _ s H => q_mv H rfl fun H => r_nil (k_seq (c_cond H rfl s (fun s => c_skip (k_seq (p68_18_ok hc hK (H.keep [0, 3, 14, 24] rfl) s))) (fun s => c_reg (q_pure H rfl s fun _ s H => q_mv H rfl fun H => r_nil (k_seq (p68_18_ok hc hK (H.keep [0, 3, 14, 24] rfl) s))))))))))))))))))))))))))))
def w68 : Sh := fun call n args h K => match args with
  | [x0, x1] => s68 call n x0 x1 h K
  | _ => false
theorem w68_ok {E : Env} (e : E.code 68 = some A68) : ShOK E 68 w68 := fun call call' n args h K K' hc hK s =>
  match args, s with
  | [x0, x1], s => ⟨A68, e, rfl, s68_ok hc hK ((Has.nil.set 0 x0).set 1 x1) s⟩
  | [], s => nomatch s
  | [_], s => nomatch s
  | _ :: _ :: _ :: _, s => nomatch s
def b69_3 (call : CallFn) (n : Nat) (B3 : F3) (x0 x1 x3 : AV) (h : AHeap) (K : Kont) : Bool :=
  optB (binA .geq x3 (.int .i64 0)) fun v1 => condB v1 (optB (loadA h false 1 x1) fun v2 => optB (binA .mul (.int .i64 8) x3) fun v3 => optB (binA .shr x0 v3) fun v4 => optB (convA .u8 v4) fun v5 => optP (bsliceV h 1 1 [.int .u8 0] [(0, v5)]) fun v6 h => sameB (loadA h false 1 x1) v2 <| optP (appbA h 5 v2 v6) fun v7 h => optP (unit (storeA h 1 x1 v7)) fun _ h => optB (binA .sub x3 (.int .i64 1)) fun v9 => B3 x0 x1 v9 h) (K (.tup []) h)
abbrev k69_0 (call' : CallFn) (n : Nat) (K' : Kont) := blockK 0 (finK A69.res K')
abbrev H69_3 (call' : CallFn) (n : Nat) (K' : Kont) (m : Nat) (B : F3) : Prop := ∀ (x0 x1 x3 : AV) (h : AHeap) (ρ : Regs), Has ρ [(0, x0), (1, x1), (3, x3)] → B x0 x1 x3 h = true → iter (runC call' n c69_4) (k69_0 call' n K') m ⟨ρ, h⟩ = true
abbrev k69_1 (call' : CallFn) (n : Nat) (K' : Kont) (m3 : Nat) := loopK call' n c69_4 (k69_0 call' n K') m3
theorem b69_3_ok (hc : Le call call') (hK : KLe K K') {m3 : Nat} {B3 : F3} (hB3 : H69_3 call' n K' m3 B3) (H : Has ρ [(0, x0), (1, x1), (3, x3)]) (s : b69_3 call n B3 x0 x1 x3 h K = true) : runC call' n c69_4 ⟨ρ, h⟩ (k69_1 call' n K' m3) = true :=
  c_seq (c_seq (c_reg (q_mv H rfl fun H => q_pure H rfl s fun _ s H => r_nil (k_seq (c_cond H rfl s (fun s => c_skip (k_seq (c_seq (c_block (c_dreg (c_p H rfl s fun _ s H => c_m H rfl fun H => c_m H rfl fun H => c_p H rfl s fun _ s H => c_p H rfl s fun _ s H => c_p H rfl s fun _ s H => calc_nil (d_cons (step_heap H rfl s fun _ _ s H => dk (a_s H rfl rfl s fun s => again_nil (calc_nil (d_cons (step_heap H rfl s fun _ _ s H => dk (again_nil (calc_nil (d_cons (step_heap0 H rfl s fun _ _ s H => dk (again_nil (calc_nil (d_nil (k_block (k_seq (c_reg (q_mv H rfl fun H => q_pure H rfl s fun _ s H => q_mv H rfl fun H => r_nil (k_loop (hB3 _ _ _ _ _ (H.keep [0, 1, 3] rfl) s))))))))))))))))))))))))) (fun s => c_exit (k_seq_exit (k_loop_exit (k_block_eq (fin_normal H rfl hK s))))))))))
def l69_3 (call : CallFn) (n : Nat) : Nat → AV → AV → AV → AHeap → Kont → Bool
  | 0 => fun _ _ _ _ _ => false
  | m + 1 => fun x0 x1 x3 h K => b69_3 call n (fun x0 x1 x3 h => l69_3 call n m x0 x1 x3 h K) x0 x1 x3 h K
theorem l69_3_ok (hc : Le call call') (hK : KLe K K') : ∀ (m : Nat) (x0 x1 x3 : AV) (h : AHeap) (ρ : Regs), Has ρ [(0, x0), (1, x1), (3, x3)] → l69_3 call n m x0 x1 x3 h K = true → iter (runC call' n c69_4) (k69_0 call' n K') m ⟨ρ, h⟩ = true
  | 0, _, _, _, _, _, _, s => nomatch s
  | m + 1, _, _, _, _, _, H, s => c_round (b69_3_ok hc hK (fun x0 x1 x3 h ρ H s => l69_3_ok hc hK m x0 x1 x3 h ρ H s) H s)
def s69 (call : CallFn) (n : Nat) (x0 x1 : AV) (h : AHeap) (K : Kont) : Bool :=
  l69_3 call n n x0 x1 (.int .i64 7) h K
theorem s69_ok (hc : Le call call') (hK : KLe K K') (H : Has ρ [(1, x1), (0, x0)]) (s : s69 call n x0 x1 h K = true) : runC call' n A69.body ⟨ρ, h⟩ (finK A69.res K') = true :=
  c_seq (c_reg (q_mv H rfl fun H => r_nil (k_seq (c_block (c_loop (l69_3_ok hc hK n _ _ _ _ _ (H.keep [0, 1, 3] rfl) s))))))
def w69 : Sh := fun call n args h K => match args with
  | [x0, x1] => s69 call n x0 x1 h K
  | _ => false
theorem w69_ok {E : Env} (e : E.code 69 = some A69) : ShOK E 69 w69 := fun call call' n args h K K' hc hK s =>
  match args, s with
  | [x0, x1], s => ⟨A69, e, rfl, s69_ok hc hK ((Has.nil.set 0 x0).set 1 x1) s⟩
  | [], s => nomatch s
  | [_], s => nomatch s
  | _ :: _ :: _ :: _, s => nomatch s
def s88 (call : CallFn) (n : Nat) (x0 : AV) (h : AHeap) (K : Kont) : Bool :=
  condB x0 (K (.int .i64 1) h) (K (.int .i64 0) h)
theorem s88_ok (hc : Le call call') (hK : KLe K K') (H : Has ρ [(0, x0)]) (s : s88 call n x0 h K = true) : runC call' n A88.body ⟨ρ, h⟩ (finK A88.res K') = true :=
  c_seq (c_reg (q_mv H rfl fun H => r_nil (k_seq (c_seq (c_seq (c_reg (q_mv H rfl fun H => r_nil (k_seq (c_cond H rfl s (fun s => c_seq (c_reg (q_mv H rfl fun H => r_nil (k_seq (c_ret (k_seq_ret (fin_ret H rfl hK s))))))) (fun s => c_skip (k_seq (c_seq (c_reg (q_mv H rfl fun H => r_nil (k_seq (c_ret (fin_ret H rfl hK s)))))))))))))))))
def w88 : Sh := fun call n args h K => match args with
  | [x0] => s88 call n x0 h K
  | _ => false
theorem w88_ok {E : Env} (e : E.code 88 = some A88) : ShOK E 88 w88 := fun call call' n args h K K' hc hK s =>
  match args, s with
  | [x0], s => ⟨A88, e, rfl, s88_ok hc hK (Has.nil.set 0 x0) s⟩
  | [], s => nomatch s
  | _ :: _ :: _, s => nomatch s
def b89_6 (call : CallFn) (n : Nat) (B6 : F3) (x0 x1 x7 : AV) (h : AHeap) (K : Kont) : Bool :=
  optB (binA .geq x7 (.int .i64 0)) fun v2 => condB v2 (optB (binA .mul (.int .i64 8) x7) fun v3 => optB (binA .shr x1 v3) fun v4 => optB (convA .u8 v4) fun v5 => optP (bsliceV h 1 1 [.int .u8 0] [(0, v5)]) fun v6 h => optP (appbA h 5 x0 v6) fun v7 h => optB (binA .sub x7 (.int .i64 1)) fun v8 => B6 v7 x1 v8 h) (K x0 h)
abbrev k89_0 (call' : CallFn) (n : Nat) (K' : Kont) := seqK call' n c89_17 (finK A89.res K')
abbrev k89_1 (call' : CallFn) (n : Nat) (K' : Kont) := blockK 0 (k89_0 call' n K')
abbrev H89_6 (call' : CallFn) (n : Nat) (K' : Kont) (m : Nat) (B : F3) : Prop := ∀ (x0 x1 x7 : AV) (h : AHeap) (ρ : Regs), Has ρ [(0, x0), (1, x1), (7, x7)] → B x0 x1 x7 h = true → iter (runC call' n c89_7) (k89_1 call' n K') m ⟨ρ, h⟩ = true
abbrev k89_2 (call' : CallFn) (n : Nat) (K' : Kont) (m6 : Nat) := loopK call' n c89_7 (k89_1 call' n K') m6
theorem b89_6_ok (hc : Le call call') (hK : KLe K K') {m6 : Nat} {B6 : F3} (hB6 : H89_6 call' n K' m6 B6) (H : Has ρ [(0, x0), (1, x1), (7, x7)]) (s : b89_6 call n B6 x0 x1 x7 h K = true) : runC call' n c89_7 ⟨ρ, h⟩ (k89_2 call' n K' m6) = true :=
  c_seq (c_seq (c_reg (q_mv H rfl fun H => q_pure H rfl s fun _ s H => r_nil (k_seq (c_cond H rfl s (fun s => c_skip (k_seq (c_seq (c_block (c_reg (q_mv H rfl fun H => q_mv H rfl fun H => q_mv H rfl fun H => q_pure H rfl s fun _ s H => q_pure H rfl s fun _ s H => q_pure H rfl s fun _ s H => q_heap H rfl s fun _ _ s H => q_heap H rfl s fun _ _ s H => q_mv H rfl fun H => r_nil (k_block (k_seq (c_reg (q_mv H rfl fun H => q_pure H rfl s fun _ s H => q_mv H rfl fun H => r_nil (k_loop (hB6 _ _ _ _ _ (H.keep [0, 1, 7] rfl) s)))))))))))) (fun s => c_exit (k_seq_exit (k_loop_exit (k_block_eq (k_seq (c_seq (c_reg (q_mv H rfl fun H => q_mv H rfl fun H => r_nil (k_seq (c_ret (fin_ret H rfl hK s))))))))))))))))
def l89_6 (call : CallFn) (n : Nat) : Nat → AV → AV → AV → AHeap → Kont → Bool
  | 0 => fun _ _ _ _ _ => false
  | m + 1 => fun x0 x1 x7 h K => b89_6 call n (fun x0 x1 x7 h => l89_6 call n m x0 x1 x7 h K) x0 x1 x7 h K
theorem l89_6_ok (hc : Le call call') (hK : KLe K K') : ∀ (m : Nat) (x0 x1 x7 : AV) (h : AHeap) (ρ : Regs), Has ρ [(0, x0), (1, x1), (7, x7)] → l89_6 call n m x0 x1 x7 h K = true → iter (runC call' n c89_7) (k89_1 call' n K') m ⟨ρ, h⟩ = true
  | 0, _, _, _, _, _, _, s => nomatch s
  | m + 1, _, _, _, _, _, H, s => c_round (b89_6_ok hc hK (fun x0 x1 x7 h ρ H s => l89_6_ok hc hK m x0 x1 x7 h ρ H s) H s)
def s89 (call : CallFn) (n : Nat) (x0 x1 x2 : AV) (h : AHeap) (K : Kont) : Bool :=
  optB (binA .sub x2 (.int .i64 1)) fun v1 => l89_6 call n n x0 x1 v1 h K
theorem s89_ok (hc : Le call call') (hK : KLe K K') (H : Has ρ [(2, x2), (1, x1), (0, x0)]) (s : s89 call n x0 x1 x2 h K = true) : runC call' n A89.body ⟨ρ, h⟩ (finK A89.res K') = true :=
  c_seq (c_reg (q_mv H rfl fun H => r_nil (k_seq (c_seq (c_seq (c_reg (q_mv H rfl fun H => q_pure H rfl s fun _ s H => q_mv H rfl fun H => r_nil (k_seq (c_block (c_loop (l89_6_ok hc hK n _ _ _ _ _ (H.keep [0, 1, 7] rfl) s)))))))))))
def w89 : Sh := fun call n args h K => match args with
  | [x0, x1, x2] => s89 call n x0 x1 x2 h K
  | _ => false
theorem w89_ok {E : Env} (e : E.code 89 = some A89) : ShOK E 89 w89 := fun call call' n args h K K' hc hK s =>
  match args, s with
  | [x0, x1, x2], s => ⟨A89, e, rfl, s89_ok hc hK (((Has.nil.set 0 x0).set 1 x1).set 2 x2) s⟩
  | [], s => nomatch s
  | [_], s => nomatch s
  | [_, _], s => nomatch s
  | _ :: _ :: _ :: _ :: _, s => nomatch s
end Go.Proofs.Ytbamgdknkhhikaa
namespace Go.Ab
set_option linter.unusedSimpArgs false
set_option linter.unusedVariables false
def PT.mapT {α : Type} (f : α → α) : PT α → PT α
  | .lf => .lf
  | .nd l v r => .nd (PT.mapT f l) (v.map f) (PT.mapT f r)
theorem PT.get_mapT {α : Type} (f : α → α) : ∀ (t : PT α) (n : Nat), (PT.mapT f t).get n = (t.get n).map f
  | .lf, n => rfl
  | .nd l v r, 0 => rfl
  | .nd l v r, k + 1 => by
    simp only [PT.mapT, PT.get]
    cases Nat.beq (Nat.mod k 2) 0 with
    | true => simp only [cond_true]; exact PT.get_mapT f l _
    | false => simp only [cond_false]; exact PT.get_mapT f r _
def frzO : AObj → AObj
  | .row r => .row { r with rw := false }
  | .map es c => .rmap es c
  | .rmap es c => .rmap es c
  | _ => .dead
def AHeap.frz (h : AHeap) : AHeap := { h with t := PT.mapT frzO h.t }
theorem AHeap.get_frz (h : AHeap) (id : Nat) : h.frz.get id = (h.get id).map frzO := PT.get_mapT _ _ _
theorem AHeap.row_frz {h : AHeap} {id : Nat} {r : Row} (e : h.row id = some r) : h.frz.row id = some { r with rw := false } := by
  rw [AHeap.row_some] at *
  rw [AHeap.get_frz, e]; rfl
theorem AHeap.Ok.frz {h : AHeap} (k : h.Ok) : h.frz.Ok := fun id hid => by rw [AHeap.get_frz, k id hid]; rfl
theorem RelO.frz {P : Program} {φ : Phi} {id : Nat} {o : AObj} {w : World} (h : RelO P φ id o w) : RelO P φ id (frzO o) w := by
  cases o with
  | row r => exact ⟨h.mg, h.sz, h.es, h.leaf, h.cur, h.gen, h.cells, (fun e => by cases e), (fun _ _ e => by cases e)⟩
  | map es c => exact h
  | rmap es c => exact h
  | iter m s l p => trivial
  | loop l => trivial
  | gone => trivial
  | dead => trivial
theorem own_frz (o : AObj) : (frzO o).own = false := by cases o <;> rfl
theorem RelH.frz {P : Program} {B : Base} {φ : Phi} {h : AHeap} {w : World} (H : RelH P B φ h w) : RelH P ⟨w.heap.size, fun id => (B.gh id).map frzO⟩ φ h.frz w := by
  refine ⟨Nat.le_refl _, H.dom, fun id hid => ?_, fun id hid => ?_, fun id o ho hd => ?_, H.lt, fun id o g L ho hL => ?_, fun id o id' g g' L L' ho hown _ _ _ => ?_, H.nodef, fun id o e => ?_⟩
  · obtain ⟨o, ho⟩ := H.there id hid
    exact ⟨frzO o, by rw [AHeap.get_frz, ho]; rfl⟩
  · rw [AHeap.get_frz, H.gone id hid]; rfl
  · rw [AHeap.get_frz] at ho
    cases hg : h.get id with
    | none => rw [hg] at ho; cases ho
    | some o' =>
      rw [hg] at ho
      cases ho
      refine (H.objn id o' hg ?_).frz
      cases hb : B.gh id with
      | none => rfl
      | some u => simp [hb] at hd
  · rw [AHeap.get_frz] at ho
    cases hg : h.get id with
    | none => rw [hg] at ho; cases ho
    | some o' =>
      rw [hg] at ho
      cases ho
      exact ⟨(fun e => by rw [own_frz] at e; cases e), fun _ => H.lt id g L hL⟩
  · rw [AHeap.get_frz] at ho
    cases hg : h.get id with
    | none => rw [hg] at ho; cases ho
    | some o' =>
      rw [hg] at ho
      cases ho
      rw [own_frz] at hown; cases hown
  · cases hb : B.gh id with
    | none => simp [hb] at e
    | some u =>
      simp only [hb, Option.map_some, Option.some.injEq] at e
      subst e
      obtain ⟨h1, h2⟩ := H.ghost id u hb
      exact ⟨by rw [AHeap.get_frz, h1]; rfl, h2⟩
theorem Gw.grown {w w' : World} (g : Gw w.heap.size w w') : ∃ q os, w' = Go.Sort.grow (w.drewN q) os := by
  refine ⟨w'.drawn - w.drawn, w'.heap.extract w.heap.size w'.heap.size, ?_⟩
  have h1 := g.os
  have h2 := g.tape
  have h3 := g.output
  have h4 := g.drawn
  have h5 : w'.heap = w.heap ++ w'.heap.extract w.heap.size w'.heap.size := by
    apply Array.ext_getElem?
    intro k
    have hs := g.size
    by_cases hk : k < w.heap.size
    · rw [g.below k hk, Array.getElem?_append_left hk]
    · rw [Array.getElem?_append_right (by omega), Array.getElem?_extract]
      by_cases hk2 : k < w'.heap.size
      · rw [if_pos (by omega), show w.heap.size + (k - w.heap.size) = k by omega]
      · rw [if_neg (by omega), Array.getElem?_eq_none (by omega)]
  obtain ⟨hp, tp, dr, os, out⟩ := w
  obtain ⟨hp', tp', dr', os', out'⟩ := w'
  simp only at h1 h2 h3 h4 h5
  subst h1; subst h2; subst h3
  unfold Go.Sort.grow World.drewN
  simp only
  rw [← h5, show dr + (dr' - dr) = dr' by omega]
theorem Gw.ahead (B : Nat) (w : World) (n : Nat) : Gw B w (Go.Sort.ahead w n) := ⟨rfl, rfl, Nat.le_add_right _ _, rfl, Nat.le_refl _, fun _ _ => rfl, fun _ _ h => h, fun _ r h => ⟨r, h⟩⟩
theorem Gw.grow {B : Nat} {w : World} (hB : B ≤ w.heap.size) (os : Array Obj) : Gw B w (Go.Sort.grow w os) := by
  have old : ∀ k : Nat, k < w.heap.size → (Go.Sort.grow w os).heap[k]? = w.heap[k]? := fun k hk => Go.Sort.heap_grow_old w os hk
  refine ⟨rfl, rfl, Nat.le_refl _, rfl, ?_, fun k hk => old k (by omega), fun k ds hk => ?_, fun k r hk => ⟨r, ?_⟩⟩
  · show w.heap.size ≤ (w.heap ++ os).size
    rw [Array.size_append]; omega
  · rw [old k (Array.getElem?_eq_some_iff.1 hk).1]; exact hk
  · rw [old k (Array.getElem?_eq_some_iff.1 hk).1]; exact hk
theorem RelH.grow {P : Program} {B : Base} {φ : Phi} {h : AHeap} {w : World} (H : RelH P B φ h w) (os : Array Obj) : RelH P B φ h (Go.Sort.grow w os) :=
  H.keep (by show w.heap.size ≤ (w.heap ++ os).size; rw [Array.size_append]; omega) fun id g L hL => Go.Sort.heap_grow_old w os (H.lt id g L hL)
end Go.Ab
namespace Go.Ab
set_option linter.unusedSimpArgs false
set_option linter.unusedVariables false
abbrev Prim := CallFn → Nat → List AV → AHeap → Kont → Bool
def lookP : List (Nat × Prim) → Nat → Option Prim
  | [], _ => none
  | (k, p) :: l, f => bif Nat.beq k f then some p else lookP l f
def envP (tbl : List (Nat × AFun)) (ps : List (Nat × Prim)) : Env := { code := lookT tbl, prim := lookP ps }
theorem lookP_mem {f : Nat} {p : Prim} : ∀ {l : List (Nat × Prim)}, lookP l f = some p → (f, p) ∈ l
  | [], h => by cases h
  | (k, x) :: l, h => by
    simp only [lookP] at h
    cases hb : Nat.beq k f with
    | true =>
      rw [hb, cond_true] at h
      cases h
      rw [Nat.eq_of_beq_eq_true hb]
      exact List.mem_cons_self
    | false =>
      rw [hb, cond_false] at h
      exact List.mem_cons_of_mem _ (lookP_mem h)
def MonoP (p : Prim) : Prop := ∀ (call call' : CallFn) n args h (K K' : Kont), Le call call' → (∀ v h', K v h' = true → K' v h' = true) → p call n args h K = true → p call' n args h K' = true
def AllMono : List (Nat × Prim) → Prop
  | [] => True
  | (_, p) :: l => MonoP p ∧ AllMono l
theorem AllMono.mem : ∀ {l : List (Nat × Prim)}, AllMono l → ∀ k p, (k, p) ∈ l → MonoP p
  | [], _, _, _, h => by cases h
  | (k, q) :: l, ⟨h1, h2⟩, k', p, h => by
    rcases List.mem_cons.1 h with e | h
    · cases e; exact h1
    · exact AllMono.mem h2 k' p h
theorem envP_le {tbl : List (Nat × AFun)} {ps : List (Nat × Prim)} (h : AllMono ps) : PrimLe (envP tbl ps) := fun f p hp => h.mem f p (lookP_mem hp)
def AllPrim (P : Program) : List (Nat × Prim) → Prop
  | [] => True
  | (k, p) :: l => PrimOK P k p ∧ AllPrim P l
theorem AllPrim.mem {P : Program} : ∀ {l : List (Nat × Prim)}, AllPrim P l → ∀ k p, (k, p) ∈ l → PrimOK P k p
  | [], _, _, _, h => by cases h
  | (k, q) :: l, ⟨h1, h2⟩, k', p, h => by
    rcases List.mem_cons.1 h with e | h
    · cases e; exact h1
    · exact AllPrim.mem h2 k' p h
theorem envP_ok {P : Program} {tbl : List (Nat × AFun)} {ps : List (Nat × Prim)} (h : AllOK P tbl) (hp : AllPrim P ps) : EnvOK P (envP tbl ps) :=
  ⟨fun f p e => hp.mem f p (lookP_mem e), fun f fn hf => h.mem f fn (lookT_mem hf)⟩
end Go.Ab
namespace Go.Ab
set_option linter.unusedSimpArgs false
set_option linter.unusedVariables false
open Go.Shelf Go.Sort
open Go.Proofs (SlLaysF.n6 AnyF.slices_SortFunc_none Any.slices_SortFunc CmpLays1 OneCell ltOf sortWorld)
def isI64 (z : Int) : AV → Bool
  | .int .i64 n => ieqb n z
  | _ => false
def putSeg (h : AHeap) (id : Nat) (r : Row) (s : Nat) (us : List AV) : AHeap := h.put id (.row { r with es := lay r.es s (us.map fun v => [v]), m := r.g })
structure SortOK (call : CallFn) (f : Nat) (cap : List AV) (h : AHeap) (id : Nat) (r : Row) (s : Nat) (vs : List AV) (K : Kont) (c : AV → AV → Int) : Prop where
  row : h.get id = some (.row r)
  rw : r.rw = true
  sz : r.sz = 1
  es : (r.es.drop s).take vs.length = vs.map fun v => [v]
  lt : vs.length < 4611686018427387904
  irr : ∀ x ∈ vs, ¬ c x x < 0
  trs : ∀ x ∈ vs, ∀ y ∈ vs, ∀ z ∈ vs, c x y < 0 → c y z < 0 → c x z < 0
  ntr : ∀ x ∈ vs, ∀ y ∈ vs, ∀ z ∈ vs, ¬ c x y < 0 → ¬ c y z < 0 → ¬ c x z < 0
  cmp : ∀ us : List AV, us.length = vs.length → (∀ u ∈ us, u ∈ vs) → ∀ x ∈ vs, ∀ y ∈ vs, call (.func f) ([x, y] ++ cap) (putSeg h id r s us).frz (fun v _ => isI64 (c x y) v) = true
  fin : ∀ us : List AV, us.Perm vs → (us.Pairwise fun a b => ¬ c b a < 0) → K (.tup []) (putSeg h id r s us) = true
noncomputable def cdec (p : Prop) : Bool := @decide p (Classical.propDecidable p)
theorem cdec_true {p : Prop} : cdec p = true ↔ p := by
  unfold cdec
  exact @decide_eq_true_iff p (Classical.propDecidable p)
noncomputable def sortP (fs : List Nat) : Prim := fun call n args h K => match args with
  | [.nilSlc, .fn (.func f) [] cap] => K (.tup []) h
  | [.emp, .fn (.func f) [] cap] => K (.tup []) h
  | [.slc id g s len c ex, .fn (.func f) [] cap] => bif Nat.beq len 0 then K (.tup []) h
      else cdec (f ∈ fs ∧ ∃ r vs cf, g = r.g ∧ vs.length = len ∧ SortOK call f cap h id r s vs K cf)
  | _ => false
theorem sortP_mono (fs : List Nat) : MonoP (sortP fs) := by
  intro call call' n args h K K' hle hK hs
  unfold sortP at hs ⊢
  split at hs
  · exact hK _ _ hs
  · exact hK _ _ hs
  · rename_i id g s len c ex f cap
    cases hl : Nat.beq len 0 with
    | true => rw [hl, cond_true] at hs; exact hK _ _ hs
    | false =>
      rw [hl, cond_false] at hs
      have hs := cdec_true.1 hs
      obtain ⟨h1, r, vs, cf, h2, h3, S⟩ := hs
      rw [cond_false]
      exact cdec_true.2 ⟨h1, r, vs, cf, h2, h3, ⟨S.row, S.rw, S.sz, S.es, S.lt, S.irr, S.trs, S.ntr, fun us h1 h2 x hx y hy => hle _ _ _ _ _ (S.cmp us h1 h2 x hx y hy) (fun _ _ e => e), fun us h1 h2 => hK _ _ (S.fin us h1 h2)⟩⟩
  · cases hs
theorem drop_flat1 : ∀ {es : List (List AV)}, (∀ e ∈ es, e.length = 1) → ∀ n, es.flatten.drop n = (es.drop n).flatten
  | [], _, n => by simp
  | e :: l, h, 0 => rfl
  | e :: l, h, n + 1 => by
    have h1 := h e (by simp)
    match e, h1 with
    | [a], _ => exact drop_flat1 (fun x hx => h x (List.mem_cons_of_mem _ hx)) n
theorem take_flat1 : ∀ {es : List (List AV)}, (∀ e ∈ es, e.length = 1) → ∀ n, es.flatten.take n = (es.take n).flatten
  | [], _, n => by simp
  | e :: l, h, 0 => by simp
  | e :: l, h, n + 1 => by
    have h1 := h e (by simp)
    match e, h1 with
    | [a], _ =>
      show a :: (l.flatten.take n) = a :: (l.take n).flatten
      rw [take_flat1 (fun x hx => h x (List.mem_cons_of_mem _ hx)) n]
theorem extract_all {α : Type} (x : Array α) {n : Nat} (h : x.size = n) : x.extract 0 n = x := by subst h; simp
section
variable {P : Program} {B : Base} {φ : Phi} {h : AHeap} {w : World}
theorem seg_world (H : RelH P B φ h w) {id : Nat} {r : Row} (hr : h.get id = some (.row r)) (hrw : r.rw = true) (hsz : r.sz = 1) {L : Loc} (hL : φ id r.g = some L) {s : Nat}
    {α : Type} [Inhabited α] {enc : α → Value} {av : α → AV} (hrel : ∀ x, RelV φ (av x) (enc x)) (hone : ∀ x, (enc x).oneCell' = true) (hleaf : ∀ x, (av x).leaf = true) (d dk : Array α) (hH : Holds enc w L.blk (L.base + s) d) (hk : dk.size = d.size) (hfit : s + d.size ≤ r.es.length) (m : Nat) (os : Array Obj) :
    RelH P B φ (putSeg h id r s (dk.toList.map av)) (sortWorld enc w L.blk (L.base + s) m dk os) ∧ Gw B w (sortWorld enc w L.blk (L.base + s) m dk os) := by
  have HA : RelH P B φ h (w.drewN m) := H.heap rfl
  have hrow : RelRow φ id r w := H.obj id _ hr
  have hLs : L.sz = 1 := by rw [(hrow.gen _ L hL).2, hsz]
  have hnv : RelVs φ ((dk.toList.map av).map fun v => [v]).flatten (dk.toList.map enc) := by
    rw [flatten_single]
    induction dk.toList with
    | nil => exact .nil
    | cons x l ih => exact .cons (hrel x) ih
  have hlen : ((dk.toList.map av).map fun v => [v]).length = d.size := by simp [hk]
  have he : storeRow h 1 id r.g s ((dk.toList.map av).map fun v => [v]) = some (putSeg h id r s (dk.toList.map av)) := by
    unfold storeRow putSeg
    rw [AHeap.row_some.2 hr]
    have : (r.rw && Nat.beq r.g r.g && Nat.beq r.sz 1 && Nat.ble (s + ((dk.toList.map av).map fun v => [v]).length) r.es.length) = true := by
      rw [hrw, hsz, hlen]
      simp only [Nat.beq_refl, Bool.and_self, Bool.true_and]
      exact nble_true.2 hfit
    simp only [this, cond_true]
  obtain ⟨w', s1, s2, s3, _⟩ := storeRow_sound HA (fun x hx => by
      obtain ⟨v, _, rfl⟩ := List.mem_map.1 hx; rfl) (fun x hx => by
      obtain ⟨v, hv, rfl⟩ := List.mem_map.1 hx
      obtain ⟨a, _, rfl⟩ := List.mem_map.1 hv
      show allLeaf [av a] = true
      simp [allLeaf, hleaf a]) hnv hL he
  rw [hLs, Nat.mul_one] at s1
  have hst := Go.run_storeCells_cells (P := P) L.blk (L.base + s) (dk.toList.map enc) 0 (w.drewN m)
    (fun j hj => by
      have := (hH j (by simpa [hk] using hj)).1
      rw [World.cell?_drewN, Nat.add_zero, this]; rfl)
    (fun j hj => by
      have := (hH j (by simpa [hk] using hj)).2
      rw [Nat.add_zero]; exact this)
    (fun v hv => by
      obtain ⟨a, _, rfl⟩ := List.mem_map.1 hv
      exact hone a)
  rw [hst] at s1
  have hw' : (w.drewN m).setCells L.blk (L.base + s + 0) (dk.toList.map enc) = w' := by injection s1
  have hput := Go.Lib.putRow_eq_setCells enc w L.blk (L.base + s) d dk.toList m hH (by simpa using hk)
  have hw : sortWorld enc w L.blk (L.base + s) m dk os = grow w' os := by
    unfold sortWorld
    have : dk.toList.toArray = dk := by simp
    rw [this] at hput
    rw [hput, ← hw', Nat.add_zero]
  rw [hw]
  have g1 : Gw B w (w.drewN m) := Gw.ahead B w m
  exact ⟨s2.grow os, (g1.trans s3).trans (Gw.grow s2.base os)⟩
theorem i64_rel {z : Int} {v : AV} {cv : Value} (hi : isI64 z v = true) (hv : RelV φ v cv) : cv = .int .i64 z := by
  cases hv <;> try (cases hi; done)
  rename_i k n
  cases k <;> try (cases hi; done)
  simp only [isI64] at hi
  rw [ieqb_dec] at hi
  rw [of_decide_eq_true hi]
variable {ρ : Ren}
theorem sortP_ok {f : Nat} {fs : List Nat} (L6 : SlLaysF.n6 P ρ) (hf : ρ.f 6 = f) (hmix : ∀ args w, (callFunc f args).run P w = .ok (.enter f args) w) (hen : ∀ g ∈ fs, ∀ args w, (callFunc g args).run P w = .ok (.enter g args) w) : PrimOK P f (sortP fs) := by
  intro call n hcall args h K hK
  subst hf
  have none : ∀ (B : Base) (φ : Phi) (w : World) (p : Option Addr) (c : Nat) (fv : Value), RelH P B φ h w → K (.tup []) h = true → Lands P B φ w K ((callFunc (ρ.f 6) ⟨[.slice p 0 c, fv]⟩).run P w) := by
    intro B φ w p c fv H hk
    rw [hmix]
    intro n
    have hS := AnyF.slices_SortFunc_none (P := P) (ρ := ρ) { L6 with } p c fv w
    refine ((callsIn_wide (n := n)).2 hS).mono ?_
    rintro e w' ⟨rfl, rfl⟩
    exact ⟨.tup [], h, .tuple #[], φ, rfl, hk, .tup .nil, H, φ.le_refl, Gw.refl B w'⟩
  unfold sortP at hK
  split at hK
  · rename_i g cap
    refine ⟨fun v hv id e => ?_, fun B φ w cargs H hA => ?_⟩
    · simp only [List.mem_cons, List.not_mem_nil, or_false] at hv
      rcases hv with rfl | rfl <;> cases e
    · cases hA with
      | cons h1 h2 =>
        cases h2 with
        | cons h2 h3 =>
          cases h3
          cases h1
          exact none B φ w _ _ _ H hK
  · rename_i g cap
    refine ⟨fun v hv id e => ?_, fun B φ w cargs H hA => ?_⟩
    · simp only [List.mem_cons, List.not_mem_nil, or_false] at hv
      rcases hv with rfl | rfl <;> cases e
    · cases hA with
      | cons h1 h2 =>
        cases h2 with
        | cons h2 h3 =>
          cases h3
          cases h1
          exact none B φ w _ _ _ H hK
  · rename_i id g s len c ex f cap
    refine ⟨fun v hv id e => ?_, fun B φ w cargs H hA => ?_⟩
    · simp only [List.mem_cons, List.not_mem_nil, or_false] at hv
      rcases hv with rfl | rfl <;> cases e
    · cases hA with
      | cons h1 h2 =>
        cases h2 with
        | cons h2 h3 =>
          cases h3
          cases h1 with
          | slc hL a1 a2 a3 a4 a5 a6 =>
            rename_i c0 off L
            cases hl : Nat.beq len 0 with
            | true =>
              rw [hl, cond_true] at hK
              have := nbeq_true.1 hl
              subst this
              exact none B φ w _ _ _ H hK
            | false =>
              rw [hl, cond_false] at hK
              have hlen := nbeq_false.1 hl
              obtain ⟨hfs, r, vs, cf, hg, hvl, S⟩ := cdec_true.1 hK
              subst hg
              cases h2 with
              | func hfa hcb =>
                cases hfa
                rename_i cb
                have eg := hen f hfs
                have hrow : RelRow φ id r w := H.obj id _ S.row
                have hLs : L.sz = 1 := by rw [(hrow.gen _ L hL).2, S.sz]
                obtain ⟨hbase, cs, ct, hcs, hcsz, hext⟩ := hrow.own S.rw r.g L hrow.mg hL
                obtain ⟨L', hL', hext'⟩ := hrow.cur
                have : L' = L := by rw [hL] at hL'; cases hL'; rfl
                subst this
                have hoff : off = L'.base + s := by rw [a6 (by omega), hLs, Nat.mul_one]
                subst hoff
                have hes1 : ∀ e ∈ r.es, e.length = 1 := fun e he => by rw [hrow.es e he, S.sz]
                have hfit : s + len ≤ r.es.length := by omega
                obtain ⟨nv, n1, n2, n3⟩ := row_flat hrow hL hrow.mg (p := s) (n := len) (by rw [S.sz]; omega)
                have hfl : (r.es.flatten.drop s).take len = vs := by
                  rw [drop_flat1 hes1, take_flat1 (fun e he => hes1 e (List.mem_of_mem_drop he)), ← hvl, S.es, flatten_single]
                rw [hfl] at n1
                obtain ⟨k, rfl⟩ : ∃ k, len = k + 1 := ⟨len - 1, by omega⟩
                have hleafs : ∀ v ∈ vs, v.leaf = true := by
                  intro v hv
                  have hm : [v] ∈ (r.es.drop s).take vs.length := by rw [S.es]; exact List.mem_map.2 ⟨v, hv, rfl⟩
                  have := hrow.leaf [v] (List.mem_of_mem_drop (List.mem_of_mem_take hm))
                  simpa [allLeaf] using this
                let av : Fin (k + 1) → AV := fun i => vs[i.1]'(by omega)
                let enc : Fin (k + 1) → Value := fun i => nv[i.1]'(by omega)
                have hrel : ∀ x, RelV φ (av x) (enc x) := by
                  intro x
                  obtain ⟨v, q1, q2⟩ := n1.get (i := x.1) (a := av x) (List.getElem?_eq_getElem _)
                  rw [List.getElem?_eq_getElem (by omega)] at q1
                  cases q1; exact q2
                have hmem : ∀ x, av x ∈ vs := fun x => List.getElem_mem _
                have hleaf : ∀ x, (av x).leaf = true := fun x => hleafs _ (hmem x)
                have hone : OneCell enc := fun x => (hrel x).leaf (hleaf x)
                let d : Array (Fin (k + 1)) := Array.ofFn fun i => i
                have hds : d.size = k + 1 := by simp [d]
                have hdj : ∀ j (hj : j < k + 1), d[j]! = ⟨j, hj⟩ := by
                  intro j hj
                  rw [getElem!_pos d j (by omega)]
                  simp [d]
                have hH : Holds enc w L'.blk (L'.base + s) d := by
                  intro j hj
                  rw [hds] at hj
                  refine ⟨?_, ?_⟩
                  · rw [hdj j hj]
                    have := n3 j _ (List.getElem?_eq_getElem (by omega))
                    have ha : (⟨L'.blk, L'.base + s, Option.none⟩ : Addr).add j = ⟨L'.blk, L'.base + s + j, Option.none⟩ := by
                      simp only [Addr.add]
                      split
                      · rename_i h0; subst h0; rfl
                      · rfl
                    rw [ha] at this
                    exact this
                  · simp only [World.frozen?, hcs]
                    simp
                let cfn : Fin (k + 1) → Fin (k + 1) → Int := fun i j => cf (av i) (av j)
                have hO : SWO (ltOf cfn) := by
                  refine ⟨fun x => ?_, fun x y z h1 h2 => ?_, fun x y z h1 h2 => ?_⟩
                  · exact decide_eq_false (S.irr _ (hmem x))
                  · exact decide_eq_true (S.trs _ (hmem x) _ (hmem y) _ (hmem z) (of_decide_eq_true h1) (of_decide_eq_true h2))
                  · exact decide_eq_false (S.ntr _ (hmem x) _ (hmem y) _ (hmem z) (of_decide_eq_false h1) (of_decide_eq_false h2))
                have hmap : ∀ dk : Array (Fin (k + 1)), dk.size = d.size → (dk.toList.map av).length = vs.length := by
                  intro dk hdk
                  rw [List.length_map, Array.length_toList, hdk, hds, hvl]
                have hcmp : CmpLays1 P f ⟨cb⟩ enc cfn L'.blk (L'.base + s) d.size w := by
                  intro m os dk hdk x y
                  obtain ⟨H2, _⟩ := seg_world H S.row S.rw S.sz hL hrel hone hleaf d dk hH hdk (by omega) m os
                  have law := S.cmp (dk.toList.map av) (hmap dk hdk) (fun u hu => by
                    obtain ⟨i, _, rfl⟩ := List.mem_map.1 hu
                    exact hmem i) (av x) (hmem x) (av y) (hmem y)
                  have hc := hcall (.func f) _ _ _ law _ φ _ ([enc x, enc y] ++ cb) H2.frz (.cons (hrel x) (.cons (hrel y) hcb))
                  simp only at hc
                  have hc := FuncOK.lands hc
                  rw [eg] at hc
                  have h0 : CallsIn (FW Option.none) 0 P f ⟨[enc x, enc y] ++ cb⟩ _ _ := hc 0
                  have h1 := callsIn_wide.1 h0
                  have harr : (#[enc x, enc y] ++ ⟨cb⟩ : Array Value) = ⟨[enc x, enc y] ++ cb⟩ := by simp
                  rw [harr]
                  refine h1.mono ?_
                  rintro e w' ⟨v, h', cv, φ', rfl, hi, hv, _, _, hg⟩
                  refine ⟨?_, ?_⟩
                  · rw [i64_rel hi hv]
                  · exact hg.grown
                have hblk : L'.blk < w.heap.size := H.lt id r.g L' hL
                have hS := Any.slices_SortFunc L6 enc hone cfn hO f ⟨cb⟩ L'.blk (L'.base + s) c0 d w eg hcmp hH hblk (by rw [hds]; have := S.lt; omega)
                rw [hmix]
                intro n
                rw [hds] at hS
                refine ((callsIn_wide (n := n)).2 hS).mono ?_
                rintro e w' ⟨rfl, d', m, os, hp, hs, rfl⟩
                obtain ⟨p1, p2, p3⟩ := hp
                obtain ⟨H2, G2⟩ := seg_world H S.row S.rw S.sz hL hrel hone hleaf d d' hH p1 (by omega) m os
                refine ⟨.tup [], _, .tuple #[], φ, rfl, S.fin (d'.toList.map av) ?_ ?_, .tup .nil, H2, φ.le_refl, G2⟩
                · rw [extract_all _ (by rw [p1, hds]), extract_all _ hds] at p3
                  refine (p3.map av).trans ?_
                  have : d.toList.map av = vs := by
                    apply List.ext_getElem
                    · rw [List.length_map, Array.length_toList, hds, hvl]
                    · intro i h1 h2
                      rw [List.getElem_map]
                      have : d.toList[i]'(by simpa using h1) = (⟨i, by rw [hvl] at h2; exact h2⟩ : Fin (k + 1)) := by simp only [d, Array.toList_ofFn, List.getElem_ofFn]
                      rw [this]
                  rw [this]
                · rw [List.pairwise_map, List.pairwise_iff_getElem]
                  intro i j hi hj hij
                  have hj' : j < k + 1 := by rw [Array.length_toList, p1, hds] at hj; exact hj
                  have := hs i j (Nat.zero_le _) hij hj'
                  rw [getElem!_pos d' i (by rw [p1, hds]; omega), getElem!_pos d' j (by rw [p1, hds]; omega)] at this
                  exact of_decide_eq_false this
  · cases hK
end
end Go.Ab
namespace Go.Ab
set_option linter.unusedSimpArgs false
set_option linter.unusedVariables false
open Go.Shelf Go.Sort
open Go.Proofs (SlLaysF0.n6 AnyF.slices_SortFunc_none AnyQ.slices_SortFunc CmpLays ltOf sortWorldK)
def putSegK (h : AHeap) (id : Nat) (r : Row) (s : Nat) (us : List (List AV)) : AHeap := h.put id (.row { r with es := lay r.es s us, m := r.g })
structure SortOKK (call : CallFn) (f : Nat) (cap : List AV) (h : AHeap) (id : Nat) (r : Row) (s k : Nat) (vs : List (List AV)) (K : Kont) (c : List AV → List AV → Int) : Prop where
  row : h.get id = some (.row r)
  rw : r.rw = true
  sz : r.sz = k
  es : (r.es.drop s).take vs.length = vs
  lt : vs.length < 4611686018427387904
  irr : ∀ x ∈ vs, ¬ c x x < 0
  trs : ∀ x ∈ vs, ∀ y ∈ vs, ∀ z ∈ vs, c x y < 0 → c y z < 0 → c x z < 0
  ntr : ∀ x ∈ vs, ∀ y ∈ vs, ∀ z ∈ vs, ¬ c x y < 0 → ¬ c y z < 0 → ¬ c x z < 0
  cmp : ∀ us : List (List AV), us.length = vs.length → (∀ u ∈ us, u ∈ vs) → ∀ x ∈ vs, ∀ y ∈ vs, call (.func f) ([.agg x, .agg y] ++ cap) (putSegK h id r s us).frz (fun v _ => isI64 (c x y) v) = true
  fin : ∀ us : List (List AV), us.Perm vs → (us.Pairwise fun a b => ¬ c b a < 0) → K (.tup []) (putSegK h id r s us) = true
noncomputable def sortPK (k : Nat) (fs : List Nat) : Prim := fun call n args h K => match args with
  | [.nilSlc, .fn (.func f) [] cap] => K (.tup []) h
  | [.emp, .fn (.func f) [] cap] => K (.tup []) h
  | [.slc id g s len c ex, .fn (.func f) [] cap] => bif Nat.beq len 0 then K (.tup []) h
      else cdec (f ∈ fs ∧ ∃ r vs cf, g = r.g ∧ vs.length = len ∧ SortOKK call f cap h id r s k vs K cf)
  | _ => false
theorem sortPK_mono (k : Nat) (fs : List Nat) : MonoP (sortPK k fs) := by
  intro call call' n args h K K' hle hK hs
  unfold sortPK at hs ⊢
  split at hs
  · exact hK _ _ hs
  · exact hK _ _ hs
  · rename_i id g s len c ex f cap
    cases hl : Nat.beq len 0 with
    | true => rw [hl, cond_true] at hs; exact hK _ _ hs
    | false =>
      rw [hl, cond_false] at hs
      have hs := cdec_true.1 hs
      obtain ⟨h1, r, vs, cf, h2, h3, S⟩ := hs
      rw [cond_false]
      exact cdec_true.2 ⟨h1, r, vs, cf, h2, h3, ⟨S.row, S.rw, S.sz, S.es, S.lt, S.irr, S.trs, S.ntr, fun us h1 h2 x hx y hy => hle _ _ _ _ _ (S.cmp us h1 h2 x hx y hy) (fun _ _ e => e), fun us h1 h2 => hK _ _ (S.fin us h1 h2)⟩⟩
  · cases hs
theorem divmod {k t n : Nat} (hk : 0 < k) (h : t < n * k) : t / k < n ∧ t % k < k ∧ (t / k) * k + t % k = t :=
  ⟨(Nat.div_lt_iff_lt_mul hk).2 h, Nat.mod_lt _ hk, by rw [Nat.mul_comm]; exact Nat.div_add_mod t k⟩
section
variable {P : Program} {B : Base} {φ : Phi} {h : AHeap} {w : World}
theorem flat_rel {α : Type} [Inhabited α] {k : Nat} (hk : 0 < k) {enc : α → List Value} {av : α → List AV} (hrel : ∀ x, RelVs φ (av x) (enc x)) (hl : ∀ x, (av x).length = k) (d : Array α) :
    RelVs φ (d.toList.map av).flatten (flatK enc k d).toList := by
  have hen : ∀ x, (enc x).length = k := fun x => by rw [← (hrel x).length]; exact hl x
  have hlen : (d.toList.map av).flatten.length = d.size * k := by
    rw [fl_len (sz := k) (fun e he => by obtain ⟨x, _, rfl⟩ := List.mem_map.1 he; exact hl x), List.length_map, Array.length_toList]
  refine RelVs.of_get (by rw [hlen, Array.length_toList, size_flatK]) fun t a v ha hv => ?_
  have ht : t < d.size * k := by rw [← hlen]; exact (List.getElem?_eq_some_iff.1 ha).1
  obtain ⟨q1, q2, q3⟩ := divmod hk ht
  have hd : d[t / k]! = d[t / k] := getElem!_pos d _ q1
  have e1 : (d.toList.map av)[t / k]? = some (av d[t / k]) := by rw [List.getElem?_map, Array.getElem?_toList, Array.getElem?_eq_getElem q1]; rfl
  have hb : (av d[t / k])[t % k]? = some ((av d[t / k])[t % k]'(by rw [hl]; exact q2)) := List.getElem?_eq_getElem _
  have e2 := fl_get (sz := k) (fun e he => by obtain ⟨x, _, rfl⟩ := List.mem_map.1 he; exact hl x) e1 hb
  rw [q3, ha] at e2
  injection e2 with e2
  obtain ⟨v', r1, r2⟩ := (hrel d[t / k]).get hb
  have hv' : v = (enc d[t / k]!)[t % k]! := by
    rw [Array.getElem?_toList, Array.getElem?_eq_getElem (by rw [size_flatK]; exact ht)] at hv
    injection hv with hv
    rw [← hv, ← getElem!_pos (flatK enc k d) t (by rw [size_flatK]; exact ht), get_flatK _ _ _ _ ht]
  rw [hd] at hv'
  have : (enc d[t / k])[t % k]! = v' := by
    have := (List.getElem?_eq_some_iff.1 r1)
    rw [getElem!_pos (enc d[t / k]) _ this.1]; exact this.2
  rw [hv', this, e2]; exact r2
theorem seg_worldK (H : RelH P B φ h w) {id : Nat} {r : Row} (hr : h.get id = some (.row r)) (hrw : r.rw = true) {k : Nat} (hk : 0 < k) (hsz : r.sz = k) {L : Loc} (hL : φ id r.g = some L) {s : Nat}
    {α : Type} [Inhabited α] {enc : α → List Value} {av : α → List AV} (hrel : ∀ x, RelVs φ (av x) (enc x)) (hl : ∀ x, (av x).length = k) (hleaf : ∀ x, allLeaf (av x) = true) (d dk : Array α) (hH : HoldsK enc k w L.blk (L.base + s * k) d) (hd : dk.size = d.size) (hfit : s + d.size ≤ r.es.length) (m : Nat) (os : Array Obj) :
    RelH P B φ (putSegK h id r s (dk.toList.map av)) (sortWorldK enc k w L.blk (L.base + s * k) m dk os) ∧ Gw B w (sortWorldK enc k w L.blk (L.base + s * k) m dk os) := by
  have HA : RelH P B φ h (w.drewN m) := H.heap rfl
  have hrow : RelRow φ id r w := H.obj id _ hr
  have hLs : L.sz = k := by rw [(hrow.gen _ L hL).2, hsz]
  have hnv := flat_rel hk hrel hl dk
  have hlen : (dk.toList.map av).length = d.size := by simp [hd]
  have he : storeRow h k id r.g s (dk.toList.map av) = some (putSegK h id r s (dk.toList.map av)) := by
    unfold storeRow putSegK
    rw [AHeap.row_some.2 hr]
    have : (r.rw && Nat.beq r.g r.g && Nat.beq r.sz k && Nat.ble (s + (dk.toList.map av).length) r.es.length) = true := by
      rw [hrw, hsz, hlen]
      simp only [Nat.beq_refl, Bool.and_self, Bool.true_and]
      exact nble_true.2 hfit
    simp only [this, cond_true]
  obtain ⟨w', s1, s2, s3, _⟩ := storeRow_sound HA (fun x hx => by
      obtain ⟨v, _, rfl⟩ := List.mem_map.1 hx; exact hl v) (fun x hx => by
      obtain ⟨v, _, rfl⟩ := List.mem_map.1 hx; exact hleaf v) hnv hL he
  rw [hLs] at s1
  have hsz2 : (flatK enc k dk).toList.length = (flatK enc k d).size := by rw [Array.length_toList, size_flatK, size_flatK, hd]
  have hone : ∀ v ∈ (flatK enc k dk).toList, v.oneCell' = true := hnv.leaf (allLeaf_flatten fun e he => by obtain ⟨x, _, rfl⟩ := List.mem_map.1 he; exact hleaf x)
  have hst := Go.run_storeCells_cells (P := P) L.blk (L.base + s * k) (flatK enc k dk).toList 0 (w.drewN m)
    (fun j hj => by
      have := (hH j (by omega)).1
      rw [World.cell?_drewN, Nat.add_zero, this]; rfl)
    (fun j hj => by
      have := (hH j (by omega)).2
      rw [Nat.add_zero]; exact this)
    hone
  rw [hst] at s1
  have hw' : (w.drewN m).setCells L.blk (L.base + s * k + 0) (flatK enc k dk).toList = w' := by injection s1
  have hput := Go.Lib.putRow_eq_setCells _root_.id w L.blk (L.base + s * k) (flatK enc k d) (flatK enc k dk).toList m hH hsz2
  have hw : sortWorldK enc k w L.blk (L.base + s * k) m dk os = grow w' os := by
    unfold sortWorldK putRowK
    have : (flatK enc k dk).toList.toArray = flatK enc k dk := by simp
    rw [this] at hput
    rw [hput, ← hw', Nat.add_zero, List.map_id]
  rw [hw]
  have g1 : Gw B w (w.drewN m) := Gw.ahead B w m
  exact ⟨s2.grow os, (g1.trans s3).trans (Gw.grow s2.base os)⟩
variable {ρ : Ren}
theorem sortPK_ok {f k : Nat} {fs : List Nat} (hk : 0 < k) (L6 : SlLaysF0.n6 P ρ) (aE : ∀ w, (isAgg (ρ.t 24)).run P w = .ok true w) (zE : ∀ w, (Go.sizeOf (ρ.t 24)).run P w = .ok k w) (hf : ρ.f 6 = f) (hmix : ∀ args w, (callFunc f args).run P w = .ok (.enter f args) w) (hen : ∀ g ∈ fs, ∀ args w, (callFunc g args).run P w = .ok (.enter g args) w) : PrimOK P f (sortPK k fs) := by
  intro call n hcall args h K hK
  subst hf
  have none : ∀ (B : Base) (φ : Phi) (w : World) (p : Option Addr) (c : Nat) (fv : Value), RelH P B φ h w → K (.tup []) h = true → Lands P B φ w K ((callFunc (ρ.f 6) ⟨[.slice p 0 c, fv]⟩).run P w) := by
    intro B φ w p c fv H hk
    rw [hmix]
    intro n
    have hS := AnyF.slices_SortFunc_none (P := P) (ρ := ρ) L6 p c fv w
    refine ((callsIn_wide (n := n)).2 hS).mono ?_
    rintro e w' ⟨rfl, rfl⟩
    exact ⟨.tup [], h, .tuple #[], φ, rfl, hk, .tup .nil, H, φ.le_refl, Gw.refl B w'⟩
  unfold sortPK at hK
  split at hK
  · rename_i g cap
    refine ⟨fun v hv id e => ?_, fun B φ w cargs H hA => ?_⟩
    · simp only [List.mem_cons, List.not_mem_nil, or_false] at hv
      rcases hv with rfl | rfl <;> cases e
    · cases hA with
      | cons h1 h2 =>
        cases h2 with
        | cons h2 h3 =>
          cases h3
          cases h1
          exact none B φ w _ _ _ H hK
  · rename_i g cap
    refine ⟨fun v hv id e => ?_, fun B φ w cargs H hA => ?_⟩
    · simp only [List.mem_cons, List.not_mem_nil, or_false] at hv
      rcases hv with rfl | rfl <;> cases e
    · cases hA with
      | cons h1 h2 =>
        cases h2 with
        | cons h2 h3 =>
          cases h3
          cases h1
          exact none B φ w _ _ _ H hK
  · rename_i id g s len c ex f cap
    refine ⟨fun v hv id e => ?_, fun B φ w cargs H hA => ?_⟩
    · simp only [List.mem_cons, List.not_mem_nil, or_false] at hv
      rcases hv with rfl | rfl <;> cases e
    · cases hA with
      | cons h1 h2 =>
        cases h2 with
        | cons h2 h3 =>
          cases h3
          cases h1 with
          | slc hL a1 a2 a3 a4 a5 a6 =>
            rename_i c0 off L
            cases hl : Nat.beq len 0 with
            | true =>
              rw [hl, cond_true] at hK
              have := nbeq_true.1 hl
              subst this
              exact none B φ w _ _ _ H hK
            | false =>
              rw [hl, cond_false] at hK
              have hlen := nbeq_false.1 hl
              obtain ⟨hfs, r, vs, cf, hg, hvl, S⟩ := cdec_true.1 hK
              subst hg
              cases h2 with
              | func hfa hcb =>
                cases hfa
                rename_i cb
                have eg := hen f hfs
                have hrow : RelRow φ id r w := H.obj id _ S.row
                have hLs : L.sz = k := by rw [(hrow.gen _ L hL).2, S.sz]
                obtain ⟨hbase, cs, ct, hcs, hcsz, hext⟩ := hrow.own S.rw r.g L hrow.mg hL
                obtain ⟨L', hL', hext'⟩ := hrow.cur
                have : L' = L := by rw [hL] at hL'; cases hL'; rfl
                subst this
                have hoff : off = L'.base + s * k := by rw [a6 (by omega), hLs]
                subst hoff
                have hes1 : ∀ e ∈ r.es, e.length = k := fun e he => by rw [hrow.es e he, S.sz]
                have hfit : s + len ≤ r.es.length := by omega
                have hmul : s * k + len * k ≤ L'.ext * r.sz := by
                  rw [S.sz, ← Nat.add_mul]; exact Nat.mul_le_mul_right k (by omega)
                obtain ⟨nv, n1, n2, n3⟩ := row_flat hrow hL hrow.mg (p := s * k) (n := len * k) hmul
                have hvk : ∀ v ∈ vs, v.length = k := fun v hv => hes1 v (by
                  rw [← S.es] at hv; exact List.mem_of_mem_drop (List.mem_of_mem_take hv))
                have hfl : (r.es.flatten.drop (s * k)).take (len * k) = vs.flatten := by
                  rw [← fl_drop hes1, ← fl_take (fun e he => hes1 e (List.mem_of_mem_drop he)), ← hvl, S.es]
                rw [hfl] at n1
                obtain ⟨N, rfl⟩ : ∃ N, len = N + 1 := ⟨len - 1, by omega⟩
                have hleafs : ∀ v ∈ vs, allLeaf v = true := by
                  intro v hv
                  rw [← S.es] at hv
                  exact hrow.leaf v (List.mem_of_mem_drop (List.mem_of_mem_take hv))
                let av : Fin (N + 1) → List AV := fun i => vs[i.1]'(by omega)
                let enc : Fin (N + 1) → List Value := fun i => (nv.drop (i.1 * k)).take k
                have hmem : ∀ x, av x ∈ vs := fun x => List.getElem_mem _
                have hl' : ∀ x, (av x).length = k := fun x => hvk _ (hmem x)
                have hrel : ∀ x, RelVs φ (av x) (enc x) := by
                  intro x
                  have e1 := (n1.drop (x.1 * k)).take k
                  have e2 : (vs.flatten.drop (x.1 * k)).take k = av x := by
                    rw [← fl_drop hvk]
                    have e3 : vs.drop x.1 = av x :: vs.drop (x.1 + 1) := List.drop_eq_getElem_cons (by omega)
                    rw [e3, List.flatten_cons, List.take_append_of_le_length (by rw [hl']; exact Nat.le_refl _), List.take_of_length_le (by rw [hl']; exact Nat.le_refl _)]
                  rw [e2] at e1; exact e1
                have hen' : ∀ x, (enc x).length = k := fun x => by rw [← (hrel x).length]; exact hl' x
                have hleaf : ∀ x, allLeaf (av x) = true := fun x => hleafs _ (hmem x)
                have hone : ∀ x, ∀ v ∈ enc x, v.oneCell' = true := fun x => (hrel x).leaf (hleaf x)
                let d : Array (Fin (N + 1)) := Array.ofFn fun i => i
                have hds : d.size = N + 1 := by simp [d]
                have hdj : ∀ j (hj : j < N + 1), d[j]! = ⟨j, hj⟩ := by
                  intro j hj
                  rw [getElem!_pos d j (by omega)]
                  simp [d]
                have hH : HoldsK enc k w L'.blk (L'.base + s * k) d := by
                  intro j hj
                  rw [size_flatK, hds] at hj
                  refine ⟨?_, ?_⟩
                  · rw [get_flatK _ _ _ _ (by rw [hds]; exact hj)]
                    obtain ⟨q1, q2, q3⟩ := divmod hk hj
                    rw [hdj _ q1]
                    have hjn : j < nv.length := by rw [n2]; exact hj
                    have := n3 j _ (List.getElem?_eq_getElem hjn)
                    have ha : (⟨L'.blk, L'.base + s * k, Option.none⟩ : Addr).add j = ⟨L'.blk, L'.base + s * k + j, Option.none⟩ := by
                      simp only [Addr.add]
                      split
                      · rename_i h0; subst h0; rfl
                      · rfl
                    rw [ha] at this
                    rw [this]
                    have hx : (enc ⟨j / k, q1⟩)[j % k]! = nv[j] := by
                      have hlt : j % k < (enc ⟨j / k, q1⟩).length := by rw [hen']; exact q2
                      rw [getElem!_pos (enc ⟨j / k, q1⟩) _ hlt]
                      show ((nv.drop (j / k * k)).take k)[j % k] = nv[j]
                      rw [List.getElem_take, List.getElem_drop]
                      congr 1
                    rw [hx]; rfl
                  · simp only [World.frozen?, hcs]
                    simp
                let cfn : Fin (N + 1) → Fin (N + 1) → Int := fun i j => cf (av i) (av j)
                have hO : SWO (ltOf cfn) := by
                  refine ⟨fun x => ?_, fun x y z h1 h2 => ?_, fun x y z h1 h2 => ?_⟩
                  · exact decide_eq_false (S.irr _ (hmem x))
                  · exact decide_eq_true (S.trs _ (hmem x) _ (hmem y) _ (hmem z) (of_decide_eq_true h1) (of_decide_eq_true h2))
                  · exact decide_eq_false (S.ntr _ (hmem x) _ (hmem y) _ (hmem z) (of_decide_eq_false h1) (of_decide_eq_false h2))
                have hmap : ∀ dk : Array (Fin (N + 1)), dk.size = d.size → (dk.toList.map av).length = vs.length := by
                  intro dk hdk
                  rw [List.length_map, Array.length_toList, hdk, hds, hvl]
                have hcmp : CmpLays P f ⟨cb⟩ enc k cfn L'.blk (L'.base + s * k) d.size w := by
                  intro m os dk hdk x y
                  obtain ⟨H2, _⟩ := seg_worldK H S.row S.rw hk S.sz hL hrel hl' hleaf d dk hH hdk (by omega) m os
                  have law := S.cmp (dk.toList.map av) (hmap dk hdk) (fun u hu => by
                    obtain ⟨i, _, rfl⟩ := List.mem_map.1 hu
                    exact hmem i) (av x) (hmem x) (av y) (hmem y)
                  have hc := hcall (.func f) _ _ _ law _ φ _ ([Value.agg (Array.mk (enc x)), Value.agg (Array.mk (enc y))] ++ cb) H2.frz (.cons (.agg (hrel x)) (.cons (.agg (hrel y)) hcb))
                  simp only at hc
                  have hc := FuncOK.lands hc
                  rw [eg] at hc
                  have h0 : CallsIn (FW Option.none) 0 P f ⟨[.agg ⟨enc x⟩, .agg ⟨enc y⟩] ++ cb⟩ _ _ := hc 0
                  have h1 := callsIn_wide.1 h0
                  have harr : (#[.agg (enc x).toArray, .agg (enc y).toArray] ++ ⟨cb⟩ : Array Value) = ⟨[.agg ⟨enc x⟩, .agg ⟨enc y⟩] ++ cb⟩ := by simp
                  rw [harr]
                  refine h1.mono ?_
                  rintro e w' ⟨v, h', cv, φ', rfl, hi, hv, _, _, hg⟩
                  refine ⟨?_, ?_⟩
                  · rw [i64_rel hi hv]
                  · exact hg.grown
                have hblk : L'.blk < w.heap.size := H.lt id r.g L' hL
                have hS := AnyQ.slices_SortFunc L6 k aE zE enc hen' hone cfn hO f ⟨cb⟩ L'.blk (L'.base + s * k) c0 d w eg hcmp hH hblk (by rw [hds]; have := S.lt; omega)
                rw [hmix]
                intro n
                rw [hds] at hS
                refine ((callsIn_wide (n := n)).2 hS).mono ?_
                rintro e w' ⟨rfl, d', m, os, hp, hs, rfl⟩
                obtain ⟨p1, p2, p3⟩ := hp
                obtain ⟨H2, G2⟩ := seg_worldK H S.row S.rw hk S.sz hL hrel hl' hleaf d d' hH p1 (by omega) m os
                refine ⟨.tup [], _, .tuple #[], φ, rfl, S.fin (d'.toList.map av) ?_ ?_, .tup .nil, H2, φ.le_refl, G2⟩
                · rw [extract_all _ (by rw [p1, hds]), extract_all _ hds] at p3
                  refine (p3.map av).trans ?_
                  have : d.toList.map av = vs := by
                    apply List.ext_getElem
                    · rw [List.length_map, Array.length_toList, hds, hvl]
                    · intro i h1 h2
                      rw [List.getElem_map]
                      have : d.toList[i]'(by simpa using h1) = (⟨i, by rw [hvl] at h2; exact h2⟩ : Fin (N + 1)) := by simp only [d, Array.toList_ofFn, List.getElem_ofFn]
                      rw [this]
                  rw [this]
                · rw [List.pairwise_map, List.pairwise_iff_getElem]
                  intro i j hi hj hij
                  have hj' : j < N + 1 := by rw [Array.length_toList, p1, hds] at hj; exact hj
                  have := hs i j (Nat.zero_le _) hij hj'
                  rw [getElem!_pos d' i (by rw [p1, hds]; omega), getElem!_pos d' j (by rw [p1, hds]; omega)] at this
                  exact of_decide_eq_false this
  · cases hK
end
end Go.Ab
namespace Go.Ab
set_option linter.unusedSimpArgs false
set_option linter.unusedVariables false
def saysT : Prim := fun _ _ args h K => match args with
  | [] => K (.bool true) h
  | _ => false
theorem saysT_mono : MonoP saysT := by
  intro call call' n args h K K' _ hK s
  unfold saysT at s ⊢
  split at s
  · exact hK _ _ s
  · cases s
theorem saysT_ok {P : Program} {E : Env} (hmix : P.follows .mixedOrders = true) (hE : EnvOK P E) {f fuel : Nat} {fn : AFun} (hf : E.code f = some fn) (hrun : callN E fuel (.func f) [] AHeap.empty (fun v _ => isTrue v) = true) : PrimOK P f saysT := by
  intro call n _ args h K hK
  unfold saysT at hK
  split at hK
  · refine ⟨fun v hv => absurd hv List.not_mem_nil, fun B φ w cargs H hA => ?_⟩
    cases hA
    have h0 := callN_sound hmix hE fuel (.func f) [] AHeap.empty _ hrun (.of w.heap.size) (fun _ _ => none) w [] (relH_empty w) .nil
    simp only at h0
    have h0 := FuncOK.lands h0
    rw [enter_of hE hf] at h0 ⊢
    intro m
    have h1 : CallsIn (FW none) m P f #[] w _ := h0 m
    refine h1.mono ?_
    rintro e w' ⟨v, h', cv, φ', rfl, hi, hv, _, _, hg⟩
    have hb : cv = .bool true := by
      cases hv <;> first | (cases hi; done) | skip
      rename_i b
      cases b with
      | false => cases hi
      | true => rfl
    subst hb
    obtain ⟨q, os, rfl⟩ := Gw.grown hg
    have H1 : RelH P B φ h (w.drewN q) := H.heap rfl
    exact ⟨.bool true, h, .bool true, φ, rfl, hK, .bool _, H1.grow os, φ.le_refl, (Gw.ahead _ w q).trans (Gw.grow (B := B) H1.base os)⟩
  · cases hK
end Go.Ab
namespace Go.Proofs.Ytbamgdknkhhikaa
open Go.Ab
noncomputable def prims : List (Nat × Prim) := [(51, sortP [52]), (46, sortPK 2 [47]), (7, saysT)]
theorem prims_le : AllMono prims := ⟨sortP_mono _, sortPK_mono _ _, saysT_mono, trivial⟩
end Go.Proofs.Ytbamgdknkhhikaa
namespace Go.Proofs.Ytbamgdknkhhikaa
open Go.Ab
def tbl : List (Nat × AFun) := [(5, A5), (6, A6), (8, A8), (10, A10), (13, A13), (19, A19), (21, A21), (23, A23), (24, A24), (30, A30), (31, A31), (32, A32), (35, A35), (36, A36), (37, A37), (38, A38), (39, A39), (40, A40), (41, A41), (47, A47), (48, A48), (52, A52), (54, A54), (55, A55), (56, A56), (57, A57), (58, A58), (59, A59), (60, A60), (61, A61), (66, A66), (67, A67), (68, A68), (69, A69), (88, A88), (89, A89)]
noncomputable def E : Env := envP tbl prims
theorem primle : PrimLe E := envP_le prims_le
theorem d5 {n : Nat} {x0 : AV} {h : AHeap} {K : Kont} (s : s5 (callN E n) n x0 h K = true) : callN E (n + 1) (.func 5) [x0] h K = true := down primle rfl (w5_ok rfl) s
theorem d6 {n : Nat} {x0 : AV} {h : AHeap} {K : Kont} (s : s6 (callN E n) n x0 h K = true) : callN E (n + 1) (.func 6) [x0] h K = true := down primle rfl (w6_ok rfl) s
theorem d8 {n : Nat} {h : AHeap} {K : Kont} (s : s8 (callN E n) n  h K = true) : callN E (n + 1) (.func 8) [] h K = true := down primle rfl (w8_ok rfl) s
theorem d10 {n : Nat} {x0 x1 x2 : AV} {h : AHeap} {K : Kont} (s : s10 (callN E n) n x0 x1 x2 h K = true) : callN E (n + 1) (.func 10) [x0, x1, x2] h K = true := down primle rfl (w10_ok rfl) s
theorem d13 {n : Nat} {x0 x1 : AV} {h : AHeap} {K : Kont} (s : s13 (callN E n) n x0 x1 h K = true) : callN E (n + 1) (.func 13) [x0, x1] h K = true := down primle rfl (w13_ok rfl) s
theorem d19 {n : Nat} {x0 x1 : AV} {h : AHeap} {K : Kont} (s : s19 (callN E n) n x0 x1 h K = true) : callN E (n + 1) (.func 19) [x0, x1] h K = true := down primle rfl (w19_ok rfl) s
theorem d21 {n : Nat} {x0 : AV} {h : AHeap} {K : Kont} (s : s21 (callN E n) n x0 h K = true) : callN E (n + 1) (.func 21) [x0] h K = true := down primle rfl (w21_ok rfl) s
theorem d23 {n : Nat} {x0 : AV} {h : AHeap} {K : Kont} (s : s23 (callN E n) n x0 h K = true) : callN E (n + 1) (.func 23) [x0] h K = true := down primle rfl (w23_ok rfl) s
theorem d24 {n : Nat} {x0 x1 : AV} {h : AHeap} {K : Kont} (s : s24 (callN E n) n x0 x1 h K = true) : callN E (n + 1) (.func 24) [x0, x1] h K = true := down primle rfl (w24_ok rfl) s
theorem d30 {n : Nat} {x0 : AV} {h : AHeap} {K : Kont} (s : s30 (callN E n) n x0 h K = true) : callN E (n + 1) (.func 30) [x0] h K = true := down primle rfl (w30_ok rfl) s
theorem d31 {n : Nat} {x0 : AV} {h : AHeap} {K : Kont} (s : s31 (callN E n) n x0 h K = true) : callN E (n + 1) (.func 31) [x0] h K = true := down primle rfl (w31_ok rfl) s
theorem d32 {n : Nat} {x0 : AV} {h : AHeap} {K : Kont} (s : s32 (callN E n) n x0 h K = true) : callN E (n + 1) (.func 32) [x0] h K = true := down primle rfl (w32_ok rfl) s
theorem d35 {n : Nat} {x0 : AV} {h : AHeap} {K : Kont} (s : s35 (callN E n) n x0 h K = true) : callN E (n + 1) (.func 35) [x0] h K = true := down primle rfl (w35_ok rfl) s
theorem d36 {n : Nat} {x0 x1 : AV} {h : AHeap} {K : Kont} (s : s36 (callN E n) n x0 x1 h K = true) : callN E (n + 1) (.func 36) [x0, x1] h K = true := down primle rfl (w36_ok rfl) s
theorem d37 {n : Nat} {x0 : AV} {h : AHeap} {K : Kont} (s : s37 (callN E n) n x0 h K = true) : callN E (n + 1) (.func 37) [x0] h K = true := down primle rfl (w37_ok rfl) s
theorem d38 {n : Nat} {x0 : AV} {h : AHeap} {K : Kont} (s : s38 (callN E n) n x0 h K = true) : callN E (n + 1) (.func 38) [x0] h K = true := down primle rfl (w38_ok rfl) s
theorem d39 {n : Nat} {x0 : AV} {h : AHeap} {K : Kont} (s : s39 (callN E n) n x0 h K = true) : callN E (n + 1) (.func 39) [x0] h K = true := down primle rfl (w39_ok rfl) s
theorem d40 {n : Nat} {x0 : AV} {h : AHeap} {K : Kont} (s : s40 (callN E n) n x0 h K = true) : callN E (n + 1) (.func 40) [x0] h K = true := down primle rfl (w40_ok rfl) s
theorem d41 {n : Nat} {x0 : AV} {h : AHeap} {K : Kont} (s : s41 (callN E n) n x0 h K = true) : callN E (n + 1) (.func 41) [x0] h K = true := down primle rfl (w41_ok rfl) s
theorem d47 {n : Nat} {x0 x1 x2 : AV} {h : AHeap} {K : Kont} (s : s47 (callN E n) n x0 x1 x2 h K = true) : callN E (n + 1) (.func 47) [x0, x1, x2] h K = true := down primle rfl (w47_ok rfl) s
theorem d48 {n : Nat} {x0 x1 x2 : AV} {h : AHeap} {K : Kont} (s : s48 (callN E n) n x0 x1 x2 h K = true) : callN E (n + 1) (.func 48) [x0, x1, x2] h K = true := down primle rfl (w48_ok rfl) s
theorem d52 {n : Nat} {x0 x1 : AV} {h : AHeap} {K : Kont} (s : s52 (callN E n) n x0 x1 h K = true) : callN E (n + 1) (.func 52) [x0, x1] h K = true := down primle rfl (w52_ok rfl) s
theorem d54 {n : Nat} {x0 x1 : AV} {h : AHeap} {K : Kont} (s : s54 (callN E n) n x0 x1 h K = true) : callN E (n + 1) (.func 54) [x0, x1] h K = true := down primle rfl (w54_ok rfl) s
theorem d55 {n : Nat} {x0 x1 : AV} {h : AHeap} {K : Kont} (s : s55 (callN E n) n x0 x1 h K = true) : callN E (n + 1) (.func 55) [x0, x1] h K = true := down primle rfl (w55_ok rfl) s
theorem d56 {n : Nat} {x0 : AV} {h : AHeap} {K : Kont} (s : s56 (callN E n) n x0 h K = true) : callN E (n + 1) (.func 56) [x0] h K = true := down primle rfl (w56_ok rfl) s
theorem d57 {n : Nat} {x0 : AV} {h : AHeap} {K : Kont} (s : s57 (callN E n) n x0 h K = true) : callN E (n + 1) (.func 57) [x0] h K = true := down primle rfl (w57_ok rfl) s
theorem d58 {n : Nat} {x0 x1 : AV} {h : AHeap} {K : Kont} (s : s58 (callN E n) n x0 x1 h K = true) : callN E (n + 1) (.func 58) [x0, x1] h K = true := down primle rfl (w58_ok rfl) s
theorem d59 {n : Nat} {x0 : AV} {h : AHeap} {K : Kont} (s : s59 (callN E n) n x0 h K = true) : callN E (n + 1) (.func 59) [x0] h K = true := down primle rfl (w59_ok rfl) s
theorem d60 {n : Nat} {x0 : AV} {h : AHeap} {K : Kont} (s : s60 (callN E n) n x0 h K = true) : callN E (n + 1) (.func 60) [x0] h K = true := down primle rfl (w60_ok rfl) s
theorem d61 {n : Nat} {x0 : AV} {h : AHeap} {K : Kont} (s : s61 (callN E n) n x0 h K = true) : callN E (n + 1) (.func 61) [x0] h K = true := down primle rfl (w61_ok rfl) s
theorem d66 {n : Nat} {x0 x1 : AV} {h : AHeap} {K : Kont} (s : s66 (callN E n) n x0 x1 h K = true) : callN E (n + 1) (.func 66) [x0, x1] h K = true := down primle rfl (w66_ok rfl) s
theorem d67 {n : Nat} {x0 x1 : AV} {h : AHeap} {K : Kont} (s : s67 (callN E n) n x0 x1 h K = true) : callN E (n + 1) (.func 67) [x0, x1] h K = true := down primle rfl (w67_ok rfl) s
theorem d68 {n : Nat} {x0 x1 : AV} {h : AHeap} {K : Kont} (s : s68 (callN E n) n x0 x1 h K = true) : callN E (n + 1) (.func 68) [x0, x1] h K = true := down primle rfl (w68_ok rfl) s
theorem d69 {n : Nat} {x0 x1 : AV} {h : AHeap} {K : Kont} (s : s69 (callN E n) n x0 x1 h K = true) : callN E (n + 1) (.func 69) [x0, x1] h K = true := down primle rfl (w69_ok rfl) s
theorem d88 {n : Nat} {x0 : AV} {h : AHeap} {K : Kont} (s : s88 (callN E n) n x0 h K = true) : callN E (n + 1) (.func 88) [x0] h K = true := down primle rfl (w88_ok rfl) s
theorem d89 {n : Nat} {x0 x1 x2 : AV} {h : AHeap} {K : Kont} (s : s89 (callN E n) n x0 x1 x2 h K = true) : callN E (n + 1) (.func 89) [x0, x1, x2] h K = true := down primle rfl (w89_ok rfl) s
end Go.Proofs.Ytbamgdknkhhikaa
namespace Go.Ab
set_option linter.unusedSimpArgs false
set_option linter.unusedVariables false
abbrev Str := List Nat
structure But (x : Nat) (h h' : AHeap) : Prop where
  sz : h.sz ≤ h'.sz
  keep : ∀ j o, j ≠ x → h.get j = some o → h'.get j = some o
theorem But.refl (x : Nat) (h : AHeap) : But x h h := ⟨Nat.le_refl _, fun _ _ _ e => e⟩
theorem But.trans {x : Nat} {a b c : AHeap} (p : But x a b) (q : But x b c) : But x a c := ⟨Nat.le_trans p.sz q.sz, fun j o e h => q.keep j o e (p.keep j o e h)⟩
theorem But.of_ext {x : Nat} {h h' : AHeap} (e : Ext h h') : But x h h' := ⟨e.1, fun j o _ hj => e.2 j o hj⟩
theorem But.put (x : Nat) (h : AHeap) (o : AObj) : But x h (h.put x o) := ⟨by simp, fun j o' e hj => by rw [AHeap.get_put, if_neg e]; exact hj⟩
theorem But.ext {x : Nat} {h0 h h' : AHeap} (p : But x h h') (e : Ext h0 h) (k0 : h0.Ok) (hx : h0.sz ≤ x) : Ext h0 h' :=
  ⟨Nat.le_trans e.1 p.sz, fun j o hj => p.keep j o (by have := k0.lt hj; omega) (e.2 j o hj)⟩
theorem But.var {x j : Nat} {h h' : AHeap} {c : List AV} (p : But x h h') (V : Var h j c) (e : j ≠ x) : Var h' j c := by
  have V' : h.row j = some (VRow c) := V
  show h'.row j = _
  rw [AHeap.row_some] at V' ⊢
  exact p.keep j _ e V'
theorem keep_own {b : Nat} {h h' : AHeap} {n : Nat} {v : AV} {es : List (List AV)} (O : Own b h n v es) (p : ∀ j o, b ≤ j → h.get j = some o → h'.get j = some o) : Own b h' n v es := by
  rcases O with V | ⟨id, r, w1, w2, w3, w4, w5, w6, w7⟩
  · exact .inl V
  · exact .inr ⟨id, r, w1, w2, by rw [AHeap.row_some] at w3 ⊢; exact p _ _ w1 w3, w4, w5, w6, w7⟩
theorem But.own {x b : Nat} {h h' : AHeap} {n : Nat} {v : AV} {es : List (List AV)} (p : But x h h') (O : Own b h n v es) (e : x < b) : Own b h' n v es :=
  keep_own O fun j o hj g => p.keep j o (by omega) g
theorem get_push_same (h : AHeap) (o : AObj) : (h.push o).get h.sz = some o := by rw [AHeap.get_push, if_pos rfl]
theorem get_put_same (h : AHeap) (id : Nat) (o : AObj) : (h.put id o).get id = some o := by rw [AHeap.get_put, if_pos rfl]
theorem same_int (k : IntKind) (a : Int) : AV.same (.int k a) (.int k a) = true := by
  simp only [AV.same, Nat.beq_refl, Bool.true_and]; rw [ieqb_dec]; simp
theorem same_str (s : Str) : AV.same (.str s) (.str s) = true := by
  simp only [AV.same]; rw [leqb_dec]; simp
theorem same_bool (b : Bool) : AV.same (.bool b) (.bool b) = true := by cases b <;> rfl
theorem same_ptr (a b c d : Nat) : AV.same (.ptr a b c d) (.ptr a b c d) = true := by
  simp only [AV.same, Nat.beq_refl, Bool.and_self]
theorem same_slc (a b c d e : Nat) (f : Bool) : AV.same (.slc a b c d e f) (.slc a b c d e f) = true := by
  simp only [AV.same, Nat.beq_refl, Bool.and_self, Bool.true_and]; cases f <;> rfl
theorem o_fadr0 (off a b c : Nat) (k : AV → Bool) : optB (fadrA off (.ptr a b c 0)) k = k (.ptr a b c off) := by rw [fadrA_ptr, Nat.zero_add]; rfl
theorem o_lss (K : IntKind) (a b : Int) (k : AV → Bool) : optB (binA .lss (.int K a) (.int K b)) k = k (.bool (decide (a < b))) := by rw [binA_lss]; rfl
theorem o_gtr (K : IntKind) (a b : Int) (k : AV → Bool) : optB (binA .gtr (.int K a) (.int K b)) k = k (.bool (decide (b < a))) := by rw [binA_gtr]; rfl
theorem o_leq (K : IntKind) (a b : Int) (k : AV → Bool) : optB (binA .leq (.int K a) (.int K b)) k = k (.bool (decide (a ≤ b))) := by rw [binA_leq]; rfl
theorem o_geq (K : IntKind) (a b : Int) (k : AV → Bool) : optB (binA .geq (.int K a) (.int K b)) k = k (.bool (decide (b ≤ a))) := by rw [binA_geq]; rfl
theorem o_eql (K : IntKind) (a b : Int) (k : AV → Bool) : optB (binA .eql (.int K a) (.int K b)) k = k (.bool (decide (a = b))) := by rw [binA_eql]; rfl
theorem o_neq (K : IntKind) (a b : Int) (k : AV → Bool) : optB (binA .neq (.int K a) (.int K b)) k = k (.bool (!decide (a = b))) := by rw [binA_neq]; rfl
theorem nat64 {a b : Nat} (h : a + b < lim) : binA .add (.int .i64 (a : Int)) (.int .i64 (b : Int)) = some (.int .i64 ((a + b : Nat) : Int)) := by
  have h' : a + b < 4611686018427387904 := h
  rw [add64 (by omega) (by omega)]; rfl
def encB (s : Str) : List (List AV) := s.map fun (b : Nat) => [AV.int .u8 (b : Int)]
theorem bytesOf_enc : ∀ (s : Str), (∀ b ∈ s, b < 256) → bytesOf (encB s) = some s
  | [], _ => rfl
  | b :: s, h => by
    show bytesOf ([AV.int .u8 (.ofNat b)] :: encB s) = _
    simp only [bytesOf, bytesOf_enc s (fun c hc => h c (List.mem_cons_of_mem _ hc)), nblt_true.2 (h b List.mem_cons_self), cond_true]
theorem View.atE {h : AHeap} {n : Nat} {v : AV} {es : List (List AV)} (V : View h n v es) {i : Nat} {e : List AV} (hi : es[i]? = some e) :
    ∃ id g j, ∀ h', Ext h h' → (∀ k, iadrA h' n v (.int k (i : Int)) = some (.ptr id g j 0)) ∧ ∀ ag off m, loadA h' ag m (.ptr id g j off) = partA ag off m e := by
  rcases V with ⟨rfl, _⟩ | ⟨id, g, s, cap, ex, r, rfl, h2, h3, h4, h5, h6⟩
  · simp at hi
  · have hlt : i < es.length := (List.getElem?_eq_some_iff.1 hi).1
    refine ⟨id, g, s + i, fun h' e' => ?_⟩
    have h2' := e'.row h2
    refine ⟨fun k => ?_, fun ag off m => ?_⟩
    · have : rowSz h' id n = true := by simp only [rowSz, h2', nbeq_true]; exact h4
      simp only [iadrA, asNat_nat, nblt_true.2 hlt, this, Bool.and_self, cond_true]
    · have hn : nth r.es (s + i) = some e := by
        rw [nth_eq]
        rw [← h5, List.getElem?_take] at hi
        simp only [hlt, if_true, List.getElem?_drop] at hi
        exact hi
      simp only [loadA, h2', nble_true.2 h3, cond_true, hn]
theorem neqi (k : IntKind) (z : Int) : binA .neq (.int k z) (.int k z) = some (.bool false) := by rw [binA_neq]; simp
end Go.Ab
namespace Go.Ab
set_option linter.unusedSimpArgs false
set_option linter.unusedVariables false
structure Fr (X : Nat → Prop) (h h' : AHeap) : Prop where
  sz : h.sz ≤ h'.sz
  keep : ∀ j o, ¬ X j → h.get j = some o → h'.get j = some o
section
variable {X Y : Nat → Prop} {h h' h'' h0 : AHeap}
theorem Fr.refl (X : Nat → Prop) (h : AHeap) : Fr X h h := ⟨Nat.le_refl _, fun _ _ _ e => e⟩
theorem Fr.trans (p : Fr X h h') (q : Fr X h' h'') : Fr X h h'' := ⟨Nat.le_trans p.sz q.sz, fun j o e g => q.keep j o e (p.keep j o e g)⟩
theorem Fr.mono (p : Fr X h h') (i : ∀ j, X j → Y j) : Fr Y h h' := ⟨p.sz, fun j o e g => p.keep j o (fun x => e (i j x)) g⟩
theorem Fr.of_ext (e : Ext h h') : Fr X h h' := ⟨e.1, fun j o _ g => e.2 j o g⟩
theorem Fr.put {id : Nat} (hx : X id) (h : AHeap) (o : AObj) : Fr X h (h.put id o) := ⟨by simp, fun j o' e g => by rw [AHeap.get_put, if_neg (fun e' => e (by rw [e']; exact hx))]; exact g⟩
theorem Fr.of_but {id : Nat} (hx : X id) (b : But id h h') : Fr X h h' := ⟨b.sz, fun j o e g => b.keep j o (fun e' => e (by rw [e']; exact hx)) g⟩
theorem Fr.ext (p : Fr X h h') (e : Ext h0 h) (k0 : h0.Ok) (hx : ∀ j, X j → h0.sz ≤ j) : Ext h0 h' :=
  ⟨Nat.le_trans e.1 p.sz, fun j o hj => p.keep j o (fun x => by have := k0.lt hj; have := hx j x; omega) (e.2 j o hj)⟩
theorem Fr.new (p : Fr X h h') (q : Fr (fun j => X j ∨ h.sz ≤ j) h' h'') (k : h.Ok) : Fr X h h'' :=
  ⟨Nat.le_trans p.sz q.sz, fun j o e g => q.keep j o (fun x => by rcases x with x | x; exact e x; have := k.lt g; omega) (p.keep j o e g)⟩
theorem Fr.row {j : Nat} {r : Row} (p : Fr X h h') (e : ¬ X j) (g : h.row j = some r) : h'.row j = some r := by
  rw [AHeap.row_some] at *; exact p.keep j _ e g
theorem Fr.var {j : Nat} {c : List AV} (p : Fr X h h') (V : Var h j c) (e : ¬ X j) : Var h' j c := p.row e V
theorem Fr.view {n : Nat} {v : AV} {es : List (List AV)} (p : Fr X h h') (V : View h n v es) (e : ∀ id g s l c ex, v = .slc id g s l c ex → ¬ X id) : View h' n v es := by
  rcases V with h1 | ⟨id, g, s, cap, ex, r, rfl, h2, h3⟩
  · exact .inl h1
  · exact .inr ⟨id, g, s, cap, ex, r, rfl, p.row (e _ _ _ _ _ _ rfl) h2, h3⟩
end
section
variable {κ : Type}
def lk [DecidableEq κ] : List (κ × AV) → κ → Option AV
  | [], _ => none
  | p :: t, k => if k = p.1 then some p.2 else lk t k
def up [DecidableEq κ] : List (κ × AV) → κ → AV → List (κ × AV)
  | [], k, v => [(k, v)]
  | p :: t, k, v => if k = p.1 then (k, v) :: t else p :: up t k v
def dl [DecidableEq κ] : List (κ × AV) → κ → List (κ × AV)
  | [], _ => []
  | p :: t, k => if k = p.1 then t else p :: dl t k
structure Keys [DecidableEq κ] (kk : KK) (ek : κ → AV) : Prop where
  fits : ∀ k, fitsKK kk (ek k) = true
  eq : ∀ a b, keyEq (ek a) (ek b) = some (decide (a = b))
inductive Ents (ek : κ → AV) : List (AV × AV × Nat) → List (κ × AV) → Prop
  | nil : Ents ek [] []
  | cons {k : κ} {v : AV} {b : Nat} {es : List (AV × AV × Nat)} {l : List (κ × AV)} (t : Ents ek es l) : Ents ek ((ek k, v, b) :: es) ((k, v) :: l)
structure KMapE (ek : κ → AV) (h : AHeap) (id : Nat) (es : List (AV × AV × Nat)) (c : Nat) (l : List (κ × AV)) : Prop where
  get : h.get id = some (.map es c)
  ents : Ents ek es l
  born : ∀ e ∈ es, e.2.2 < c
  nd : (es.map fun e => e.2.2).Nodup
  keys : (l.map fun p => p.1).Nodup
def KMap (ek : κ → AV) (h : AHeap) (id : Nat) (l : List (κ × AV)) : Prop := ∃ es c, KMapE ek h id es c l
variable {kk : KK} {ek : κ → AV} {h h' : AHeap} {id : Nat} {l : List (κ × AV)}
theorem up_keys [DecidableEq κ] {k : κ} {v : AV} : ∀ {l : List (κ × AV)}, (l.map fun p => p.1).Nodup → ((up l k v).map fun p => p.1).Nodup ∧ ∀ x, x ∈ (up l k v).map (fun p => p.1) → x = k ∨ x ∈ l.map fun p => p.1
  | [], _ => by simp [up]
  | p :: t, hn => by
    simp only [List.map_cons, List.nodup_cons] at hn
    obtain ⟨i1, i2⟩ := up_keys (k := k) (v := v) hn.2
    simp only [up]
    by_cases e : k = p.1
    · rw [if_pos e]
      subst e
      exact ⟨by simp only [List.map_cons, List.nodup_cons]; exact hn, fun x hx => .inr (by simpa using hx)⟩
    · rw [if_neg e]
      refine ⟨?_, fun x hx => ?_⟩
      · simp only [List.map_cons, List.nodup_cons]
        refine ⟨fun hm => ?_, i1⟩
        rcases i2 _ hm with e' | hm
        · exact e e'.symm
        · exact hn.1 hm
      · simp only [List.map_cons, List.mem_cons] at hx ⊢
        rcases hx with hx | hx
        · exact .inr (.inl hx)
        · rcases i2 x hx with hx | hx
          · exact .inl hx
          · exact .inr (.inr hx)
theorem dl_sub [DecidableEq κ] {k : κ} : ∀ {l : List (κ × AV)}, (dl l k).Sublist l
  | [] => .slnil
  | p :: t => by
    simp only [dl]
    by_cases e : k = p.1
    · rw [if_pos e]; exact List.sublist_cons_self _ _
    · rw [if_neg e]; exact dl_sub.cons_cons _
theorem Ents.find [DecidableEq κ] (K : Keys kk ek) (k : κ) {es : List (AV × AV × Nat)} {l : List (κ × AV)} (E : Ents ek es l) : findE (ek k) es = some (lk l k) := by
  induction E with
  | nil => rfl
  | cons t ih =>
    rename_i k' v b es l
    simp only [findE, K.eq, lk]
    by_cases e : k = k'
    · rw [decide_eq_true e, if_pos e]
    · rw [decide_eq_false e, if_neg e]; exact ih
theorem Ents.set [DecidableEq κ] (K : Keys kk ek) (k : κ) (v : AV) {es : List (AV × AV × Nat)} {l : List (κ × AV)} (E : Ents ek es l) (hs : lk l k ≠ none) : Ents ek (setE (ek k) v es) (up l k v) ∧ (setE (ek k) v es).map (fun e => e.2.2) = es.map fun e => e.2.2 := by
  induction E with
  | nil => exact absurd rfl hs
  | cons t ih =>
    rename_i k' v' b es l
    simp only [setE, K.eq, up]
    simp only [lk] at hs
    by_cases e : k = k'
    · rw [decide_eq_true e, if_pos e]
      exact ⟨.cons t, rfl⟩
    · rw [if_neg e] at hs
      rw [decide_eq_false e, if_neg e]
      obtain ⟨i1, i2⟩ := ih hs
      exact ⟨.cons i1, by simp only [List.map_cons, i2]⟩
theorem Ents.add [DecidableEq κ] {k : κ} {v : AV} {c : Nat} {es : List (AV × AV × Nat)} {l : List (κ × AV)} (E : Ents ek es l) (hs : lk l k = none) : Ents ek (es ++ [(ek k, v, c)]) (up l k v) := by
  induction E with
  | nil => exact .cons .nil
  | cons t ih =>
    rename_i k' v' b es l
    simp only [lk] at hs
    simp only [up, List.cons_append]
    by_cases e : k = k'
    · rw [if_pos e] at hs; cases hs
    · rw [if_neg e] at hs ⊢
      exact .cons (ih hs)
theorem Ents.del [DecidableEq κ] (K : Keys kk ek) (k : κ) {es : List (AV × AV × Nat)} {l : List (κ × AV)} (E : Ents ek es l) : Ents ek (delE (ek k) es) (dl l k) ∧ (delE (ek k) es).Sublist es := by
  induction E with
  | nil => exact ⟨.nil, .slnil⟩
  | cons t ih =>
    rename_i k' v' b es l
    simp only [delE, K.eq, dl]
    by_cases e : k = k'
    · rw [decide_eq_true e, if_pos e]
      exact ⟨t, List.sublist_cons_self _ _⟩
    · rw [decide_eq_false e, if_neg e]
      exact ⟨.cons ih.1, ih.2.cons_cons _⟩
theorem Ents.length {es : List (AV × AV × Nat)} {l : List (κ × AV)} (E : Ents ek es l) : es.length = l.length := by
  induction E with
  | nil => rfl
  | cons t ih => simp [ih]
theorem dl_none [DecidableEq κ] {k : κ} : ∀ {l : List (κ × AV)}, lk l k = none → dl l k = l
  | [], _ => rfl
  | p :: t, hs => by
    simp only [lk] at hs
    simp only [dl]
    by_cases e : k = p.1
    · rw [if_pos e] at hs; cases hs
    · rw [if_neg e] at hs ⊢
      rw [dl_none hs]
theorem kmap_new (h : AHeap) : mkmapV h = some (.map h.sz, h.push (.map [] 0)) ∧ KMap ek (h.push (.map [] 0)) h.sz ([] : List (κ × AV)) :=
  ⟨rfl, [], 0, by rw [AHeap.get_push, if_pos rfl], .nil, by simp, by simp, by simp⟩
theorem KMap.lt (M : KMap ek h id l) (k : h.Ok) : id < h.sz := by obtain ⟨es, c, m⟩ := M; exact k.lt m.get
theorem KMap.keys (M : KMap ek h id l) : (l.map fun p => p.1).Nodup := by obtain ⟨es, c, m⟩ := M; exact m.keys
theorem Fr.kmap {X : Nat → Prop} (p : Fr X h h') (M : KMap ek h id l) (e : ¬ X id) : KMap ek h' id l := by
  obtain ⟨es, c, m⟩ := M
  exact ⟨es, c, p.keep _ _ e m.get, m.ents, m.born, m.nd, m.keys⟩
theorem KMap.look [DecidableEq κ] (M : KMap ek h id l) (K : Keys kk ek) (z : AV) (k : κ) : lookA h kk false z (.map id) (ek k) = some ((lk l k).getD z) := by
  obtain ⟨es, c, m⟩ := M
  simp only [lookA, K.fits, cond_true, mapOf, m.get, m.ents.find K]
  cases lk l k <;> rfl
theorem KMap.look2 [DecidableEq κ] (M : KMap ek h id l) (K : Keys kk ek) (z : AV) (k : κ) : lookA h kk true z (.map id) (ek k) = some (.tup [(lk l k).getD z, .bool (lk l k).isSome]) := by
  obtain ⟨es, c, m⟩ := M
  simp only [lookA, K.fits, cond_true, mapOf, m.get, m.ents.find K]
  cases lk l k <;> rfl
theorem KMap.len (M : KMap ek h id l) : lenA h 2 (.map id) = some (.int .i64 (l.length : Int)) := by
  obtain ⟨es, c, m⟩ := M
  simp only [lenA, m.get, m.ents.length]; rfl
theorem KMap.upd [DecidableEq κ] (M : KMap ek h id l) (K : Keys kk ek) (k : κ) (v : AV) : ∃ h', mupdA h kk (.map id) (ek k) v = some h' ∧ But id h h' ∧ h'.sz = h.sz ∧ (h.Ok → h'.Ok) ∧ KMap ek h' id (up l k v) := by
  obtain ⟨es, c, m⟩ := M
  have hid := m.get
  cases hl : lk l k with
  | none =>
    refine ⟨h.put id (.map (es ++ [(ek k, v, c)]) (c + 1)), ?_, But.put _ _ _, by simp, fun o => o.put (o.lt m.get) _, es ++ [(ek k, v, c)], c + 1, by rw [AHeap.get_put, if_pos rfl], m.ents.add hl, ?_, ?_, (up_keys m.keys).1⟩
    · simp only [mupdA, K.fits, cond_true, m.get, m.ents.find K, hl]
    · intro e he
      rcases List.mem_append.1 he with he | he
      · have := m.born e he; omega
      · simp only [List.mem_singleton] at he; subst he; simp
    · rw [List.map_append, List.nodup_append]
      refine ⟨m.nd, by simp, fun a ha b hb => ?_⟩
      obtain ⟨e, he, rfl⟩ := List.mem_map.1 ha
      have := m.born e he
      simp at hb; omega
  | some u =>
    obtain ⟨i1, i2⟩ := m.ents.set K k v (by rw [hl]; exact fun e => by cases e)
    refine ⟨h.put id (.map (setE (ek k) v es) c), ?_, But.put _ _ _, by simp, fun o => o.put (o.lt m.get) _, setE (ek k) v es, c, by rw [AHeap.get_put, if_pos rfl], i1, ?_, by rw [i2]; exact m.nd, (up_keys m.keys).1⟩
    · simp only [mupdA, K.fits, cond_true, m.get, m.ents.find K, hl]
    · intro e he
      have : e.2.2 ∈ (setE (ek k) v es).map fun e => e.2.2 := List.mem_map.2 ⟨e, he, rfl⟩
      rw [i2] at this
      obtain ⟨e', he', heq⟩ := List.mem_map.1 this
      rw [← heq]; exact m.born e' he'
theorem KMap.del [DecidableEq κ] (M : KMap ek h id l) (K : Keys kk ek) (k : κ) : ∃ h', delA h kk (.map id) (ek k) = some h' ∧ But id h h' ∧ h'.sz = h.sz ∧ (h.Ok → h'.Ok) ∧ KMap ek h' id (dl l k) := by
  obtain ⟨es, c, m⟩ := M
  cases hl : lk l k with
  | none =>
    refine ⟨h, ?_, But.refl _ _, rfl, fun o => o, es, c, by rw [dl_none hl]; exact m⟩
    simp only [delA, K.fits, cond_true, m.get, m.ents.find K, hl]
  | some u =>
    obtain ⟨i1, i2⟩ := m.ents.del K k
    refine ⟨h.put id (.map (delE (ek k) es) c), ?_, But.put _ _ _, by simp, fun o => o.put (o.lt m.get) _, delE (ek k) es, c, by rw [AHeap.get_put, if_pos rfl], i1, fun e he => m.born e (i2.subset he), m.nd.sublist (i2.map _), m.keys.sublist (dl_sub.map _)⟩
    simp only [delA, K.fits, cond_true, m.get, m.ents.find K, hl]
def KIter (ek : κ → AV) (h : AHeap) (it id : Nat) (l done : List (κ × AV)) : Prop :=
  ∃ es c de, KMapE ek h id es c l ∧ Ents ek de done ∧ (∀ e ∈ de, e ∈ es) ∧ (de.map fun e => e.2.2).Nodup ∧ h.get it = some (.iter (some id) c ((de.map fun e => e.2.2).reverse) c)
theorem Fr.kiter {X : Nat → Prop} {it : Nat} {done : List (κ × AV)} (p : Fr X h h') (M : KIter ek h it id l done) (e1 : ¬ X it) (e2 : ¬ X id) : KIter ek h' it id l done := by
  obtain ⟨es, c, de, m, h1, h2, h3, h4⟩ := M
  exact ⟨es, c, de, ⟨p.keep _ _ e2 m.get, m.ents, m.born, m.nd, m.keys⟩, h1, h2, h3, p.keep _ _ e1 h4⟩
theorem KIter.map {it : Nat} {done : List (κ × AV)} (M : KIter ek h it id l done) : KMap ek h id l := by
  obtain ⟨es, c, de, m, _⟩ := M; exact ⟨es, c, m⟩
theorem KMap.range (M : KMap ek h id l) (o : h.Ok) : rngA h (.map id) = some (.itr h.sz, h.push (.iter (some id) ((h.push (.map [] 0)).sz - 1 - h.sz + (match h.get id with | some (.map _ c) => c | _ => 0)) [] (match h.get id with | some (.map _ c) => c | _ => 0))) ∧
    KIter ek (h.push (.iter (some id) ((h.push (.map [] 0)).sz - 1 - h.sz + (match h.get id with | some (.map _ c) => c | _ => 0)) [] (match h.get id with | some (.map _ c) => c | _ => 0))) h.sz id l [] := by
  obtain ⟨es, c, m⟩ := M
  have hlt := o.lt m.get
  simp only [m.get, AHeap.sz_push, Nat.add_sub_cancel, Nat.sub_self, Nat.zero_add]
  refine ⟨by simp only [rngA, m.get], es, c, [], ⟨?_, m.ents, m.born, m.nd, m.keys⟩, .nil, by simp, by simp, by rw [AHeap.get_push, if_pos rfl]; rfl⟩
  rw [AHeap.get_push, if_neg (by omega)]; exact m.get
theorem KMap.range' (M : KMap ek h id l) (o : h.Ok) : ∃ h', rngA h (.map id) = some (.itr h.sz, h') ∧ Ext h h' ∧ h'.Ok ∧ h'.sz = h.sz + 1 ∧ KIter ek h' h.sz id l [] := by
  obtain ⟨h1, h2⟩ := M.range o
  exact ⟨_, h1, ext_push o _, o.push _, by simp, h2⟩
theorem findBorn_mem {es : List (AV × AV × Nat)} (hn : (es.map fun e => e.2.2).Nodup) {e : AV × AV × Nat} (he : e ∈ es) : findBorn e.2.2 es = some e := by
  induction es with
  | nil => cases he
  | cons a t ih =>
    simp only [List.map_cons, List.nodup_cons] at hn
    simp only [findBorn]
    rcases List.mem_cons.1 he with rfl | he
    · rw [nbeq_true.2 rfl, cond_true]
    · have : a.2.2 ≠ e.2.2 := fun q => hn.1 (by rw [q]; exact List.mem_map.2 ⟨e, he, rfl⟩)
      rw [nbeq_false.2 this, cond_false]
      exact ih hn.2 he
theorem Ents.mem {es : List (AV × AV × Nat)} {l : List (κ × AV)} (E : Ents ek es l) {e : AV × AV × Nat} (he : e ∈ es) : ∃ k, e.1 = ek k ∧ (k, e.2.1) ∈ l := by
  induction E with
  | nil => cases he
  | cons t ih =>
    rename_i k v b es l
    rcases List.mem_cons.1 he with rfl | he
    · exact ⟨k, rfl, List.mem_cons_self⟩
    · obtain ⟨k', h1, h2⟩ := ih he
      exact ⟨k', h1, List.mem_cons_of_mem _ h2⟩
theorem Ents.append {es fs : List (AV × AV × Nat)} {l m : List (κ × AV)} (E : Ents ek es l) (F : Ents ek fs m) : Ents ek (es ++ fs) (l ++ m) := by
  induction E with
  | nil => exact F
  | cons t ih => exact .cons ih
theorem Ents.mem' {es : List (AV × AV × Nat)} {l : List (κ × AV)} (E : Ents ek es l) {p : κ × AV} (hp : p ∈ l) : ∃ b, (ek p.1, p.2, b) ∈ es := by
  induction E with
  | nil => cases hp
  | cons t ih =>
    rename_i k v b es l
    rcases List.mem_cons.1 hp with rfl | hp
    · exact ⟨b, List.mem_cons_self⟩
    · obtain ⟨b', h1⟩ := ih hp
      exact ⟨b', List.mem_cons_of_mem _ h1⟩
theorem Keys.inj [DecidableEq κ] (K : Keys kk ek) {a b : κ} (e : ek a = ek b) : a = b := by
  have h1 := K.eq a b
  have h2 := K.eq a a
  rw [← e, h2] at h1
  simp at h1
  exact h1
theorem Ents.uniq [DecidableEq κ] (K : Keys kk ek) {es : List (AV × AV × Nat)} {l : List (κ × AV)} (E : Ents ek es l) (hk : (l.map fun p => p.1).Nodup) {e f : AV × AV × Nat} (he : e ∈ es) (hf : f ∈ es) (h1 : e.1 = f.1) : e = f := by
  induction E with
  | nil => cases he
  | cons t ih =>
    rename_i k v b es l
    simp only [List.map_cons, List.nodup_cons] at hk
    have no : ∀ x ∈ es, x.1 ≠ ek k := by
      intro x hx q
      obtain ⟨k', q1, q2⟩ := t.mem hx
      have : k = k' := K.inj (by rw [← q, q1])
      subst this
      exact hk.1 (List.mem_map.2 ⟨_, q2, rfl⟩)
    rcases List.mem_cons.1 he with rfl | he <;> rcases List.mem_cons.1 hf with rfl | hf
    · rfl
    · exact absurd h1.symm (no f hf)
    · exact absurd h1 (no e he)
    · exact ih hk.2 he hf
theorem KIter.next [DecidableEq κ] (K : Keys kk ek) {it : Nat} {done : List (κ × AV)} {Kt : Kont} (M : KIter ek h it id l done) (o : h.Ok) (hne : it ≠ id) (kE : done.Perm l → Kt (.tup [.bool false]) h = true)
    (kN : ∀ k v h', (k, v) ∈ l → (k, v) ∉ done → But it h h' → h'.Ok → h'.sz = h.sz → KIter ek h' it id l (done ++ [(k, v)]) → entA h' (.itr it) = some (.tup [ek k, v]) → Kt (.tup [.bool true, ek k, v]) h' = true) : nextA h (.itr it) Kt = true := by
  obtain ⟨es, c, de, m, h1, h2, h3, h4⟩ := M
  have hc : ∀ e ∈ es, Nat.blt e.2.2 c = true := fun e he => nblt_true.2 (m.born e he)
  have hdn : ∀ p, p ∈ done ↔ ∃ e ∈ de, e.1 = ek p.1 ∧ e.2.1 = p.2 := by
    intro p
    constructor
    · intro hp
      obtain ⟨b, hb⟩ := h1.mem' hp
      exact ⟨_, hb, rfl, rfl⟩
    · rintro ⟨e, he, e1, e2⟩
      obtain ⟨k, q1, q2⟩ := h1.mem he
      have : k = p.1 := K.inj (by rw [← q1, e1])
      subst this
      rw [e2] at q2
      exact q2
  have hdu : de.Nodup := by
    rw [List.nodup_iff_pairwise_ne] at h3 ⊢
    rw [List.pairwise_map] at h3
    exact h3.imp fun q e => q (by rw [e])
  unfold nextA
  simp only [h4, m.get]
  have hg : (!((de.map fun e => e.2.2).reverse).isEmpty && !es.isEmpty && es.all fun e => !Nat.blt e.2.2 c) = false := by
    cases hes : es with
    | nil => simp
    | cons a t =>
      have := hc a (by rw [hes]; exact List.mem_cons_self)
      simp [this]
  rw [hg, cond_false, List.all_eq_true]
  intro x hx
  have hcand : x = none ∧ (∀ e ∈ es, e ∈ de) ∨ ∃ e, x = some e ∧ e ∈ es ∧ e ∉ de := by
    simp only [cands] at hx
    have hmem : ∀ e ∈ es, (memN e.2.2 ((de.map fun e => e.2.2).reverse) = true ↔ e ∈ de) := by
      intro e he
      rw [memN_iff, List.mem_reverse]
      constructor
      · intro q
        obtain ⟨f, hf, q⟩ := List.mem_map.1 q
        have a1 := findBorn_mem m.nd he
        have a2 := findBorn_mem m.nd (h2 f hf)
        rw [q, a1] at a2
        cases a2; exact hf
      · intro q; exact List.mem_map.2 ⟨e, q, rfl⟩
    rcases List.mem_append.1 hx with hx | hx
    · refine .inl ?_
      cases he : (List.filter (fun e => Nat.blt e.2.2 c) (List.filter (fun e => !memN e.2.2 ((de.map fun e => e.2.2).reverse)) es)).isEmpty with
      | false => rw [he] at hx; cases hx
      | true =>
        rw [he] at hx
        simp only [cond_true, List.mem_singleton] at hx
        refine ⟨hx, fun e hee => ?_⟩
        rw [List.isEmpty_iff] at he
        cases hm : memN e.2.2 ((de.map fun e => e.2.2).reverse) with
        | true => exact (hmem e hee).1 hm
        | false =>
          have : e ∈ List.filter (fun e => Nat.blt e.2.2 c) (List.filter (fun e => !memN e.2.2 ((de.map fun e => e.2.2).reverse)) es) := by
            rw [List.mem_filter, List.mem_filter]
            exact ⟨⟨hee, by rw [hm]; rfl⟩, hc e hee⟩
          rw [he] at this; cases this
    · obtain ⟨e, he, rfl⟩ := List.mem_map.1 hx
      refine .inr ⟨e, rfl, ?_⟩
      have : e ∈ List.filter (fun e => !memN e.2.2 ((de.map fun e => e.2.2).reverse)) es := by
        rcases List.mem_append.1 he with he | he <;> exact (List.mem_filter.1 he).1
      rw [List.mem_filter] at this
      refine ⟨this.1, fun q => ?_⟩
      have := this.2
      rw [(hmem e (h2 e q)).2 q] at this
      cases this
  rcases hcand with ⟨rfl, hall⟩ | ⟨e, rfl, hes, hde⟩
  · refine kE ?_
    have hdd : (done.map fun p => p.1).Nodup := by
      rw [List.nodup_iff_pairwise_ne, List.pairwise_map]
      have : ∀ {de : List (AV × AV × Nat)} {done : List (κ × AV)}, Ents ek de done → (∀ e ∈ de, e ∈ es) → de.Nodup → done.Pairwise fun a b => a.1 ≠ b.1 := by
        intro de done E
        induction E with
        | nil => intro _ _; exact .nil
        | cons t ih =>
          rename_i k v b es' l'
          intro hsub hnd
          rw [List.nodup_cons] at hnd
          refine .cons (fun p hp q => ?_) (ih (fun e he => hsub e (List.mem_cons_of_mem _ he)) hnd.2)
          obtain ⟨b', hb'⟩ := t.mem' hp
          have := m.ents.uniq K m.keys (hsub _ List.mem_cons_self) (hsub _ (List.mem_cons_of_mem _ hb')) (by show ek k = ek p.1; rw [show k = p.1 from q])
          rw [this] at hnd
          exact hnd.1 hb'
      exact this h1 h2 hdu
    refine (List.perm_ext_iff_of_nodup ?_ ?_).2 fun p => ⟨fun hp => ?_, fun hp => ?_⟩
    · rw [List.nodup_iff_pairwise_ne] at hdd ⊢
      rw [List.pairwise_map] at hdd
      exact hdd.imp fun q e => q (by rw [e])
    · have hk := m.keys
      rw [List.nodup_iff_pairwise_ne] at hk ⊢
      rw [List.pairwise_map] at hk
      exact hk.imp fun q e => q (by rw [e])
    · obtain ⟨e, he, q1, q2⟩ := (hdn p).1 hp
      obtain ⟨k, q3, q4⟩ := m.ents.mem (h2 e he)
      have : k = p.1 := K.inj (by rw [← q3, q1])
      subst this
      rw [q2] at q4; exact q4
    · obtain ⟨b, hb⟩ := m.ents.mem' hp
      exact (hdn p).2 ⟨_, hall _ hb, rfl, rfl⟩
  · obtain ⟨k, q1, q2⟩ := m.ents.mem hes
    obtain ⟨ek1, v, b⟩ := e
    simp only at q1 q2
    subst q1
    show Kt (.tup [.bool true, ek k, v]) _ = true
    have gm : (h.put it (.iter (some id) c (b :: (de.map fun e => e.2.2).reverse) c)).get id = some (.map es c) := by
      rw [AHeap.get_put, if_neg (fun e => hne e.symm)]; exact m.get
    have gi : (h.put it (.iter (some id) c (b :: (de.map fun e => e.2.2).reverse) c)).get it = some (.iter (some id) c (b :: (de.map fun e => e.2.2).reverse) c) := get_put_same _ _ _
    refine kN k v _ q2 (fun hp => ?_) (But.put _ _ _) (o.put (o.lt h4) _) (by simp) ⟨es, c, de ++ [(ek k, v, b)], ⟨gm, m.ents, m.born, m.nd, m.keys⟩, h1.append (.cons .nil), ?_, ?_, ?_⟩ ?_
    · obtain ⟨f, hf, r1, r2⟩ := (hdn _).1 hp
      have := m.ents.uniq K m.keys hes (h2 f hf) (by simp only at r1; rw [r1])
      rw [this] at hde
      exact hde hf
    · intro e he
      rcases List.mem_append.1 he with he | he
      · exact h2 e he
      · simp only [List.mem_singleton] at he; subst he; exact hes
    · rw [List.map_append, List.nodup_append]
      refine ⟨h3, by simp, fun a ha b' hb' q => ?_⟩
      simp only [List.map_cons, List.map_nil, List.mem_singleton] at hb'
      subst hb'; subst q
      obtain ⟨f, hf, r⟩ := List.mem_map.1 ha
      have a1 := findBorn_mem m.nd hes
      have a2 := findBorn_mem m.nd (h2 f hf)
      simp only at a1 r
      rw [r, a1] at a2
      cases a2; exact hde hf
    · rw [gi, List.map_append, List.reverse_append]; rfl
    · have hb := findBorn_mem m.nd hes
      simp only at hb
      simp only [entA, gi, gm, Nat.beq_refl, cond_true, hb]
end
end Go.Ab
namespace Go.Ab
set_option linter.unusedSimpArgs false
set_option linter.unusedVariables false
section
variable {k : AV → Bool} {K : Kont} {v u : AV} {h h' : AHeap} {o : Option AV} {p : Option (AV × AHeap)} {q : Option AHeap} {a b : Bool} {r : Kont → Bool}
theorem z_some (s : k v = true) : optB (some v) k = true := s
theorem z_of (e : o = some v) (s : k v = true) : optB o k = true := by subst e; exact s
theorem z_p (e : p = some (v, h)) (s : K v h = true) : optP p K = true := by subst e; exact s
theorem z_u (e : q = some h) (s : K (.tup []) h = true) : optP (unit q) K = true := by subst e; exact s
theorem z_nil {x y z w : Nat} (s : k (.ptr x y z w) = true) : optB (nilckA (.ptr x y z w)) k = true := s
theorem z_fadr {f x y z : Nat} (s : k (.ptr x y z f) = true) : optB (fadrA f (.ptr x y z 0)) k = true := by rw [o_fadr0]; exact s
theorem z_fadrN {f x y z d g : Nat} (e : d + f = g) (s : k (.ptr x y z g) = true) : optB (fadrA f (.ptr x y z d)) k = true := by subst e; exact s
theorem z_ext0 {l : List AV} (s : k v = true) : optB (extA 0 (.tup (v :: l))) k = true := s
theorem z_ext1 {l : List AV} (s : k u = true) : optB (extA 1 (.tup (v :: u :: l))) k = true := s
theorem z_not {c : Bool} (s : k (.bool (!c)) = true) : optB (notA (.bool c)) k = true := s
theorem z_notT (s : k (.bool false) = true) : optB (notA (.bool true)) k = true := s
theorem z_notF (s : k (.bool true) = true) : optB (notA (.bool false)) k = true := s
theorem z_ct {c : Bool} (e : c = true) (s : a = true) : condB (.bool c) a b = true := by subst e; exact s
theorem z_cf {c : Bool} (e : c = false) (s : b = true) : condB (.bool c) a b = true := by subst e; exact s
theorem z_cT (s : a = true) : condB (.bool true) a b = true := s
theorem z_cF (s : b = true) : condB (.bool false) a b = true := s
theorem z_gtt (s : optB o k = true) : optB (grdO (wantV (.bool true) true) o) k = true := s
theorem z_gff (s : optB o k = true) : optB (grdO (wantV (.bool false) false) o) k = true := s
theorem z_gtf (s : k (.tup []) = true) : optB (grdO (wantV (.bool true) false) o) k = true := s
theorem z_gft (s : k (.tup []) = true) : optB (grdO (wantV (.bool false) true) o) k = true := s
theorem z_ptt (s : optP p K = true) : optP (grdP (wantV (.bool true) true) p h) K = true := s
theorem z_pff (s : optP p K = true) : optP (grdP (wantV (.bool false) false) p h) K = true := s
theorem z_ptf (s : K (.tup []) h = true) : optP (grdP (wantV (.bool true) false) p h) K = true := s
theorem z_pft (s : K (.tup []) h = true) : optP (grdP (wantV (.bool false) true) p h) K = true := s
theorem z_rtt (s : r K = true) : grdC (wantV (.bool true) true) r h K = true := s
theorem z_rff (s : r K = true) : grdC (wantV (.bool false) false) r h K = true := s
theorem z_rtf (s : K (.tup []) h = true) : grdC (wantV (.bool true) false) r h K = true := s
theorem z_rft (s : K (.tup []) h = true) : grdC (wantV (.bool false) true) r h K = true := s
theorem z_kt (s : k v = true) : optB (pickV (.bool true) v u) k = true := s
theorem z_kf (s : k u = true) : optB (pickV (.bool false) v u) k = true := s
theorem z_lss {J : IntKind} {x y : Int} (s : k (.bool (decide (x < y))) = true) : optB (binA .lss (.int J x) (.int J y)) k = true := by rw [o_lss]; exact s
theorem z_gtr {J : IntKind} {x y : Int} (s : k (.bool (decide (y < x))) = true) : optB (binA .gtr (.int J x) (.int J y)) k = true := by rw [o_gtr]; exact s
theorem z_leq {J : IntKind} {x y : Int} (s : k (.bool (decide (x ≤ y))) = true) : optB (binA .leq (.int J x) (.int J y)) k = true := by rw [o_leq]; exact s
theorem z_geq {J : IntKind} {x y : Int} (s : k (.bool (decide (y ≤ x))) = true) : optB (binA .geq (.int J x) (.int J y)) k = true := by rw [o_geq]; exact s
theorem z_eql {J : IntKind} {x y : Int} (s : k (.bool (decide (x = y))) = true) : optB (binA .eql (.int J x) (.int J y)) k = true := by rw [o_eql]; exact s
theorem z_neq {J : IntKind} {x y : Int} (s : k (.bool (!decide (x = y))) = true) : optB (binA .neq (.int J x) (.int J y)) k = true := by rw [o_neq]; exact s
theorem z_seq {x y : Str} (s : k (.bool (decide (x = y))) = true) : optB (binA .eql (.str x) (.str y)) k = true := by rw [binA_seql]; exact s
theorem z_sne {x y : Str} (s : k (.bool (!decide (x = y))) = true) : optB (binA .neq (.str x) (.str y)) k = true := by rw [binA_sneq]; exact s
theorem z_slen {x : Str} (s : k (.int .i64 (x.length : Int)) = true) : optB (lenA h 0 (.str x)) k = true := s
theorem z_same (e : o = some u) (j : AV.same u u = true) (s : a = true) : sameB o u a = true := by subst e; simp only [sameB, j, cond_true, s]
theorem z_cv {call : CallFn} {f : AFn} {first args cap : List AV} (s : call f (first ++ args ++ cap) h K = true) : callV call (.fn f first cap) args h K = true := s
theorem z_eqp {a1 a2 a3 a4 : Nat} (s : k (.bool false) = true) : optB (eqV h false EqK.ptr (.ptr a1 a2 a3 a4) .nilPtr) k = true := s
theorem z_eqn (s : k (.bool true) = true) : optB (eqV h false EqK.ptr .nilPtr .nilPtr) k = true := s
end
theorem same_map (a : Nat) : AV.same (.map a) (.map a) = true := by simp only [AV.same, Nat.beq_refl]
theorem same_agg {l : List AV} (h : sames l l = true) : AV.same (.agg l) (.agg l) = true := by simpa only [AV.same] using h
theorem same_tup {l : List AV} (h : sames l l = true) : AV.same (.tup l) (.tup l) = true := by simpa only [AV.same] using h
theorem sames_nil : sames [] [] = true := by simp only [sames]
theorem sames_cons {a : AV} {l : List AV} (h1 : AV.same a a = true) (h2 : sames l l = true) : sames (a :: l) (a :: l) = true := by simp only [sames, h1, h2, Bool.and_self]
theorem same_nslc : AV.same .nilSlc .nilSlc = true := by simp only [AV.same]
theorem same_emp : AV.same .emp .emp = true := by simp only [AV.same]
theorem View.same {h : AHeap} {n : Nat} {v : AV} {es : List (List AV)} (V : View h n v es) : AV.same v v = true := by
  rcases V with ⟨_, e | e⟩ | ⟨id, g, s, cap, ex, r, rfl, _⟩
  · subst e; exact same_nslc
  · subst e; exact same_emp
  · exact same_slc _ _ _ _ _ _
section
variable {h h' : AHeap} {id : Nat} {c : List AV}
theorem Var.get (V : Var h id c) {off : Nat} {v : AV} (e : nth c off = some v) : loadA h false 1 (.ptr id 0 0 off) = some v := by
  rw [V.load, partA_false]; exact e
theorem Var.all (V : Var h id c) {n : Nat} (e : c.length = n) : loadA h true n (.ptr id 0 0 0) = some (.agg c) := by
  subst e
  rw [V.load]
  simp [partA, nble_true.2 (Nat.le_refl _)]
theorem alloc_v {z : List AV} (o : h.Ok) (h1 : 0 < z.length) (h2 : allLeaf z = true) : ∃ h', allocV h z = some (.ptr h.sz 0 0 0, h') ∧ Var h' h.sz z ∧ Ext h h' ∧ h'.Ok ∧ h'.sz = h.sz + 1 :=
  ⟨_, alloc_eq h1 h2, var_new h z, ext_newRow o _ _, ok_newRow o _ _, rfl⟩
theorem box_v {n : Nat} {v : AV} (o : h.Ok) (h0 : v.cells.length = n) (h1 : 0 < n) (h2 : allLeaf v.cells = true) : ∃ h', boxA h n v = some (.ptr h.sz 0 0 0, h') ∧ Var h' h.sz v.cells ∧ Ext h h' ∧ h'.Ok ∧ h'.sz = h.sz + 1 := by
  refine ⟨_, box_eq h0 h1 h2, ?_, ext_newRow o _ _, ok_newRow o _ _, rfl⟩
  have := var_new h v.cells
  rw [h0] at this; exact this
theorem mkmap_v {κ : Type} (ek : κ → AV) (o : h.Ok) : ∃ h', mkmapV h = some (.map h.sz, h') ∧ KMap ek h' h.sz [] ∧ Ext h h' ∧ h'.Ok ∧ h'.sz = h.sz + 1 :=
  ⟨_, (kmap_new (ek := ek) h).1, (kmap_new (ek := ek) h).2, ext_push o _, o.push _, by simp⟩
theorem Var.wr (V : Var h id c) (o : h.Ok) {off : Nat} {v : AV} (h1 : off < c.length) (h2 : v.leaf = true) : ∃ h', storeA h 1 (.ptr id 0 0 off) v = some h' ∧ Var h' id (c.set off v) ∧ But id h h' ∧ h'.Ok ∧ h'.sz = h.sz :=
  ⟨_, V.set1 h1 h2, var_put id _, But.put _ _ _, o.put (V.lt o) _, by simp⟩
theorem Var.wrs (V : Var h id c) (o : h.Ok) {n : Nat} {v : AV} (h0 : v.cells.length = n) (h1 : c.length = n) (h2 : allLeaf v.cells = true) : ∃ h', storeA h n (.ptr id 0 0 0) v = some h' ∧ Var h' id v.cells ∧ But id h h' ∧ h'.Ok ∧ h'.sz = h.sz := by
  refine ⟨_, V.store h0 (by omega) h2, ?_, But.put _ _ _, o.put (V.lt o) _, by simp⟩
  have : lay c 0 v.cells = v.cells := by simp [lay]; omega
  rw [this]; exact var_put id _
theorem bslice1_v {sz : Nat} {z : List AV} {v : AV} (o : h.Ok) (h1 : z.length = sz) (h2 : 0 < sz) (h3 : 1 * sz ≤ 16777216) (h4 : allLeaf z = true) (h5 : v.cells.length = sz) (h6 : allLeaf v.cells = true) : ∃ w h', bsliceV h 1 sz z [(0, v)] = some (w, h') ∧ View h' sz w [v.cells] ∧ Ext h h' ∧ h'.Ok ∧ h'.sz = h.sz + 1 ∧ w = .slc h.sz 0 0 1 1 true := by
  refine ⟨.slc h.sz 0 0 1 1 true, Ab.newRow h [v.cells] sz, ?_, .inr ⟨h.sz, 0, 0, 1, true, { es := [v.cells], sz, g := 0, m := 0, rw := true }, rfl, ?_, Nat.le_refl _, rfl, by simp, by simp⟩, ext_newRow o _ _, ok_newRow o _ _, rfl, rfl⟩
  · simp only [bsliceV, nbeq_true.2 h1, nblt_true.2 h2, nble_true.2 h3, h4, Bool.and_self, cond_true, repl, fillRowV, nbeq_true.2 h5, List.length_cons, List.length_nil, h6, setNth]
    rfl
  · rw [AHeap.row_some]; simp only [newRow, AHeap.get_push, if_pos]
theorem But.fr {X : Nat → Prop} (b : But id h h') (x : X id) : Fr X h h' := Fr.of_but x b
end
abbrev SK := Str × Str
abbrev BK := Int × Str
def sk (a : SK) : AV := .agg [.str a.1, .str a.2]
def bk2 (a : BK) : AV := .agg [.int .i64 a.1, .str a.2]
theorem sks : Keys (.st [.str, .str]) sk := ⟨fun _ => rfl, fun a b => by
  obtain ⟨a1, a2⟩ := a; obtain ⟨b1, b2⟩ := b
  simp only [sk, keyEq, leavesEq, leafEq, leqb_dec]
  by_cases e1 : a1 = b1 <;> by_cases e2 : a2 = b2 <;> simp [e1, e2]⟩
theorem bks : Keys (.st [.int, .str]) bk2 := ⟨fun _ => rfl, fun a b => by
  obtain ⟨a1, a2⟩ := a; obtain ⟨b1, b2⟩ := b
  simp only [bk2, keyEq, leavesEq, leafEq, leqb_dec, Nat.beq_refl, cond_true, ieqb_dec]
  by_cases e1 : a1 = b1 <;> by_cases e2 : a2 = b2 <;> simp [e1, e2]⟩
def Dels {κ : Type} (ek : κ → AV) (h h' : AHeap) (id : Nat) (k : κ) : Prop := ∀ es c, h.get id = some (.map es c) → h'.get id = some (.map (delE (ek k) es) c)
section
variable {κ : Type} [DecidableEq κ] {kk : KK} {ek : κ → AV} {h h' : AHeap} {id it : Nat} {l : List (κ × AV)}
theorem KMap.delD (M : KMap ek h id l) (K : Keys kk ek) {k : κ} (hk : lk l k ≠ none) : ∃ h', delA h kk (.map id) (ek k) = some h' ∧ But id h h' ∧ h'.sz = h.sz ∧ (h.Ok → h'.Ok) ∧ KMap ek h' id (dl l k) ∧ Dels ek h h' id k := by
  obtain ⟨es, c, m⟩ := M
  cases hl : lk l k with
  | none => exact absurd hl hk
  | some u =>
    obtain ⟨i1, i2⟩ := m.ents.del K k
    refine ⟨h.put id (.map (delE (ek k) es) c), ?_, But.put _ _ _, by simp, fun o => o.put (o.lt m.get) _, ⟨delE (ek k) es, c, by rw [AHeap.get_put, if_pos rfl], i1, fun e he => m.born e (i2.subset he), m.nd.sublist (i2.map _), m.keys.sublist (dl_sub.map _)⟩, fun es' c' hg => ?_⟩
    · simp only [delA, K.fits, cond_true, m.get, m.ents.find K, hl]
    · rw [m.get] at hg; cases hg
      rw [AHeap.get_put, if_pos rfl]
def KIterD (ek : κ → AV) (h : AHeap) (it id : Nat) (l : List (κ × AV)) : Prop :=
  ∃ es c seen, KMapE ek h id es c l ∧ (∀ e ∈ es, e.2.2 ∉ seen) ∧ h.get it = some (.iter (some id) c seen c)
def KIterC (ek : κ → AV) (h : AHeap) (it id : Nat) (l : List (κ × AV)) (k : κ) : Prop :=
  ∃ es c seen, KMapE ek h id es c l ∧ (∀ e ∈ es, e.2.2 ∈ seen → e.1 = ek k) ∧ h.get it = some (.iter (some id) c seen c)
omit [DecidableEq κ] in
theorem KIterD.map (M : KIterD ek h it id l) : KMap ek h id l := by obtain ⟨es, c, s, m, _⟩ := M; exact ⟨es, c, m⟩
omit [DecidableEq κ] in
theorem KIterC.map {k : κ} (M : KIterC ek h it id l k) : KMap ek h id l := by obtain ⟨es, c, s, m, _⟩ := M; exact ⟨es, c, m⟩
omit [DecidableEq κ] in
theorem Fr.kiterC {X : Nat → Prop} {k : κ} (p : Fr X h h') (M : KIterC ek h it id l k) (e1 : ¬ X it) (e2 : ¬ X id) : KIterC ek h' it id l k := by
  obtain ⟨es, c, s, m, h1, h2⟩ := M
  exact ⟨es, c, s, ⟨p.keep _ _ e2 m.get, m.ents, m.born, m.nd, m.keys⟩, h1, p.keep _ _ e1 h2⟩
omit [DecidableEq κ] in
theorem KMap.rangeD (M : KMap ek h id l) (o : h.Ok) : ∃ h', rngA h (.map id) = some (.itr h.sz, h') ∧ Ext h h' ∧ h'.Ok ∧ h'.sz = h.sz + 1 ∧ KIterD ek h' h.sz id l := by
  obtain ⟨h', h1, h2, h3, h4, es, c, de, m, q1, q2, q3, q4⟩ := M.range' o
  cases q1
  exact ⟨h', h1, h2, h3, h4, es, c, [], m, by simp, q4⟩
theorem KIterC.del {k : κ} (K : Keys kk ek) (M : KIterC ek h it id l k) (D : Dels ek h h' id k) (hi : h'.get it = h.get it) : KIterD ek h' it id (dl l k) := by
  obtain ⟨es, c, s, m, h1, h2⟩ := M
  obtain ⟨i1, i2⟩ := m.ents.del K k
  refine ⟨delE (ek k) es, c, s, ⟨D _ _ m.get, i1, fun e he => m.born e (i2.subset he), m.nd.sublist (i2.map _), m.keys.sublist (dl_sub.map _)⟩, fun e he hs => ?_, by rw [hi]; exact h2⟩
  have hk := h1 e (i2.subset he) hs
  obtain ⟨k', q1, q2⟩ := i1.mem he
  have : k' = k := K.inj (q1.symm.trans hk)
  subst this
  have hn := m.keys
  have : ∀ {l : List (κ × AV)}, (l.map fun p => p.1).Nodup → ∀ v, (k', v) ∉ dl l k' := by
    intro l hn v hm
    induction l with
    | nil => cases hm
    | cons p t ih =>
      simp only [List.map_cons, List.nodup_cons] at hn
      simp only [dl] at hm
      by_cases e : k' = p.1
      · rw [if_pos e] at hm
        exact hn.1 (by rw [← e]; exact List.mem_map.2 ⟨_, hm, rfl⟩)
      · rw [if_neg e] at hm
        rcases List.mem_cons.1 hm with hm | hm
        · exact e (by rw [← hm])
        · exact ih hn.2 hm
  exact this hn _ q2
theorem KIterD.next (K : Keys kk ek) {Kt : Kont} (M : KIterD ek h it id l) (o : h.Ok) (hne : it ≠ id) (kE : l = [] → Kt (.tup [.bool false]) h = true)
    (kN : ∀ k v h', (k, v) ∈ l → But it h h' → h'.Ok → h'.sz = h.sz → KIterC ek h' it id l k → entA h' (.itr it) = some (.tup [ek k, v]) → Kt (.tup [.bool true, ek k, v]) h' = true) : nextA h (.itr it) Kt = true := by
  obtain ⟨es, c, s, m, h1, h2⟩ := M
  have hc : ∀ e ∈ es, Nat.blt e.2.2 c = true := fun e he => nblt_true.2 (m.born e he)
  unfold nextA
  simp only [h2, m.get]
  have hg : (!s.isEmpty && !es.isEmpty && es.all fun e => !Nat.blt e.2.2 c) = false := by
    cases hes : es with
    | nil => simp
    | cons a t =>
      have := hc a (by rw [hes]; exact List.mem_cons_self)
      simp [this]
  rw [hg, cond_false, List.all_eq_true]
  intro x hx
  have hcand : x = none ∧ es = [] ∨ ∃ e, x = some e ∧ e ∈ es := by
    simp only [cands] at hx
    rcases List.mem_append.1 hx with hx | hx
    · refine .inl ?_
      cases he : (List.filter (fun e => Nat.blt e.2.2 c) (List.filter (fun e => !memN e.2.2 s) es)).isEmpty with
      | false => rw [he] at hx; cases hx
      | true =>
        rw [he] at hx
        simp only [cond_true, List.mem_singleton] at hx
        refine ⟨hx, ?_⟩
        rw [List.isEmpty_iff] at he
        cases hes : es with
        | nil => rfl
        | cons a t =>
          exfalso
          have ha : a ∈ es := by rw [hes]; exact List.mem_cons_self
          have : a ∈ List.filter (fun e => Nat.blt e.2.2 c) (List.filter (fun e => !memN e.2.2 s) es) := by
            rw [List.mem_filter, List.mem_filter]
            refine ⟨⟨ha, ?_⟩, hc a ha⟩
            cases hm : memN a.2.2 s with
            | false => rfl
            | true => exact absurd (memN_iff.1 hm) (h1 a ha)
          rw [he] at this; cases this
    · obtain ⟨e, he, rfl⟩ := List.mem_map.1 hx
      refine .inr ⟨e, rfl, ?_⟩
      rcases List.mem_append.1 he with he | he <;> exact (List.mem_filter.1 (List.mem_filter.1 he).1).1
  rcases hcand with ⟨rfl, hall⟩ | ⟨e, rfl, hes⟩
  · refine kE ?_
    have := m.ents
    rw [hall] at this
    cases this; rfl
  · obtain ⟨k, q1, q2⟩ := m.ents.mem hes
    obtain ⟨ek1, v, b⟩ := e
    simp only at q1 q2
    subst q1
    show Kt (.tup [.bool true, ek k, v]) _ = true
    have gm : (h.put it (.iter (some id) c (b :: s) c)).get id = some (.map es c) := by
      rw [AHeap.get_put, if_neg (fun e => hne e.symm)]; exact m.get
    have gi : (h.put it (.iter (some id) c (b :: s) c)).get it = some (.iter (some id) c (b :: s) c) := get_put_same _ _ _
    refine kN k v _ q2 (But.put _ _ _) (o.put (o.lt h2) _) (by simp) ⟨es, c, b :: s, ⟨gm, m.ents, m.born, m.nd, m.keys⟩, fun e he hs => ?_, gi⟩ ?_
    · rcases List.mem_cons.1 hs with hs | hs
      · have a1 := findBorn_mem m.nd he
        have a2 := findBorn_mem m.nd hes
        simp only at a2
        rw [hs, a2] at a1
        cases a1; rfl
      · exact absurd hs (h1 e he)
    · have hb := findBorn_mem m.nd hes
      simp only at hb
      simp only [entA, gi, gm, Nat.beq_refl, cond_true, hb]
end
end Go.Ab
namespace Go.Ab
set_option linter.unusedSimpArgs false
set_option linter.unusedVariables false
def inRow (v : AV) (j : Nat) : Prop := ∃ g s l c ex, v = .slc j g s l c ex
theorem inRow_nil {j : Nat} : ¬ inRow .nilSlc j := by rintro ⟨_, _, _, _, _, e⟩; cases e
theorem inRow_slc {i g s l c : Nat} {ex : Bool} {j : Nat} : inRow (.slc i g s l c ex) j ↔ i = j := ⟨fun ⟨_, _, _, _, _, e⟩ => by cases e; rfl, fun e => by subst e; exact ⟨_, _, _, _, _, rfl⟩⟩
theorem app_row {h h' : AHeap} {n bytes : Nat} {nt : Option Nat} {v x v' : AV} (e : appendA h n bytes v x nt = some (v', h')) {j : Nat} (i : inRow v' j) : inRow v j ∨ j = h.sz := by
  unfold appendA at e
  cases hn : Nat.beq n 0 with
  | true => rw [hn] at e; cases e
  | false =>
    rw [hn, cond_false] at e
    split at e
    · cases e
    · rename_i new hs
      unfold appendNew at e
      split at e
      · split at e
        · cases e; exact absurd i inRow_nil
        · cases hc : (Nat.ble (new.length * bytes) most && Nat.ble new.length most) with
          | true => rw [hc] at e; cases e; exact .inr (inRow_slc.1 i).symm
          | false => rw [hc] at e; cases e
      · split at e
        · cases e; obtain ⟨_, _, _, _, _, e⟩ := i; cases e
        · cases hc : (Nat.ble (new.length * bytes) most && Nat.ble new.length most) with
          | true => rw [hc] at e; cases e; exact .inr (inRow_slc.1 i).symm
          | false => rw [hc] at e; cases e
      · rename_i id g st len cap ex
        split at e
        · cases e; exact .inl i
        · split at e
          · cases e
          · rename_i r hr
            revert e
            cases (Nat.ble ((len + new.length) * bytes) most && Nat.ble (len + new.length) most && Nat.beq r.sz n) with
            | false => intro e; cases e
            | true =>
              cases Nat.ble (len + new.length) cap with
              | true =>
                cases (r.rw && Nat.beq g r.g) with
                | true => intro e; cases e; exact .inl (inRow_slc.2 (inRow_slc.1 i))
                | false => intro e; cases e
              | false =>
                cases ex with
                | true =>
                  simp only [cond_true, cond_false]
                  cases Nat.ble r.m g with
                  | false => intro e; cases e
                  | true =>
                    simp only [cond_true]
                    cases Nat.beq (List.take len (List.drop st r.es)).length len with
                    | true => intro e; cases e; exact .inr (inRow_slc.1 i).symm
                    | false => intro e; cases e
                | false =>
                  simp only [cond_true, cond_false]
                  cases (r.rw && Nat.beq g r.g && Nat.beq st 0) with
                  | false => intro e; cases e
                  | true =>
                    simp only [cond_true]
                    cases Nat.beq len r.es.length with
                    | true => intro e; cases e; exact .inl (inRow_slc.2 (inRow_slc.1 i))
                    | false => intro e; cases e; exact .inl (inRow_slc.2 (inRow_slc.1 i))
      · cases e
theorem own_fr {X : Nat → Prop} {h h' : AHeap} {n : Nat} {v : AV} {es : List (List AV)} (O : Own 0 h n v es) (f : Fr X h h') (d : ∀ j, inRow v j → ¬ X j) : Own 0 h' n v es := by
  rcases O with V | ⟨id, r, w1, w2, w3, w4, w5, w6, w7⟩
  · exact .inl V
  · exact .inr ⟨id, r, w1, w2, f.row (d id (by rw [w2]; exact ⟨_, _, _, _, _, rfl⟩)) w3, w4, w5, w6, w7⟩
theorem own_lt {h : AHeap} {n : Nat} {v : AV} {es : List (List AV)} (O : Own 0 h n v es) (o : h.Ok) {j : Nat} (i : inRow v j) : j < h.sz := by
  rcases O with ⟨rfl, _⟩ | ⟨id, r, w1, rfl, w3, _⟩
  · exact absurd i inRow_nil
  · rw [← inRow_slc.1 i]; exact o.lt (AHeap.row_some.1 w3)
theorem own_row {b : Nat} {h : AHeap} {n : Nat} {v : AV} {es : List (List AV)} (O : Own b h n v es) {j : Nat} (i : inRow v j) : b ≤ j := by
  rcases O with ⟨rfl, _⟩ | ⟨id, r, w1, rfl, _⟩
  · exact absurd i inRow_nil
  · rw [← inRow_slc.1 i]; exact w1
theorem own_low {b : Nat} {h : AHeap} {n : Nat} {v : AV} {es : List (List AV)} (O : Own b h n v es) : Own 0 h n v es := by
  rcases O with V | ⟨id, r, w1, w2⟩
  · exact .inl V
  · exact .inr ⟨id, r, Nat.zero_le _, w2⟩
theorem load_frz {h : AHeap} {id : Nat} {c : List AV} (V : Var h id c) (ag : Bool) (off n : Nat) : loadA h.frz ag n (.ptr id 0 0 off) = partA ag off n c := by
  have V' : h.row id = some (VRow c) := V
  simp only [loadA, AHeap.row_frz V', VRow, Nat.ble_self_eq_true, cond_true, nth_zero]
theorem look_frz {κ : Type} {ek : κ → AV} {h : AHeap} {id : Nat} {l : List (κ × AV)} (M : KMap ek h id l) (kk : KK) (z k : AV) : lookA h.frz kk false z (.map id) k = lookA h kk false z (.map id) k := by
  obtain ⟨es, c, m⟩ := M
  have e1 : mapOf h (.map id) = some (es, c) := by simp only [mapOf, m.get]
  have e2 : mapOf h.frz (.map id) = some (es, c) := by simp only [mapOf, AHeap.get_frz, m.get, Option.map, frzO]
  simp only [lookA, e1, e2]
theorem fr_acc {A X : Nat → Prop} {h h1 h2 : AHeap} (o : h.Ok) (F : Fr A h h1) (G : Fr X h1 h2) (hx : ∀ j, X j → A j ∨ h.sz ≤ j) : Fr A h h2 := F.new (G.mono hx) o
theorem fr_ext {A : Nat → Prop} {h h1 h2 : AHeap} (F : Fr A h h1) (e : Ext h1 h2) : Fr A h h2 := F.trans (Fr.of_ext e)
theorem ext_two {h h1 h2 : AHeap} (e : Ext h h1) (f : Ext h1 h2) : Ext h h2 := ⟨Nat.le_trans e.1 f.1, fun j o g => f.2 j o (e.2 j o g)⟩
theorem View.at1 {h : AHeap} {n : Nat} {v : AV} {es : List (List AV)} (V : View h n v es) {i : Nat} {e : List AV} (hi : es[i]? = some e) : ∃ id g j, (∀ k, iadrA h n v (.int k (i : Int)) = some (.ptr id g j 0)) ∧ ∀ ag off m, loadA h ag m (.ptr id g j off) = partA ag off m e := by
  obtain ⟨id, g, j, q⟩ := V.atE hi
  exact ⟨id, g, j, q h (Ext.refl h)⟩
end Go.Ab
