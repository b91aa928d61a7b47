/-
  Texts that the claim hangs on, part 4.
-/
import Derived.Test.YthifmankpcadjaaW2
import Derived.Laws.Externs
import Derived.Lib.Builder
import Derived.Shelf.Spec.SlicesInsert
import Derived.Shelf.Spec.SlicesInsertGrow
import Derived.Sort.Grow
import Derived.Deep.Draws
import Derived.Shelf.SlSortCmp.NoneTotal
import Derived.Lib.SortBridge
import Derived.Shelf.Slices.In.SortNone
import Derived.Shelf.Sort.Plain
namespace Go.Proofs.Ythifmankpcadjaa
open Go.Ab
set_option linter.unusedVariables false
def c20_20 : ACode := .seq (.reg [⟨some 21, .load false 1 (.t 6), none⟩, gm 4 21, ⟨some 5, .mv (.c (.int .i64 0)), none⟩]) .ret
def c20_18 : ACode := .block 1 (.reg [⟨some 16, .fadr 2 (.t 7), none⟩, ⟨some 17, .load false 1 (.t 16), none⟩, ⟨some 18, .load false 1 (.t 6), none⟩, ⟨some 19, .bslice 2 1 [.nilSlc] [(0, .t 17), (1, .t 18)], none⟩, ⟨some 20, .call (.c (.fn (.func 44) [] [])) [.t 19], none⟩, ⟨none, .store 1 (.t 6) (.t 20), none⟩])
def c20_17 : ACode := .reg [⟨some 7, .alloc [.str [], .str [], .nilSlc], none⟩, ⟨none, .store 3 (.t 7) (.t 15), none⟩]
def c20_10 : ACode := .seq (.reg [⟨some 6, .alloc [.nilSlc], none⟩]) (.seq (.seq (.reg [gm 12 0, gm 13 1, ⟨some 14, .call (.c (.fn (.func 43) [] [])) [.t 12, .t 13], none⟩]) (.block 0 (.keep [6, 14] (.rf (.t 14) [15] c20_17 c20_18)))) c20_20)
def c20_0 : ACode := .seq (.reg [⟨some 4, .mv (.c .nilSlc), none⟩, ⟨some 5, .mv (.c (.int .i64 0)), none⟩]) (.seq (.seq (.reg [gm 8 0, gm 9 1, ⟨some 10, .call (.c (.fn (.func 42) [] [])) [.t 8, .t 9], none⟩, ⟨some 11, .not (.t 10), none⟩]) (.cond (.t 11) (.seq (.reg [⟨some 4, .mv (.c .nilSlc), none⟩, ⟨some 5, .mv (.c (.int .i64 10)), none⟩]) .ret) .skip)) c20_10)
def A20 : AFun := { np := 2, res := [(4, none), (5, none)], body := c20_0 }
def c23_16 : ACode := .seq (.reg [⟨none, .store 1 (.t 6) (.c (.bool false)), none⟩]) .ret
def c23_8 : ACode := .block 1 (.seq (.reg [⟨some 12, .fadr 0 (.t 7), none⟩, ⟨some 13, .load false 1 (.t 12), none⟩, ⟨some 14, .load false 1 (.t 5), none⟩, ⟨some 15, .bin .eql (.t 13) (.t 14), none⟩]) (.cond (.t 15) (.seq (.reg [⟨none, .store 1 (.t 6) (.c (.bool true)), none⟩]) .ret) .skip))
def c23_7 : ACode := .reg [⟨some 7, .alloc [.str [], .str [], .nilSlc], none⟩, ⟨none, .store 3 (.t 7) (.t 11), none⟩]
def c23_0 : ACode := .seq (.reg [⟨some 5, .box 1 (.t 2), none⟩, ⟨some 6, .alloc [.bool false], none⟩]) (.seq (.seq (.reg [gm 8 0, gm 9 1, ⟨some 10, .call (.c (.fn (.func 43) [] [])) [.t 8, .t 9], none⟩]) (.block 0 (.keep [5, 6, 10] (.rf (.t 10) [11] c23_7 c23_8)))) c23_16)
def A23 : AFun := { np := 3, res := [(6, some (false, 1))], body := c23_0 }
def c25_82 : ACode := .seq (.reg [⟨some 109, .load false 1 (.t 8), none⟩, ⟨some 110, .bin .leq (.t 109) (.c (.int .i64 62)), none⟩, gm 6 110]) .ret
set_option maxRecDepth 100000 in
def c25_54 : ACode := .seq (.seq (.reg [⟨some 64, .fadr 0 (.t 13), none⟩, ⟨some 65, .load false 1 (.t 64), none⟩, ⟨some 66, .call (.c (.fn (.func 49) [] [])) [.t 65], none⟩, ⟨some 67, .not (.t 66), none⟩, gm 68 67, ⟨some 69, .fadr 1 (.t 13), some (68, false)⟩, ⟨some 70, .load false 1 (.t 69), some (68, false)⟩, ⟨some 71, .bin .lss (.t 70) (.c (.int .i64 0)), some (68, false)⟩, ⟨some 72, .pick (.t 68) (.c (.bool true)) (.t 71), none⟩, gm 73 72, ⟨some 74, .fadr 1 (.t 13), some (73, false)⟩, ⟨some 75, .load false 1 (.t 74), some (73, false)⟩, ⟨some 76, .bin .gtr (.t 75) (.c (.int .i64 5)), some (73, false)⟩, ⟨some 77, .pick (.t 73) (.c (.bool true)) (.t 76), none⟩, gm 78 77, ⟨some 79, .fadr 1 (.t 13), some (78, false)⟩, ⟨some 80, .load false 1 (.t 79), some (78, false)⟩, ⟨some 81, .bin .eql (.t 80) (.c (.int .i64 5)), some (78, false)⟩, ⟨some 82, .fadr 2 (.t 13), some (78, false)⟩, ⟨some 83, .load false 1 (.t 82), some (78, false)⟩, ⟨some 84, .bin .neq (.t 83) (.c (.str [])), some (78, false)⟩, ⟨some 85, .eq true .bool (.t 81) (.t 84), some (78, false)⟩, ⟨some 86, .pick (.t 78) (.c (.bool true)) (.t 85), none⟩]) (.cond (.t 86) (.seq (.reg [⟨some 6, .mv (.c (.bool false)), none⟩]) .ret) .skip)) (.seq (.seq (.reg [⟨some 87, .fadr 1 (.t 13), none⟩, ⟨some 88, .load false 1 (.t 87), none⟩, ⟨some 89, .bin .eql (.t 88) (.c (.int .i64 5)), none⟩, gm 90 89, ⟨some 91, .mv (.t 2), some (90, true)⟩, ⟨some 92, .mkfn 51 [] [.t 13], some (90, true)⟩, ⟨some 93, .call (.c (.fn (.func 50) [] [])) [.t 91, .t 92], some (90, true)⟩, ⟨some 94, .not (.t 93), some (90, true)⟩, ⟨some 95, .pick (.t 90) (.t 94) (.c (.bool false)), none⟩]) (.cond (.t 95) (.seq (.reg [⟨some 6, .mv (.c (.bool false)), none⟩]) .ret) .skip)) (.seq (.seq (.reg [⟨some 96, .load false 1 (.t 7), none⟩, ⟨some 97, .fadr 0 (.t 13), none⟩, ⟨some 98, .load false 1 (.t 97), none⟩, ⟨some 99, .look (.leaf .str) false (.int .i64 0) (.t 96) (.t 98), none⟩, ⟨some 100, .bin .add (.t 99) (.c (.int .i64 1)), none⟩, ⟨none, .mupd (.leaf .str) (.t 96) (.t 98) (.t 100), none⟩]) (.seq (.reg [⟨some 101, .load false 1 (.t 7), none⟩, ⟨some 102, .fadr 0 (.t 13), none⟩, ⟨some 103, .load false 1 (.t 102), none⟩, ⟨some 104, .look (.leaf .str) false (.int .i64 0) (.t 101) (.t 103), none⟩, ⟨some 105, .bin .gtr (.t 104) (.c (.int .i64 1)), none⟩]) (.cond (.t 105) (.seq (.reg [⟨some 6, .mv (.c (.bool false)), none⟩]) .ret) .skip))) (.reg [⟨some 106, .load false 1 (.t 8), none⟩, ⟨some 107, .bin .add (.t 106) (.c (.int .i64 1)), none⟩, ⟨none, .store 1 (.t 8) (.t 107), none⟩])))
def c25_44 : ACode := .seq (.reg [⟨some 61, .bin .lss (.t 60) (.t 59), none⟩]) (.seq (.cond (.t 61) .skip (.exit 4)) (.seq (.block 5 (.seq (.reg [⟨some 62, .iadr 3 (.t 58) (.t 60), none⟩, ⟨some 63, .load true 3 (.t 62), none⟩, ⟨some 13, .alloc [.str [], .int .i64 0, .str []], none⟩, ⟨none, .store 3 (.t 13) (.t 63), none⟩]) c25_54)) (.reg [⟨some 108, .bin .add (.t 60) (.c (.int .i64 1)), none⟩, gm 60 108])))
def c25_39 : ACode := .seq (.seq (.reg [⟨some 57, .fadr 2 (.t 4), none⟩, ⟨some 58, .load false 1 (.t 57), none⟩, ⟨some 59, .len 1 (.t 58), none⟩, ⟨some 60, .mv (.c (.int .i64 0)), none⟩]) (.block 4 (.loop c25_44))) c25_82
def c25_25 : ACode := .seq (.reg [⟨some 46, .bin .lss (.t 45) (.t 44), none⟩]) (.seq (.cond (.t 46) .skip (.exit 2)) (.seq (.block 3 (.seq (.reg [⟨some 47, .iadr 3 (.t 43) (.t 45), none⟩, ⟨some 48, .load true 3 (.t 47), none⟩, ⟨some 11, .alloc [.str [], .int .i64 0, .str []], none⟩, ⟨none, .store 3 (.t 11) (.t 48), none⟩]) (.seq (.reg [⟨some 49, .load false 1 (.t 7), none⟩, ⟨some 50, .fadr 0 (.t 11), none⟩, ⟨some 51, .load false 1 (.t 50), none⟩, ⟨some 52, .look (.leaf .str) false (.int .i64 0) (.t 49) (.t 51), none⟩, ⟨some 53, .bin .add (.t 52) (.c (.int .i64 1)), none⟩, ⟨none, .mupd (.leaf .str) (.t 49) (.t 51) (.t 53), none⟩]) (.reg [⟨some 54, .load false 1 (.t 8), none⟩, ⟨some 55, .bin .add (.t 54) (.c (.int .i64 1)), none⟩, ⟨none, .store 1 (.t 8) (.t 55), none⟩])))) (.reg [⟨some 56, .bin .add (.t 45) (.c (.int .i64 1)), none⟩, gm 45 56])))
def c25_20 : ACode := .block 1 (.seq (.reg [⟨some 42, .fadr 2 (.t 9), none⟩, ⟨some 43, .load false 1 (.t 42), none⟩, ⟨some 44, .len 1 (.t 43), none⟩, ⟨some 45, .mv (.c (.int .i64 0)), none⟩]) (.block 2 (.loop c25_25)))
def c25_19 : ACode := .reg [⟨some 9, .alloc [.str [], .str [], .nilSlc], none⟩, ⟨none, .store 3 (.t 9) (.t 41), none⟩]
def c25_10 : ACode := .seq (.reg [⟨some 36, .mkmap, none⟩, ⟨some 7, .alloc [.nilMap], none⟩, ⟨none, .store 1 (.t 7) (.t 36), none⟩]) (.seq (.reg [⟨some 8, .alloc [.int .i64 0], none⟩, ⟨none, .store 1 (.t 8) (.c (.int .i64 0)), none⟩]) (.seq (.seq (.reg [gm 37 0, ⟨some 38, .fadr 1 (.t 4), none⟩, ⟨some 39, .load false 1 (.t 38), none⟩, ⟨some 40, .call (.c (.fn (.func 43) [] [])) [.t 37, .t 39], none⟩]) (.block 0 (.keep [2, 4, 7, 8, 40] (.rf (.t 40) [41] c25_19 c25_20)))) c25_39))
def c25_0 : ACode := .seq (.reg [⟨some 4, .box 3 (.t 1), none⟩, ⟨some 6, .mv (.c (.bool false)), none⟩]) (.seq (.seq (.reg [⟨some 14, .fadr 0 (.t 4), none⟩, ⟨some 15, .load false 1 (.t 14), none⟩, ⟨some 16, .call (.c (.fn (.func 49) [] [])) [.t 15], none⟩, ⟨some 17, .not (.t 16), none⟩, gm 18 17, ⟨some 19, .mv (.t 0), some (18, false)⟩, ⟨some 20, .fadr 0 (.t 4), some (18, false)⟩, ⟨some 21, .load false 1 (.t 20), some (18, false)⟩, ⟨some 22, .call (.c (.fn (.func 42) [] [])) [.t 19, .t 21], some (18, false)⟩, ⟨some 23, .pick (.t 18) (.c (.bool true)) (.t 22), none⟩, gm 24 23, ⟨some 25, .fadr 1 (.t 4), some (24, false)⟩, ⟨some 26, .load false 1 (.t 25), some (24, false)⟩, ⟨some 27, .bin .neq (.t 26) (.c (.str [])), some (24, false)⟩, ⟨some 28, .mv (.t 27), some (24, false)⟩, ⟨some 29, .mv (.t 0), some (28, true)⟩, ⟨some 30, .fadr 1 (.t 4), some (28, true)⟩, ⟨some 31, .load false 1 (.t 30), some (28, true)⟩, ⟨some 32, .call (.c (.fn (.func 42) [] [])) [.t 29, .t 31], some (28, true)⟩, ⟨some 33, .not (.t 32), some (28, true)⟩, ⟨some 34, .pick (.t 28) (.t 33) (.c (.bool false)), some (24, false)⟩, ⟨some 35, .pick (.t 24) (.c (.bool true)) (.t 34), none⟩]) (.cond (.t 35) (.seq (.reg [⟨some 6, .mv (.c (.bool false)), none⟩]) .ret) .skip)) c25_10)
def A25 : AFun := { np := 3, res := [(6, none)], body := c25_0 }
def c43_0 : ACode := .seq (.reg [⟨some 2, .box 1 (.t 0), none⟩, ⟨some 3, .box 1 (.t 1), none⟩, ⟨some 4, .mv (.c .nilFn), none⟩]) (.seq (.reg [⟨some 5, .mkfn 66 [] [.t 2, .t 3], none⟩, gm 4 5]) .ret)
def A43 : AFun := { np := 2, res := [(4, none)], body := c43_0 }
def c66_4 : ACode := .seq (.seq (.reg [gm 15 5]) (.cond (.t 15) .skip (.exit 0))) (.seq (.block 1 (.seq (.reg [gm 32 0, ⟨some 33, .load false 1 (.t 1), none⟩, ⟨some 34, .nilck (.t 33), none⟩, ⟨some 35, .fadr 0 (.t 34), none⟩, ⟨some 36, .load false 1 (.t 35), none⟩, gm 37 4, ⟨some 38, .iadr 3 (.t 36) (.t 37), none⟩, ⟨some 39, .load true 3 (.t 38), none⟩, ⟨some 40, .call (.t 32) [.t 39], none⟩, ⟨some 41, .not (.t 40), none⟩]) (.cond (.t 41) .ret .skip))) (.dreg [⟨some 17, .load false 1 (.t 1), none⟩, ⟨some 18, .nilck (.t 17), none⟩, ⟨some 19, .fadr 1 (.t 18), none⟩, ⟨some 20, .load false 1 (.t 19), none⟩, ⟨some 21, .load false 1 (.t 1), none⟩, ⟨some 22, .nilck (.t 21), none⟩, ⟨some 23, .fadr 0 (.t 22), none⟩, ⟨some 24, .load false 1 (.t 23), none⟩, gm 25 4, ⟨some 26, .iadr 3 (.t 24) (.t 25), none⟩, ⟨some 27, .fadr 1 (.t 26), none⟩, ⟨some 28, .load false 1 (.t 27), none⟩, ⟨some 29, .look (.leaf .str) true (.int .i64 0) (.t 20) (.t 28), none⟩, gm 16 29, ⟨some 30, .ext (.t 16) 0, none⟩, ⟨some 31, .ext (.t 16) 1, none⟩] [(gm 4 30, [], [gm 5 31])]))
def c66_0 : ACode := .seq (.dreg [⟨some 7, .load false 1 (.t 1), none⟩, ⟨some 8, .nilck (.t 7), none⟩, ⟨some 9, .fadr 1 (.t 8), none⟩, ⟨some 10, .load false 1 (.t 9), none⟩, ⟨some 11, .load false 1 (.t 2), none⟩, ⟨some 12, .look (.leaf .str) true (.int .i64 0) (.t 10) (.t 11), none⟩, gm 6 12, ⟨some 13, .ext (.t 6) 0, none⟩, ⟨some 14, .ext (.t 6) 1, none⟩, gm 4 13, gm 5 14] []) (.block 0 (.loop c66_4))
def A66 : AFun := { np := 3, res := [], body := c66_0 }
end Go.Proofs.Ythifmankpcadjaa
namespace Go.Proofs.Ythifmankpcadjaa
open Go.Ab
set_option linter.unusedVariables false
variable {call call' : CallFn} {n id : Nat} {K K' : Kont} {h : AHeap} {ρ : Regs} {x0 x1 x2 x4 x5 x6 x7 x8 x10 x11 x14 x15 x40 x41 x43 x44 x45 x58 x59 x60 : AV}
def y20_16 (call : CallFn) (n : Nat) (id : Nat) (x6 x14 x15 : AV) (h : AHeap) (K : Kont) : Bool :=
  optP (allocV h [.str [], .str [], .nilSlc]) fun v5 h => optP (unit (storeA h 3 v5 x15)) fun _ h => busyB id h fun h => optB (fadrA 2 v5) fun v7 => optB (loadA h false 1 v7) fun v8 => optB (loadA h false 1 x6) fun v9 => optP (bsliceV h 2 1 [.nilSlc] [(0, v8), (1, v9)]) fun v10 h => call (.func 44) [v10] h fun v11 h => optP (unit (storeA h 1 x6 v11)) fun _ h => endY id K .normal h
theorem y20_16_ok (hc : Le call call') (hK : KLe K K') (H : Has ρ [(15, x15), (6, x6), (14, x14)]) (s : y20_16 call n id x6 x14 x15 h K = true) : runC call' n c20_17 ⟨ρ, h⟩ (asgK call' n id c20_18 K') = true :=
  c_reg (q_heap H rfl s fun _ _ s H => q_heap0 H rfl s fun _ _ s H => r_nil (k_asg s fun h s => c_block (c_reg (q_pure H rfl s fun _ s H => q_pure H rfl s fun _ s H => q_pure H rfl s fun _ s H => q_heap H rfl s fun _ _ s H => q_call hc H rfl s fun _ _ s H => q_heap0 H rfl s fun _ _ s H => r_nil (k_block (k_body hK s))))))
theorem y20_16_run {E : Env} (hp : PrimLe E) {n id : Nat} {x6 x14 x15 : AV} {h : AHeap} {K : Kont} (hg : h.get id = some (.loop { regs := mkR [(6, x6), (14, x14)], ps := [15], asg := c20_17, body := c20_18, st := .ready })) (s : y20_16 (callN E n) n id x6 x14 x15 h K = true) : callN E (n + 1) (.yield id) [x15] h K = true :=
  down_yield hg rfl (y20_16_ok (callN_le hp n) (fun _ _ h => h) (Has.mk.set 15 _) s)
def p20_20 (call : CallFn) (n : Nat) (x6 : AV) (h : AHeap) (K : Kont) : Bool :=
  optB (loadA h false 1 x6) fun v13 => K (.tup [v13, (.int .i64 0)]) h
theorem p20_20_ok (hc : Le call call') (hK : KLe K K') (H : Has ρ [(6, x6)]) (s : p20_20 call n x6 h K = true) : runC call' n c20_20 ⟨ρ, h⟩ (finK A20.res K') = true :=
  c_seq (c_reg (q_pure H rfl s fun _ s H => q_mv H rfl fun H => q_mv H rfl fun H => r_nil (k_seq (c_ret (fin_ret H rfl hK s)))))
def p20_10 (call : CallFn) (n : Nat) (x0 x1 : AV) (h : AHeap) (K : Kont) : Bool :=
  optP (allocV h [.nilSlc]) fun v3 h => call (.func 43) [x0, x1] h fun v4 h => rfS call v4 (mkR [(6, v3), (14, v4)]) [15] c20_17 c20_18 h fun ex h => match ex with | .normal => p20_20 call n v3 h K | .ret => false | .exit i => false | .goto _ => false
theorem p20_10_ok (hc : Le call call') (hK : KLe K K') (H : Has ρ [(0, x0), (1, x1)]) (s : p20_10 call n x0 x1 h K = true) : runC call' n c20_10 ⟨ρ, h⟩ (finK A20.res K') = true :=
  c_seq (c_reg (q_heap H rfl s fun _ _ s H => r_nil (k_seq (c_seq (c_seq (c_reg (q_mv H rfl fun H => q_mv H rfl fun H => q_call hc H rfl s fun _ _ s H => r_nil (k_seq (c_block (c_keep H rfl fun H => c_rf hc H rfl s fun ex h s => match ex, s with | .normal, s => k_block (k_seq (p20_20_ok hc hK (H.keep [6] rfl) s)) | .ret, s => nomatch s | .exit i, s => nomatch s | .goto _, s => nomatch s))))))))))
def s20 (call : CallFn) (n : Nat) (x0 x1 : AV) (h : AHeap) (K : Kont) : Bool :=
  call (.func 42) [x0, x1] h fun v1 h => optB (notA v1) fun v2 => condB v2 (K (.tup [.nilSlc, (.int .i64 10)]) h) (p20_10 call n x0 x1 h K)
theorem s20_ok (hc : Le call call') (hK : KLe K K') (H : Has ρ [(1, x1), (0, x0)]) (s : s20 call n x0 x1 h K = true) : runC call' n A20.body ⟨ρ, h⟩ (finK A20.res K') = true :=
  c_seq (c_reg (q_mv H rfl fun H => q_mv H rfl fun H => r_nil (k_seq (c_seq (c_seq (c_reg (q_mv H rfl fun H => q_mv H rfl fun H => q_call hc H rfl s fun _ _ s H => q_pure H rfl s fun _ s H => r_nil (k_seq (c_cond H rfl s (fun s => c_seq (c_reg (q_mv H rfl fun H => q_mv H rfl fun H => r_nil (k_seq (c_ret (k_seq_ret (fin_ret H rfl hK s))))))) (fun s => c_skip (k_seq (p20_10_ok hc hK (H.keep [0, 1] rfl) s))))))))))))
def w20 : Sh := fun call n args h K => match args with
  | [x0, x1] => s20 call n x0 x1 h K
  | _ => false
theorem w20_ok {E : Env} (e : E.code 20 = some A20) : ShOK E 20 w20 := fun call call' n args h K K' hc hK s =>
  match args, s with
  | [x0, x1], s => ⟨A20, e, rfl, s20_ok hc hK ((Has.nil.set 0 x0).set 1 x1) s⟩
  | [], s => nomatch s
  | [_], s => nomatch s
  | _ :: _ :: _ :: _, s => nomatch s
def y23_6 (call : CallFn) (n : Nat) (id : Nat) (x5 x6 x10 x11 : AV) (h : AHeap) (K : Kont) : Bool :=
  optP (allocV h [.str [], .str [], .nilSlc]) fun v4 h => optP (unit (storeA h 3 v4 x11)) fun _ h => busyB id h fun h => optB (fadrA 0 v4) fun v6 => optB (loadA h false 1 v6) fun v7 => optB (loadA h false 1 x5) fun v8 => optB (binA .eql v7 v8) fun v9 => condB v9 (optP (unit (storeA h 1 x6 (.bool true))) fun _ h => endY id K .ret h) (endY id K .normal h)
theorem y23_6_ok (hc : Le call call') (hK : KLe K K') (H : Has ρ [(11, x11), (5, x5), (6, x6), (10, x10)]) (s : y23_6 call n id x5 x6 x10 x11 h K = true) : runC call' n c23_7 ⟨ρ, h⟩ (asgK call' n id c23_8 K') = true :=
  c_reg (q_heap H rfl s fun _ _ s H => q_heap0 H rfl s fun _ _ s H => r_nil (k_asg s fun h s => c_block (c_seq (c_reg (q_pure H rfl s fun _ s H => q_pure H rfl s fun _ s H => q_pure H rfl s fun _ s H => q_pure H rfl s fun _ s H => r_nil (k_seq (c_cond H rfl s (fun s => c_seq (c_reg (q_heap0 H rfl s fun _ _ s H => r_nil (k_seq (c_ret (k_block_ret (k_body hK s))))))) (fun s => c_skip (k_block (k_body hK s))))))))))
theorem y23_6_run {E : Env} (hp : PrimLe E) {n id : Nat} {x5 x6 x10 x11 : AV} {h : AHeap} {K : Kont} (hg : h.get id = some (.loop { regs := mkR [(5, x5), (6, x6), (10, x10)], ps := [11], asg := c23_7, body := c23_8, st := .ready })) (s : y23_6 (callN E n) n id x5 x6 x10 x11 h K = true) : callN E (n + 1) (.yield id) [x11] h K = true :=
  down_yield hg rfl (y23_6_ok (callN_le hp n) (fun _ _ h => h) (Has.mk.set 11 _) s)
def p23_16 (call : CallFn) (n : Nat) (x6 : AV) (h : AHeap) (K : Kont) : Bool :=
  optP (unit (storeA h 1 x6 (.bool false))) fun _ h => optR (resV h [(x6, some (false, 1))]) h K
theorem p23_16_ok (hc : Le call call') (hK : KLe K K') (H : Has ρ [(6, x6)]) (s : p23_16 call n x6 h K = true) : runC call' n c23_16 ⟨ρ, h⟩ (finK A23.res K') = true :=
  c_seq (c_reg (q_heap0 H rfl s fun _ _ s H => r_nil (k_seq (c_ret (fin_ret H rfl hK s)))))
def s23 (call : CallFn) (n : Nat) (x0 x1 x2 : AV) (h : AHeap) (K : Kont) : Bool :=
  optP (boxA h 1 x2) fun v1 h => optP (allocV h [.bool false]) fun v2 h => call (.func 43) [x0, x1] h fun v3 h => rfS call v3 (mkR [(5, v1), (6, v2), (10, v3)]) [11] c23_7 c23_8 h fun ex h => match ex with | .normal => p23_16 call n v2 h K | .ret => optR (resV h [(v2, some (false, 1))]) h K | .exit i => false | .goto _ => false
theorem s23_ok (hc : Le call call') (hK : KLe K K') (H : Has ρ [(2, x2), (1, x1), (0, x0)]) (s : s23 call n x0 x1 x2 h K = true) : runC call' n A23.body ⟨ρ, h⟩ (finK A23.res K') = true :=
  c_seq (c_reg (q_heap H rfl s fun _ _ s H => q_heap H rfl s fun _ _ s H => r_nil (k_seq (c_seq (c_seq (c_reg (q_mv H rfl fun H => q_mv H rfl fun H => q_call hc H rfl s fun _ _ s H => r_nil (k_seq (c_block (c_keep H rfl fun H => c_rf hc H rfl s fun ex h s => match ex, s with | .normal, s => k_block (k_seq (p23_16_ok hc hK (H.keep [6] rfl) s)) | .ret, s => k_block_ret (k_seq_ret (fin_ret H rfl hK s)) | .exit i, s => nomatch s | .goto _, s => nomatch s))))))))))
def w23 : Sh := fun call n args h K => match args with
  | [x0, x1, x2] => s23 call n x0 x1 x2 h K
  | _ => false
theorem w23_ok {E : Env} (e : E.code 23 = some A23) : ShOK E 23 w23 := fun call call' n args h K K' hc hK s =>
  match args, s with
  | [x0, x1, x2], s => ⟨A23, e, rfl, s23_ok hc hK (((Has.nil.set 0 x0).set 1 x1).set 2 x2) s⟩
  | [], s => nomatch s
  | [_], s => nomatch s
  | [_, _], s => nomatch s
  | _ :: _ :: _ :: _ :: _, s => nomatch s
def b25_24 (call : CallFn) (n : Nat) (id : Nat) (B24 : F5) (x7 x8 x43 x44 x45 : AV) (h : AHeap) (K : Kont) : Bool :=
  optB (binA .lss x45 x44) fun v35 => condB v35 (optB (iadrA h 3 x43 x45) fun v36 => optB (loadA h true 3 v36) fun v37 => optP (allocV h [.str [], .int .i64 0, .str []]) fun v38 h => optP (unit (storeA h 3 v38 v37)) fun _ h => optB (loadA h false 1 x7) fun v40 => optB (fadrA 0 v38) fun v41 => optB (loadA h false 1 v41) fun v42 => optB (lookA h (.leaf .str) false (.int .i64 0) v40 v42) fun v43 => optB (binA .add v43 (.int .i64 1)) fun v44 => optP (unit (mupdA h (.leaf .str) v40 v42 v44)) fun _ h => optB (loadA h false 1 x8) fun v46 => optB (binA .add v46 (.int .i64 1)) fun v47 => optP (unit (storeA h 1 x8 v47)) fun _ h => optB (binA .add x45 (.int .i64 1)) fun v49 => B24 x7 x8 x43 x44 v49 h) (endY id K .normal h)
abbrev k25_0 (call' : CallFn) (n : Nat) (id : Nat) (K' : Kont) := blockK 1 (bodyK id K')
abbrev k25_1 (call' : CallFn) (n : Nat) (id : Nat) (K' : Kont) := blockK 2 (k25_0 call' n id K')
abbrev H25_24 (call' : CallFn) (n : Nat) (id : Nat) (K' : Kont) (m : Nat) (B : F5) : Prop := ∀ (x7 x8 x43 x44 x45 : AV) (h : AHeap) (ρ : Regs), Has ρ [(7, x7), (8, x8), (43, x43), (44, x44), (45, x45)] → B x7 x8 x43 x44 x45 h = true → iter (runC call' n c25_25) (k25_1 call' n id K') m ⟨ρ, h⟩ = true
abbrev k25_2 (call' : CallFn) (n : Nat) (id : Nat) (K' : Kont) (m24 : Nat) := loopK call' n c25_25 (k25_1 call' n id K') m24
theorem b25_24_ok (hc : Le call call') (hK : KLe K K') {m24 : Nat} {B24 : F5} (hB24 : H25_24 call' n id K' m24 B24) (H : Has ρ [(7, x7), (8, x8), (43, x43), (44, x44), (45, x45)]) (s : b25_24 call n id B24 x7 x8 x43 x44 x45 h K = true) : runC call' n c25_25 ⟨ρ, h⟩ (k25_2 call' n id K' m24) = true :=
  c_seq (c_reg (q_pure H rfl s fun _ s H => r_nil (k_seq (c_seq (c_cond H rfl s (fun s => c_skip (k_seq (c_seq (c_block (c_seq (c_reg (q_pure H rfl s fun _ s H => q_pure H rfl s fun _ s H => q_heap H rfl s fun _ _ s H => q_heap0 H rfl s fun _ _ s H => r_nil (k_seq (c_seq (c_reg (q_pure H rfl s fun _ s H => q_pure H rfl s fun _ s H => q_pure H rfl s fun _ s H => q_pure H rfl s fun _ s H => q_pure H rfl s fun _ s H => q_heap0 H rfl s fun _ _ s H => r_nil (k_seq (c_reg (q_pure H rfl s fun _ s H => q_pure H rfl s fun _ s H => q_heap0 H rfl s fun _ _ s H => r_nil (k_block (k_seq (c_reg (q_pure H rfl s fun _ s H => q_mv H rfl fun H => r_nil (k_loop (hB24 _ _ _ _ _ _ _ (H.keep [7, 8, 43, 44, 45] rfl) s)))))))))))))))))))) (fun s => c_exit (k_seq_exit (k_loop_exit (k_block_eq (k_block (k_body hK s)))))))))))
def l25_24 (call : CallFn) (n : Nat) (id : Nat) : Nat → AV → AV → AV → AV → AV → AHeap → Kont → Bool
  | 0 => fun _ _ _ _ _ _ _ => false
  | m + 1 => fun x7 x8 x43 x44 x45 h K => b25_24 call n id (fun x7 x8 x43 x44 x45 h => l25_24 call n id m x7 x8 x43 x44 x45 h K) x7 x8 x43 x44 x45 h K
theorem l25_24_ok (hc : Le call call') (hK : KLe K K') : ∀ (m : Nat) (x7 x8 x43 x44 x45 : AV) (h : AHeap) (ρ : Regs), Has ρ [(7, x7), (8, x8), (43, x43), (44, x44), (45, x45)] → l25_24 call n id m x7 x8 x43 x44 x45 h K = true → iter (runC call' n c25_25) (k25_1 call' n id K') m ⟨ρ, h⟩ = true
  | 0, _, _, _, _, _, _, _, _, s => nomatch s
  | m + 1, _, _, _, _, _, _, _, H, s => c_round (b25_24_ok hc hK (fun x7 x8 x43 x44 x45 h ρ H s => l25_24_ok hc hK m x7 x8 x43 x44 x45 h ρ H s) H s)
def y25_18 (call : CallFn) (n : Nat) (id : Nat) (x2 x4 x7 x8 x40 x41 : AV) (h : AHeap) (K : Kont) : Bool :=
  optP (allocV h [.str [], .str [], .nilSlc]) fun v30 h => optP (unit (storeA h 3 v30 x41)) fun _ h => busyB id h fun h => optB (fadrA 2 v30) fun v32 => optB (loadA h false 1 v32) fun v33 => optB (lenA h 1 v33) fun v34 => l25_24 call n id n x7 x8 v33 v34 (.int .i64 0) h K
theorem y25_18_ok (hc : Le call call') (hK : KLe K K') (H : Has ρ [(41, x41), (2, x2), (4, x4), (7, x7), (8, x8), (40, x40)]) (s : y25_18 call n id x2 x4 x7 x8 x40 x41 h K = true) : runC call' n c25_19 ⟨ρ, h⟩ (asgK call' n id c25_20 K') = true :=
  c_reg (q_heap H rfl s fun _ _ s H => q_heap0 H rfl s fun _ _ s H => r_nil (k_asg s fun h s => c_block (c_seq (c_reg (q_pure H rfl s fun _ s H => q_pure H rfl s fun _ s H => q_pure H rfl s fun _ s H => q_mv H rfl fun H => r_nil (k_seq (c_block (c_loop (l25_24_ok hc hK n _ _ _ _ _ _ _ (H.keep [7, 8, 43, 44, 45] rfl) s)))))))))
theorem y25_18_run {E : Env} (hp : PrimLe E) {n id : Nat} {x2 x4 x7 x8 x40 x41 : AV} {h : AHeap} {K : Kont} (hg : h.get id = some (.loop { regs := mkR [(2, x2), (4, x4), (7, x7), (8, x8), (40, x40)], ps := [41], asg := c25_19, body := c25_20, st := .ready })) (s : y25_18 (callN E n) n id x2 x4 x7 x8 x40 x41 h K = true) : callN E (n + 1) (.yield id) [x41] h K = true :=
  down_yield hg rfl (y25_18_ok (callN_le hp n) (fun _ _ h => h) (Has.mk.set 41 _) s)
def p25_82 (call : CallFn) (n : Nat) (x8 : AV) (h : AHeap) (K : Kont) : Bool :=
  optB (loadA h false 1 x8) fun v101 => optB (binA .leq v101 (.int .i64 62)) fun v102 => K v102 h
theorem p25_82_ok (hc : Le call call') (hK : KLe K K') (H : Has ρ [(8, x8)]) (s : p25_82 call n x8 h K = true) : runC call' n c25_82 ⟨ρ, h⟩ (finK A25.res K') = true :=
  c_seq (c_reg (q_pure H rfl s fun _ s H => q_pure H rfl s fun _ s H => q_mv H rfl fun H => r_nil (k_seq (c_ret (fin_ret H rfl hK s)))))
set_option maxRecDepth 100000 in
def b25_43 (call : CallFn) (n : Nat) (B43 : F6) (x2 x7 x8 x58 x59 x60 : AV) (h : AHeap) (K : Kont) : Bool :=
  optB (binA .lss x60 x59) fun v53 => condB v53 (optB (iadrA h 3 x58 x60) fun v54 => optB (loadA h true 3 v54) fun v55 => optP (allocV h [.str [], .int .i64 0, .str []]) fun v56 h => optP (unit (storeA h 3 v56 v55)) fun _ h => optB (fadrA 0 v56) fun v58 => optB (loadA h false 1 v58) fun v59 => call (.func 49) [v59] h fun v60 h => optB (notA v60) fun v61 => optB (grdO (wantV v61 false) (fadrA 1 v56)) fun v62 => optB (grdO (wantV v61 false) (loadA h false 1 v62)) fun v63 => optB (grdO (wantV v61 false) (binA .lss v63 (.int .i64 0))) fun v64 => optB (pickV v61 (.bool true) v64) fun v65 => optB (grdO (wantV v65 false) (fadrA 1 v56)) fun v66 => optB (grdO (wantV v65 false) (loadA h false 1 v66)) fun v67 => optB (grdO (wantV v65 false) (binA .gtr v67 (.int .i64 5))) fun v68 => optB (pickV v65 (.bool true) v68) fun v69 => optB (grdO (wantV v69 false) (fadrA 1 v56)) fun v70 => optB (grdO (wantV v69 false) (loadA h false 1 v70)) fun v71 => optB (grdO (wantV v69 false) (binA .eql v71 (.int .i64 5))) fun v72 => optB (grdO (wantV v69 false) (fadrA 2 v56)) fun v73 => optB (grdO (wantV v69 false) (loadA h false 1 v73)) fun v74 => optB (grdO (wantV v69 false) (binA .neq v74 (.str []))) fun v75 => optB (grdO (wantV v69 false) (eqV h true .bool v72 v75)) fun v76 => optB (pickV v69 (.bool true) v76) fun v77 => condB v77 (K (.bool false) h) (optB (fadrA 1 v56) fun v78 => optB (loadA h false 1 v78) fun v79 => optB (binA .eql v79 (.int .i64 5)) fun v80 => optB (grdO (wantV v80 true) (some x2)) fun v81 => optB (grdO (wantV v80 true) (some (.fn (.func 51) [] [v56]))) fun v82 => grdC (wantV v80 true) (fun k => call (.func 50) [v81, v82] h k) h fun v83 h => optB (grdO (wantV v80 true) (notA v83)) fun v84 => optB (pickV v80 v84 (.bool false)) fun v85 => condB v85 (K (.bool false) h) (optB (loadA h false 1 x7) fun v86 => optB (fadrA 0 v56) fun v87 => optB (loadA h false 1 v87) fun v88 => optB (lookA h (.leaf .str) false (.int .i64 0) v86 v88) fun v89 => optB (binA .add v89 (.int .i64 1)) fun v90 => optP (unit (mupdA h (.leaf .str) v86 v88 v90)) fun _ h => optB (loadA h false 1 x7) fun v92 => optB (fadrA 0 v56) fun v93 => optB (loadA h false 1 v93) fun v94 => optB (lookA h (.leaf .str) false (.int .i64 0) v92 v94) fun v95 => optB (binA .gtr v95 (.int .i64 1)) fun v96 => condB v96 (K (.bool false) h) (optB (loadA h false 1 x8) fun v97 => optB (binA .add v97 (.int .i64 1)) fun v98 => optP (unit (storeA h 1 x8 v98)) fun _ h => optB (binA .add x60 (.int .i64 1)) fun v100 => B43 x2 x7 x8 x58 x59 v100 h)))) (p25_82 call n x8 h K)
abbrev k25_3 (call' : CallFn) (n : Nat) (K' : Kont) := seqK call' n c25_82 (finK A25.res K')
abbrev k25_4 (call' : CallFn) (n : Nat) (K' : Kont) := blockK 4 (k25_3 call' n K')
abbrev H25_43 (call' : CallFn) (n : Nat) (K' : Kont) (m : Nat) (B : F6) : Prop := ∀ (x2 x7 x8 x58 x59 x60 : AV) (h : AHeap) (ρ : Regs), Has ρ [(2, x2), (7, x7), (8, x8), (58, x58), (59, x59), (60, x60)] → B x2 x7 x8 x58 x59 x60 h = true → iter (runC call' n c25_44) (k25_4 call' n K') m ⟨ρ, h⟩ = true
abbrev k25_5 (call' : CallFn) (n : Nat) (K' : Kont) (m43 : Nat) := loopK call' n c25_44 (k25_4 call' n K') m43
set_option maxRecDepth 100000 in
theorem b25_43_ok (hc : Le call call') (hK : KLe K K') {m43 : Nat} {B43 : F6} (hB43 : H25_43 call' n K' m43 B43) (H : Has ρ [(2, x2), (7, x7), (8, x8), (58, x58), (59, x59), (60, x60)]) (s : b25_43 call n B43 x2 x7 x8 x58 x59 x60 h K = true) : runC call' n c25_44 ⟨ρ, h⟩ (k25_5 call' n K' m43) = true :=
  c_seq (c_reg (q_pure H rfl s fun _ s H => r_nil (k_seq (c_seq (c_cond H rfl s (fun s => c_skip (k_seq (c_seq (c_block (c_seq (c_reg (q_pure H rfl s fun _ s H => q_pure H rfl s fun _ s H => q_heap H rfl s fun _ _ s H => q_heap0 H rfl s fun _ _ s H => r_nil (k_seq (c_seq (c_seq (c_reg (q_pure H rfl s fun _ s H => q_pure H rfl s fun _ s H => q_call hc H rfl s fun _ _ s H => q_pure H rfl s fun _ s H => q_mv H rfl fun H => qgstep_pure H rfl rfl s fun _ s H => qgstep_pure H rfl rfl s fun _ s H => qgstep_pure H rfl rfl s fun _ s H => q_pure H rfl s fun _ s H => q_mv H rfl fun H => qgstep_pure H rfl rfl s fun _ s H => qgstep_pure H rfl rfl s fun _ s H => qgstep_pure H rfl rfl s fun _ s H => q_pure H rfl s fun _ s H => q_mv H rfl fun H => qgstep_pure H rfl rfl s fun _ s H => qgstep_pure H rfl rfl s fun _ s H => qgstep_pure H rfl rfl s fun _ s H => qgstep_pure H rfl rfl s fun _ s H => qgstep_pure H rfl rfl s fun _ s H => qgstep_pure H rfl rfl s fun _ s H => qgstep_pure H rfl rfl s fun _ s H => q_pure H rfl s fun _ s H => r_nil (k_seq (c_cond H rfl s (fun s => c_seq (c_reg (q_mv H rfl fun H => r_nil (k_seq (c_ret (k_seq_ret (k_block_ret (k_seq_ret (k_loop_ret (k_block_ret (k_seq_ret (fin_ret H rfl hK s)))))))))))) (fun s => c_skip (k_seq (c_seq (c_seq (c_reg (q_pure H rfl s fun _ s H => q_pure H rfl s fun _ s H => q_pure H rfl s fun _ s H => q_mv H rfl fun H => qgstep_pure H rfl rfl s fun _ s H => qgstep_pure H rfl rfl s fun _ s H => qgstep_call hc H rfl rfl s fun _ _ s H => qgstep_pure H rfl rfl s fun _ s H => q_pure H rfl s fun _ s H => r_nil (k_seq (c_cond H rfl s (fun s => c_seq (c_reg (q_mv H rfl fun H => r_nil (k_seq (c_ret (k_seq_ret (k_block_ret (k_seq_ret (k_loop_ret (k_block_ret (k_seq_ret (fin_ret H rfl hK s)))))))))))) (fun s => c_skip (k_seq (c_seq (c_seq (c_reg (q_pure H rfl s fun _ s H => q_pure H rfl s fun _ s H => q_pure H rfl s fun _ s H => q_pure H rfl s fun _ s H => q_pure H rfl s fun _ s H => q_heap0 H rfl s fun _ _ s H => r_nil (k_seq (c_seq (c_reg (q_pure H rfl s fun _ s H => q_pure H rfl s fun _ s H => q_pure H rfl s fun _ s H => q_pure H rfl s fun _ s H => q_pure H rfl s fun _ s H => r_nil (k_seq (c_cond H rfl s (fun s => c_seq (c_reg (q_mv H rfl fun H => r_nil (k_seq (c_ret (k_seq_ret (k_block_ret (k_seq_ret (k_loop_ret (k_block_ret (k_seq_ret (fin_ret H rfl hK s)))))))))))) (fun s => c_skip (k_seq (c_reg (q_pure H rfl s fun _ s H => q_pure H rfl s fun _ s H => q_heap0 H rfl s fun _ _ s H => r_nil (k_block (k_seq (c_reg (q_pure H rfl s fun _ s H => q_mv H rfl fun H => r_nil (k_loop (hB43 _ _ _ _ _ _ _ _ (H.keep [2, 7, 8, 58, 59, 60] rfl) s)))))))))))))))))))))))))))))))))))))))))))) (fun s => c_exit (k_seq_exit (k_loop_exit (k_block_eq (k_seq (p25_82_ok hc hK (H.keep [8] rfl) s)))))))))))
def l25_43 (call : CallFn) (n : Nat) : Nat → AV → AV → AV → AV → AV → AV → AHeap → Kont → Bool
  | 0 => fun _ _ _ _ _ _ _ _ => false
  | m + 1 => fun x2 x7 x8 x58 x59 x60 h K => b25_43 call n (fun x2 x7 x8 x58 x59 x60 h => l25_43 call n m x2 x7 x8 x58 x59 x60 h K) x2 x7 x8 x58 x59 x60 h K
theorem l25_43_ok (hc : Le call call') (hK : KLe K K') : ∀ (m : Nat) (x2 x7 x8 x58 x59 x60 : AV) (h : AHeap) (ρ : Regs), Has ρ [(2, x2), (7, x7), (8, x8), (58, x58), (59, x59), (60, x60)] → l25_43 call n m x2 x7 x8 x58 x59 x60 h K = true → iter (runC call' n c25_44) (k25_4 call' n K') m ⟨ρ, h⟩ = true
  | 0, _, _, _, _, _, _, _, _, _, s => nomatch s
  | m + 1, _, _, _, _, _, _, _, _, H, s => c_round (b25_43_ok hc hK (fun x2 x7 x8 x58 x59 x60 h ρ H s => l25_43_ok hc hK m x2 x7 x8 x58 x59 x60 h ρ H s) H s)
def p25_39 (call : CallFn) (n : Nat) (x2 x4 x7 x8 : AV) (h : AHeap) (K : Kont) : Bool :=
  optB (fadrA 2 x4) fun v50 => optB (loadA h false 1 v50) fun v51 => optB (lenA h 1 v51) fun v52 => l25_43 call n n x2 x7 x8 v51 v52 (.int .i64 0) h K
theorem p25_39_ok (hc : Le call call') (hK : KLe K K') (H : Has ρ [(2, x2), (4, x4), (7, x7), (8, x8)]) (s : p25_39 call n x2 x4 x7 x8 h K = true) : runC call' n c25_39 ⟨ρ, h⟩ (finK A25.res K') = true :=
  c_seq (c_seq (c_reg (q_pure H rfl s fun _ s H => q_pure H rfl s fun _ s H => q_pure H rfl s fun _ s H => q_mv H rfl fun H => r_nil (k_seq (c_block (c_loop (l25_43_ok hc hK n _ _ _ _ _ _ _ _ (H.keep [2, 7, 8, 58, 59, 60] rfl) s)))))))
def p25_10 (call : CallFn) (n : Nat) (x0 x2 x4 : AV) (h : AHeap) (K : Kont) : Bool :=
  optP (mkmapV h) fun v22 h => optP (allocV h [.nilMap]) fun v23 h => optP (unit (storeA h 1 v23 v22)) fun _ h => optP (allocV h [.int .i64 0]) fun v25 h => optP (unit (storeA h 1 v25 (.int .i64 0))) fun _ h => optB (fadrA 1 x4) fun v27 => optB (loadA h false 1 v27) fun v28 => call (.func 43) [x0, v28] h fun v29 h => rfS call v29 (mkR [(2, x2), (4, x4), (7, v23), (8, v25), (40, v29)]) [41] c25_19 c25_20 h fun ex h => match ex with | .normal => p25_39 call n x2 x4 v23 v25 h K | .ret => false | .exit i => false | .goto _ => false
theorem p25_10_ok (hc : Le call call') (hK : KLe K K') (H : Has ρ [(0, x0), (2, x2), (4, x4)]) (s : p25_10 call n x0 x2 x4 h K = true) : runC call' n c25_10 ⟨ρ, h⟩ (finK A25.res K') = true :=
  c_seq (c_reg (q_heap H rfl s fun _ _ s H => q_heap H rfl s fun _ _ s H => q_heap0 H rfl s fun _ _ s H => r_nil (k_seq (c_seq (c_reg (q_heap H rfl s fun _ _ s H => q_heap0 H rfl s fun _ _ s H => r_nil (k_seq (c_seq (c_seq (c_reg (q_mv H rfl fun H => q_pure H rfl s fun _ s H => q_pure H rfl s fun _ s H => q_call hc H rfl s fun _ _ s H => r_nil (k_seq (c_block (c_keep H rfl fun H => c_rf hc H rfl s fun ex h s => match ex, s with | .normal, s => k_block (k_seq (p25_39_ok hc hK (H.keep [2, 4, 7, 8] rfl) s)) | .ret, s => nomatch s | .exit i, s => nomatch s | .goto _, s => nomatch s))))))))))))))
def s25 (call : CallFn) (n : Nat) (x0 x1 x2 : AV) (h : AHeap) (K : Kont) : Bool :=
  optP (boxA h 3 x1) fun v1 h => optB (fadrA 0 v1) fun v2 => optB (loadA h false 1 v2) fun v3 => call (.func 49) [v3] h fun v4 h => optB (notA v4) fun v5 => optB (grdO (wantV v5 false) (some x0)) fun v6 => optB (grdO (wantV v5 false) (fadrA 0 v1)) fun v7 => optB (grdO (wantV v5 false) (loadA h false 1 v7)) fun v8 => grdC (wantV v5 false) (fun k => call (.func 42) [v6, v8] h k) h fun v9 h => optB (pickV v5 (.bool true) v9) fun v10 => optB (grdO (wantV v10 false) (fadrA 1 v1)) fun v11 => optB (grdO (wantV v10 false) (loadA h false 1 v11)) fun v12 => optB (grdO (wantV v10 false) (binA .neq v12 (.str []))) fun v13 => optB (grdO (wantV v10 false) (some v13)) fun v14 => optB (grdO (wantV v14 true) (some x0)) fun v15 => optB (grdO (wantV v14 true) (fadrA 1 v1)) fun v16 => optB (grdO (wantV v14 true) (loadA h false 1 v16)) fun v17 => grdC (wantV v14 true) (fun k => call (.func 42) [v15, v17] h k) h fun v18 h => optB (grdO (wantV v14 true) (notA v18)) fun v19 => optB (grdO (wantV v10 false) (pickV v14 v19 (.bool false))) fun v20 => optB (pickV v10 (.bool true) v20) fun v21 => condB v21 (K (.bool false) h) (p25_10 call n x0 x2 v1 h K)
theorem s25_ok (hc : Le call call') (hK : KLe K K') (H : Has ρ [(2, x2), (1, x1), (0, x0)]) (s : s25 call n x0 x1 x2 h K = true) : runC call' n A25.body ⟨ρ, h⟩ (finK A25.res K') = true :=
  c_seq (c_reg (q_heap H rfl s fun _ _ s H => q_mv H rfl fun H => r_nil (k_seq (c_seq (c_seq (c_reg (q_pure H rfl s fun _ s H => q_pure H rfl s fun _ s H => q_call hc H rfl s fun _ _ s H => q_pure H rfl s fun _ s H => q_mv H rfl fun H => qgstep_pure H rfl rfl s fun _ s H => qgstep_pure H rfl rfl s fun _ s H => qgstep_pure H rfl rfl s fun _ s H => qgstep_call hc H rfl rfl s fun _ _ s H => q_pure H rfl s fun _ s H => q_mv H rfl fun H => qgstep_pure H rfl rfl s fun _ s H => qgstep_pure H rfl rfl s fun _ s H => qgstep_pure H rfl rfl s fun _ s H => qgstep_pure H rfl rfl s fun _ s H => qgstep_pure H rfl rfl s fun _ s H => qgstep_pure H rfl rfl s fun _ s H => qgstep_pure H rfl rfl s fun _ s H => qgstep_call hc H rfl rfl s fun _ _ s H => qgstep_pure H rfl rfl s fun _ s H => qgstep_pure H rfl rfl s fun _ s H => q_pure H rfl s fun _ s H => r_nil (k_seq (c_cond H rfl s (fun s => c_seq (c_reg (q_mv H rfl fun H => r_nil (k_seq (c_ret (k_seq_ret (fin_ret H rfl hK s))))))) (fun s => c_skip (k_seq (p25_10_ok hc hK (H.keep [0, 2, 4] rfl) s))))))))))))
def w25 : Sh := fun call n args h K => match args with
  | [x0, x1, x2] => s25 call n x0 x1 x2 h K
  | _ => false
theorem w25_ok {E : Env} (e : E.code 25 = some A25) : ShOK E 25 w25 := fun call call' n args h K K' hc hK s =>
  match args, s with
  | [x0, x1, x2], s => ⟨A25, e, rfl, s25_ok hc hK (((Has.nil.set 0 x0).set 1 x1).set 2 x2) s⟩
  | [], s => nomatch s
  | [_], s => nomatch s
  | [_, _], s => nomatch s
  | _ :: _ :: _ :: _ :: _, s => nomatch s
def s43 (call : CallFn) (n : Nat) (x0 x1 : AV) (h : AHeap) (K : Kont) : Bool :=
  optP (boxA h 1 x0) fun v1 h => optP (boxA h 1 x1) fun v2 h => optB (some (.fn (.func 66) [] [v1, v2])) fun v3 => K v3 h
theorem s43_ok (hc : Le call call') (hK : KLe K K') (H : Has ρ [(1, x1), (0, x0)]) (s : s43 call n x0 x1 h K = true) : runC call' n A43.body ⟨ρ, h⟩ (finK A43.res K') = true :=
  c_seq (c_reg (q_heap H rfl s fun _ _ s H => q_heap H rfl s fun _ _ s H => q_mv H rfl fun H => r_nil (k_seq (c_seq (c_reg (q_pure H rfl s fun _ s H => q_mv H rfl fun H => r_nil (k_seq (c_ret (fin_ret H rfl hK s)))))))))
def w43 : Sh := fun call n args h K => match args with
  | [x0, x1] => s43 call n x0 x1 h K
  | _ => false
theorem w43_ok {E : Env} (e : E.code 43 = some A43) : ShOK E 43 w43 := fun call call' n args h K K' hc hK s =>
  match args, s with
  | [x0, x1], s => ⟨A43, e, rfl, s43_ok hc hK ((Has.nil.set 0 x0).set 1 x1) s⟩
  | [], s => nomatch s
  | [_], s => nomatch s
  | _ :: _ :: _ :: _, s => nomatch s
def b66_3 (call : CallFn) (n : Nat) (B3 : F4) (x0 x1 x4 x5 : AV) (h : AHeap) (K : Kont) : Bool :=
  condB x5 (optB (loadA h false 1 x1) fun v9 => optB (nilckA v9) fun v10 => optB (fadrA 0 v10) fun v11 => optB (loadA h false 1 v11) fun v12 => optB (iadrA h 3 v12 x4) fun v13 => optB (loadA h true 3 v13) fun v14 => callV call x0 [v14] h fun v15 h => optB (notA v15) fun v16 => condB v16 (K (.tup []) h) (optB (loadA h false 1 x1) fun v17 => optB (nilckA v17) fun v18 => optB (fadrA 1 v18) fun v19 => optB (loadA h false 1 v19) fun v20 => optB (loadA h false 1 x1) fun v21 => optB (nilckA v21) fun v22 => optB (fadrA 0 v22) fun v23 => optB (loadA h false 1 v23) fun v24 => optB (iadrA h 3 v24 x4) fun v25 => optB (fadrA 1 v25) fun v26 => optB (loadA h false 1 v26) fun v27 => optB (lookA h (.leaf .str) true (.int .i64 0) v20 v27) fun v28 => optB (extA 0 v28) fun v29 => optB (extA 1 v28) fun v30 => B3 x0 x1 v29 v30 h)) (K (.tup []) h)
abbrev k66_0 (call' : CallFn) (n : Nat) (K' : Kont) := blockK 0 (finK A66.res K')
abbrev H66_3 (call' : CallFn) (n : Nat) (K' : Kont) (m : Nat) (B : F4) : Prop := ∀ (x0 x1 x4 x5 : AV) (h : AHeap) (ρ : Regs), Has ρ [(0, x0), (1, x1), (4, x4), (5, x5)] → B x0 x1 x4 x5 h = true → iter (runC call' n c66_4) (k66_0 call' n K') m ⟨ρ, h⟩ = true
abbrev k66_1 (call' : CallFn) (n : Nat) (K' : Kont) (m3 : Nat) := loopK call' n c66_4 (k66_0 call' n K') m3
theorem b66_3_ok (hc : Le call call') (hK : KLe K K') {m3 : Nat} {B3 : F4} (hB3 : H66_3 call' n K' m3 B3) (H : Has ρ [(0, x0), (1, x1), (4, x4), (5, x5)]) (s : b66_3 call n B3 x0 x1 x4 x5 h K = true) : runC call' n c66_4 ⟨ρ, h⟩ (k66_1 call' n K' m3) = true :=
  c_seq (c_seq (c_reg (q_mv H rfl fun H => r_nil (k_seq (c_cond H rfl s (fun s => c_skip (k_seq (c_seq (c_block (c_seq (c_reg (q_mv H rfl fun H => q_pure H rfl s fun _ s H => q_pure H rfl s fun _ s H => q_pure H rfl s fun _ s H => q_pure H rfl s fun _ s H => q_mv H rfl fun H => q_pure H rfl s fun _ s H => q_pure H rfl s fun _ s H => q_callv hc H rfl rfl s fun _ _ s H => q_pure H rfl s fun _ s H => r_nil (k_seq (c_cond H rfl s (fun s => c_ret (k_block_ret (k_seq_ret (k_loop_ret (k_block_ret (fin_ret H rfl hK s)))))) (fun s => c_skip (k_block (k_seq (c_dreg (c_p H rfl s fun _ s H => c_p H rfl s fun _ s H => c_p H rfl s fun _ s H => c_p H rfl s fun _ s H => c_p H rfl s fun _ s H => c_p H rfl s fun _ s H => c_p H rfl s fun _ s H => c_p H rfl s fun _ s H => c_m H rfl fun H => c_p H rfl s fun _ s H => c_p H rfl s fun _ s H => c_p H rfl s fun _ s H => c_p H rfl s fun _ s H => c_m H rfl fun H => c_p H rfl s fun _ s H => c_p H rfl s fun _ s H => calc_nil (d_cons (step_mv H rfl fun H => dk (again_nil (c_m H rfl fun H => calc_nil (d_nil (k_loop (hB3 _ _ _ _ _ _ (H.keep [0, 1, 4, 5] rfl) s))))))))))))))))))))) (fun s => c_exit (k_seq_exit (k_loop_exit (k_block_eq (fin_normal H rfl hK s))))))))))
def l66_3 (call : CallFn) (n : Nat) : Nat → AV → AV → AV → AV → AHeap → Kont → Bool
  | 0 => fun _ _ _ _ _ _ => false
  | m + 1 => fun x0 x1 x4 x5 h K => b66_3 call n (fun x0 x1 x4 x5 h => l66_3 call n m x0 x1 x4 x5 h K) x0 x1 x4 x5 h K
theorem l66_3_ok (hc : Le call call') (hK : KLe K K') : ∀ (m : Nat) (x0 x1 x4 x5 : AV) (h : AHeap) (ρ : Regs), Has ρ [(0, x0), (1, x1), (4, x4), (5, x5)] → l66_3 call n m x0 x1 x4 x5 h K = true → iter (runC call' n c66_4) (k66_0 call' n K') m ⟨ρ, h⟩ = true
  | 0, _, _, _, _, _, _, _, s => nomatch s
  | m + 1, _, _, _, _, _, _, H, s => c_round (b66_3_ok hc hK (fun x0 x1 x4 x5 h ρ H s => l66_3_ok hc hK m x0 x1 x4 x5 h ρ H s) H s)
def s66 (call : CallFn) (n : Nat) (x0 x1 x2 : AV) (h : AHeap) (K : Kont) : Bool :=
  optB (loadA h false 1 x1) fun v1 => optB (nilckA v1) fun v2 => optB (fadrA 1 v2) fun v3 => optB (loadA h false 1 v3) fun v4 => optB (loadA h false 1 x2) fun v5 => optB (lookA h (.leaf .str) true (.int .i64 0) v4 v5) fun v6 => optB (extA 0 v6) fun v7 => optB (extA 1 v6) fun v8 => l66_3 call n n x0 x1 v7 v8 h K
theorem s66_ok (hc : Le call call') (hK : KLe K K') (H : Has ρ [(2, x2), (1, x1), (0, x0)]) (s : s66 call n x0 x1 x2 h K = true) : runC call' n A66.body ⟨ρ, h⟩ (finK A66.res K') = true :=
  c_seq (c_dreg (c_p H rfl s fun _ s H => c_p H rfl s fun _ s H => c_p H rfl s fun _ s H => c_p H rfl s fun _ s H => c_p H rfl s fun _ s H => c_p H rfl s fun _ s H => c_m H rfl fun H => c_p H rfl s fun _ s H => c_p H rfl s fun _ s H => c_m H rfl fun H => c_m H rfl fun H => calc_nil (d_nil (k_seq (c_block (c_loop (l66_3_ok hc hK n _ _ _ _ _ _ (H.keep [0, 1, 4, 5] rfl) s)))))))
def w66 : Sh := fun call n args h K => match args with
  | [x0, x1, x2] => s66 call n x0 x1 x2 h K
  | _ => false
theorem w66_ok {E : Env} (e : E.code 66 = some A66) : ShOK E 66 w66 := fun call call' n args h K K' hc hK s =>
  match args, s with
  | [x0, x1, x2], s => ⟨A66, e, rfl, s66_ok hc hK (((Has.nil.set 0 x0).set 1 x1).set 2 x2) s⟩
  | [], s => nomatch s
  | [_], s => nomatch s
  | [_, _], s => nomatch s
  | _ :: _ :: _ :: _ :: _, s => nomatch s
end Go.Proofs.Ythifmankpcadjaa
namespace Go.Ab
set_option linter.unusedSimpArgs false
set_option linter.unusedVariables false
abbrev Prim := CallFn → Nat → List AV → AHeap → Kont → Bool
def lookP : List (Nat × Prim) → Nat → Option Prim
  | [], _ => none
  | (k, p) :: l, f => bif Nat.beq k f then some p else lookP l f
def envP (tbl : List (Nat × AFun)) (ps : List (Nat × Prim)) : Env := { code := lookT tbl, prim := lookP ps }
theorem lookP_mem {f : Nat} {p : Prim} : ∀ {l : List (Nat × Prim)}, lookP l f = some p → (f, p) ∈ l
  | [], h => by cases h
  | (k, x) :: l, h => by
    simp only [lookP] at h
    cases hb : Nat.beq k f with
    | true =>
      rw [hb, cond_true] at h
      cases h
      rw [Nat.eq_of_beq_eq_true hb]
      exact List.mem_cons_self
    | false =>
      rw [hb, cond_false] at h
      exact List.mem_cons_of_mem _ (lookP_mem h)
def MonoP (p : Prim) : Prop := ∀ (call call' : CallFn) n args h (K K' : Kont), Le call call' → (∀ v h', K v h' = true → K' v h' = true) → p call n args h K = true → p call' n args h K' = true
def AllMono : List (Nat × Prim) → Prop
  | [] => True
  | (_, p) :: l => MonoP p ∧ AllMono l
theorem AllMono.mem : ∀ {l : List (Nat × Prim)}, AllMono l → ∀ k p, (k, p) ∈ l → MonoP p
  | [], _, _, _, h => by cases h
  | (k, q) :: l, ⟨h1, h2⟩, k', p, h => by
    rcases List.mem_cons.1 h with e | h
    · cases e; exact h1
    · exact AllMono.mem h2 k' p h
theorem envP_le {tbl : List (Nat × AFun)} {ps : List (Nat × Prim)} (h : AllMono ps) : PrimLe (envP tbl ps) := fun f p hp => h.mem f p (lookP_mem hp)
def AllPrim (P : Program) : List (Nat × Prim) → Prop
  | [] => True
  | (k, p) :: l => PrimOK P k p ∧ AllPrim P l
theorem AllPrim.mem {P : Program} : ∀ {l : List (Nat × Prim)}, AllPrim P l → ∀ k p, (k, p) ∈ l → PrimOK P k p
  | [], _, _, _, h => by cases h
  | (k, q) :: l, ⟨h1, h2⟩, k', p, h => by
    rcases List.mem_cons.1 h with e | h
    · cases e; exact h1
    · exact AllPrim.mem h2 k' p h
theorem envP_ok {P : Program} {tbl : List (Nat × AFun)} {ps : List (Nat × Prim)} (h : AllOK P tbl) (hp : AllPrim P ps) : EnvOK P (envP tbl ps) :=
  ⟨fun f p e => hp.mem f p (lookP_mem e), fun f fn hf => h.mem f fn (lookT_mem hf)⟩
end Go.Ab
set_option linter.unusedVariables false
set_option linter.unusedSimpArgs false
namespace Go.Ab
open Go.Proofs
open Go.Shelf Go.RowKit Go.Lib
variable {P : Program} {ρ : Ren}
set_option maxHeartbeats 4000000 in
set_option maxRecDepth 100000 in
theorem insShift (L : Lays2.n21 P ρ) (b off n c i vb voff m vc : Nat) (cs vs : List Value) (w : World) (hi : i < n) (hm : 0 < m) (hroom : n + m ≤ c) (hn63 : n + m ≤ 9223372036854775807) (hvb : vb ≠ b)
    (hcl : cs.length = n) (hvl : vs.length = m)
    (hcs : ∀ j v, cs[j]? = some v → w.cell? ⟨b, off + j, none⟩ = some v) (hsp : ∀ j, j < n + m → (w.cell? ⟨b, off + j, none⟩).isSome = true) (hfz : ∀ j, j < n + m → w.frozen? ⟨b, off + j, none⟩ = false)
    (hvs : ∀ j v, vs[j]? = some v → w.cell? ⟨vb, voff + j, none⟩ = some v) (h1c : ∀ v ∈ cs, v.oneCell' = true) (h1v : ∀ v ∈ vs, v.oneCell' = true)
    (tA tB : TypeId) (kA kB : Nat) (hsa : w.shape? vb = some (tA, kA)) (hsb : w.shape? b = some (tB, kB)) (hkB : kB ≠ 0) (hfa : w.frozen? ⟨vb, voff, none⟩ = false) (hfe : w.frozen? ⟨vb, kA, none⟩ = false) :
    Calls P (ρ.f 21) #[.slice (some ⟨b, off, none⟩) n c, .int .i64 i, .slice (some ⟨vb, voff, none⟩) m vc] w fun e w' =>
      e = .returned (.slice (some ⟨b, off, none⟩) (n + m) c) ∧ w' = (w.drew.setCells b (off + (i + m)) (cs.drop i)).setCells b (off + i) vs := by
  have t0 := L.t0; have a0 := L.a0; have z0 := L.z0; have v0 := L.v0; have t3 := L.t3; have a3 := L.a3; have z3 := L.z3; have v3 := L.v3; have t4 := L.t4; have a4 := L.a4; have z4 := L.z4; have v4 := L.v4; have t22 := L.t22; have a22 := L.a22; have z22 := L.z22; have v22 := L.v22
  have u0 := run_underlying L.t0; have u3 := run_underlying L.t3; have u4 := run_underlying L.t4; have u22 := run_underlying L.t22
  have hz1 : ¬ ((m : Int) = 0) := by omega
  have hz2 : ¬ ((i : Int) = (n : Int)) := by omega
  have hsz : (P.info? (ρ.t 3)).map (·.size) = some 1 := by
    obtain ⟨i0, hi0, h0, h1, h2⟩ := info_parts L.i3
    rw [hi0]; simp [h1]
  have hov : ∀ lb cb, (callFunc (ρ.f 27) #[.slice (some ⟨vb, voff, none⟩) m vc, .slice (some ⟨b, off + (i + m), none⟩) lb cb]).run P w = .ok (.value (.bool false)) w := fun lb cb => by
    rw [run_callFunc_extern L.f27 (by kernel_rfl) (by kernel_rfl) (by kernel_rfl) (e := Extern.SlicesOverlaps.overlaps #[(ρ.t 22), (ρ.t 22)] #[(ρ.t 4)]) (by kernel_rfl),
      Lib.run_overlaps_apart w (ρ.t 22) (ρ.t 4) (ρ.t 3) L.t22 1 L.z3 ⟨vb, voff, none⟩ ⟨b, off + (i + m), none⟩ m vc lb cb hvb tA tB kA kB hsa hsb hkB hfa hfe]
    rfl
  have hdl : (cs.drop i).length = n - i := by rw [List.length_drop, hcl]
  have mixed := L.mixed
  have hw1 : IntKind.i64.wrap ((i : Int) + (m : Int)) = (i : Int) + (m : Int) := by rw [IntKind.wrap_i64]; omega
  have hb1 : (0 : Int) ≤ (i : Int) + (m : Int) := by omega
  have hin : i ≤ n := by omega
  have htn : ((i : Int) + (m : Int)).toNat = i + m := by omega
  have hb2 : ¬ (c = i + m) := by omega
  have hb3 : (i : Int) ≤ (n : Int) + (m : Int) := by omega
  have hb4 : ¬ (c = i) := by omega
  have hcp1 : ∀ ty dc sc, (Builtin.copy_ #[(ρ.t 22), (ρ.t 22)] ty #[.slice (some ⟨b, off + (i + m), none⟩) (n + m - (i + m)) dc, .slice (some ⟨b, off + i, none⟩) (n + m - i) sc]).run P w.drew = .ok (goInt (cs.drop i).length) (w.drew.setCells b (off + (i + m)) (cs.drop i)) := fun ty dc sc =>
    run_copy_cells w.drew _ _ ty (ρ.t 3) b (off + (i + m)) (n + m - (i + m)) dc ⟨b, off + i, none⟩ (n + m - i) sc (cs.drop i) L.t22 hsz (by rw [hdl]; simp only [Nat.min_def]; split <;> omega)
      (fun j v hj => by rw [Addr.add_lit, Nat.add_assoc]; exact hcs (i + j) v (by rwa [List.getElem?_drop] at hj))
      (fun j hj => by rw [Nat.add_assoc]; exact hsp _ (by omega)) (fun j hj => by rw [Nat.add_assoc]; exact hfz _ (by omega)) (fun v hv => h1c v (List.mem_of_mem_drop hv))
  obtain ⟨W1, hW1⟩ : ∃ W1, W1 = w.drew.setCells b (off + (i + m)) (cs.drop i) := ⟨_, rfl⟩
  have hsp1 : ∀ k, k < n + m → (W1.cell? ⟨b, off + k, none⟩).isSome = true := fun k hk => by
    rw [hW1]
    exact isSome_setCells b _ _ _ (fun j hj => by rw [Nat.add_assoc]; exact hsp _ (by omega)) _ (hsp k hk)
  have hcp2 : ∀ (W : World), (∀ x, W.cell? x = W1.cell? x) → (∀ x, W.frozen? x = W1.frozen? x) → ∀ ty dc, (Builtin.copy_ #[(ρ.t 22), (ρ.t 22)] ty #[.slice (some ⟨b, off + i, none⟩) (n + m - i) dc, .slice (some ⟨vb, voff, none⟩) m vc]).run P W = .ok (goInt vs.length) (W.setCells b (off + i) vs) := fun W hWc hWf ty dc =>
    run_copy_cells W _ _ ty (ρ.t 3) b (off + i) (n + m - i) dc ⟨vb, voff, none⟩ m vc vs L.t22 hsz (by rw [hvl]; simp only [Nat.min_def]; split <;> omega)
      (fun j v hj => by
        rw [Addr.add_lit, hWc, hW1, World.cell?_setCells_out b _ _ _ _ (fun h _ => absurd h hvb)]
        exact hvs j v hj)
      (fun j hj => by rw [hWc, Nat.add_assoc]; exact hsp1 _ (by omega)) (fun j hj => by rw [hWf, hW1, World.frozen?_setCells, Nat.add_assoc]; exact hfz _ (by omega)) h1v
  rw [← hW1] at hcp1
  go_enter L.f21, Body2.n21_ntmps ρ
  go_wp2_with (simp only [hov])
  go_region_law_o (refine step_copy_runI rfl _ _ (ρ.t 22) (ρ.t 22) rfl _ _ (by simp [Act.eval, Act.put]) (by simp [Act.eval, Act.put]) (hcp1 _ _ _) ?_)
  go_wp2_with (at_builtin; refine wpList_copy_runI _ rfl _ _ (ρ.t 22) (ρ.t 22) rfl _ _ rfl rfl (hcp2 _ (fun _ => rfl) (fun _ => rfl) _ _) ?_)
  go_ret
  first | exact ⟨rfl, rfl⟩ | exact ⟨rfl, by rw [hW1]⟩
set_option maxHeartbeats 4000000 in
set_option maxRecDepth 100000 in
theorem insRoom (L : Lays2.n21 P ρ) (b off n c vb voff m vc : Nat) (vs : List Value) (w : World) (hm : 0 < m) (hroom : n + m ≤ c)
    (hvl : vs.length = m) (hsp : ∀ j, j < m → (w.cell? ⟨b, off + n + j, none⟩).isSome = true) (hfz : ∀ j, j < m → w.frozen? ⟨b, off + n + j, none⟩ = false)
    (hvs : ∀ j v, vs[j]? = some v → w.cell? ⟨vb, voff + j, none⟩ = some v) (h1v : ∀ v ∈ vs, v.oneCell' = true) :
    Calls P (ρ.f 21) #[.slice (some ⟨b, off, none⟩) n c, .int .i64 n, .slice (some ⟨vb, voff, none⟩) m vc] w fun e w' =>
      e = .returned (.slice (some ⟨b, off, none⟩) (n + m) c) ∧ w' = w.setCells b (off + n) vs := by
  have t0 := L.t0; have a0 := L.a0; have z0 := L.z0; have v0 := L.v0; have t3 := L.t3; have a3 := L.a3; have z3 := L.z3; have v3 := L.v3; have t4 := L.t4; have a4 := L.a4; have z4 := L.z4; have v4 := L.v4; have t22 := L.t22; have a22 := L.a22; have z22 := L.z22; have v22 := L.v22
  have u0 := run_underlying L.t0; have u3 := run_underlying L.t3; have u4 := run_underlying L.t4; have u22 := run_underlying L.t22
  have mixed := L.mixed
  have hz1 : ¬ ((m : Int) = 0) := by omega
  have hsrc : Src P 1 (ρ.t 22) (.slice (some ⟨vb, voff, none⟩) m vc) m vs w := Src.ofSlice w L.t22 ⟨vb, voff, none⟩ m vc vs (by omega) (fun j u hj => by rw [Addr.add_lit]; exact hvs j u hj) h1v
  go_enter L.f21, Body2.n21_ntmps ρ
  go_wp2_with (at_builtin; refine wpList_append_room1 _ rfl _ _ (ρ.t 22) (ρ.t 22) rfl (ρ.t 3) _ _ L.t22 L.i3 b off n c rfl _ rfl m vs hsrc hroom (by rw [hvl]; exact hsp) (by rw [hvl]; exact hfz) ?_)
  go_ret
  exact ⟨rfl, rfl⟩
end Go.Ab
namespace Go.Ab
set_option linter.unusedSimpArgs false
set_option linter.unusedVariables false
open Go.Shelf
open Go.Proofs (Any2.slices_Insert_int_end_grow Any2.slices_Insert_int_grow)
def insC (r : Row) (g st len i id vid : Nat) : Bool := r.rw && Nat.beq g r.g && Nat.beq st 0 && Nat.beq r.sz 1 && Nat.ble len r.es.length && Nat.ble i len && Nat.blt len 1000000000 && !(Nat.beq id vid)
def insA (s : AV) (i vid : Nat) (a : Int) (h : AHeap) (K : Kont) : Bool :=
  match s with
  | .nilSlc => bif Nat.beq i 0 then K (.slc h.sz 0 0 1 1 false) (newRow h [[.int .i64 a]] 1) else false
  | .slc id g st len cap ex => match h.row id with
    | some r => bif insC r g st len i id vid then
        K (.slc id (r.g + 1) 0 (len + 1) (len + 1) false) (h.put id (.row { r with es := (r.es.take len).take i ++ [[.int .i64 a]] ++ (r.es.take len).drop i, g := r.g + 1, m := r.g + 1, ty := none }))
      else false
    | none => false
  | _ => false
def insP : Prim := fun _ _ args h K => match args with
  | [s, .int .i64 (.ofNat i), .slc vid vg vs vl vc vex] =>
    match source h 1 (.slc vid vg vs vl vc vex), h.row vid with
    | some [[.int .i64 a]], some rv => bif rv.rw && Nat.beq vg rv.g then insA s i vid a h K else false
    | _, _ => false
  | _ => false
theorem insA_mono {s : AV} {i vid : Nat} {a : Int} {h : AHeap} {K K' : Kont} (hK : ∀ v h', K v h' = true → K' v h' = true) (q : insA s i vid a h K = true) : insA s i vid a h K' = true := by
  unfold insA at q ⊢
  split at q
  · cases hb : Nat.beq i 0 with
    | false => rw [hb] at q; cases q
    | true => rw [hb] at q; exact hK _ _ q
  · split at q
    · rename_i id g st len cap ex _ r hr
      cases hc : insC r g st len i id vid with
      | false => rw [hc] at q; cases q
      | true => rw [hc] at q; exact hK _ _ q
    · cases q
  · cases q
theorem insP_mono : MonoP insP := by
  intro call call' n args h K K' _ hK q
  unfold insP at q ⊢
  split at q
  · split at q
    · rename_i vid vg _ _ _ _ _ _ _ rv _ _
      cases hc : (rv.rw && Nat.beq vg rv.g) with
      | false => rw [hc] at q; cases q
      | true => rw [hc] at q; exact insA_mono hK q
    · cases q
  · cases q
section
variable {P : Program} {B : Base} {φ : Phi} {h : AHeap} {w : World} {ρ : Ren}
theorem setCells_row (P : Program) {b o : Nat} {t : TypeId} {c : Array Value} {vs : List Value} (hb : w.heap[b]? = some (.cells c t (0, 0))) (hf : o + vs.length ≤ c.size) (h1 : ∀ v ∈ vs, v.oneCell' = true) :
    w.setCells b o vs = w.setRow b (c.toList.take o ++ vs ++ c.toList.drop (o + vs.length)).toArray := by
  have r1 := run_storeCells_at P b o t vs 0 c w hb (by omega) h1
  have r2 := run_storeCells_cells (P := P) b o vs 0 w (fun j hj => by
    rw [cell_of_row w b _ c t (0, 0) hb, Array.getElem?_eq_getElem (by omega)]; rfl) (fun j hj => by simp [World.frozen?, hb]) h1
  rw [r1] at r2
  simp only [Nat.add_zero] at r2
  injection r2 with _ r2
  exact r2.symm
theorem row_vals {id : Nat} {r : Row} (hr : RelRow φ id r w) (hsz : r.sz = 1) {L : Loc} (hL : φ id r.g = some L) (hrw : r.rw = true) :
    ∃ (vals : List Value) (c : Array Value) (t : TypeId), vals.length = r.es.length ∧ RelVs φ r.es.flatten vals ∧ w.heap[L.blk]? = some (.cells c t (0, 0)) ∧ c.size = L.tot ∧ L.base = 0 ∧ r.es.length ≤ L.tot ∧ c.toList.take r.es.length = vals ∧ ∀ v ∈ vals, v.oneCell' = true := by
  obtain ⟨L', hL', hext⟩ := hr.cur
  rw [hL] at hL'; cases hL'
  have hLs : L.sz = 1 := by rw [(hr.gen _ L hL).2, hsz]
  obtain ⟨hbase, c, t, hc, hcs, hx⟩ := hr.own hrw r.g L hr.mg hL
  have hcs' : c.size = L.tot := by rw [hcs, hLs, Nat.mul_one]
  obtain ⟨_, vals, hv, hcv⟩ := hr.cells r.g L hr.mg hL
  rw [hext, List.take_of_length_le (Nat.le_refl _)] at hv
  have hvl : vals.length = r.es.length := by rw [← hv.length, fl_len hr.es, hsz, Nat.mul_one]
  refine ⟨vals, c, t, hvl, hv, hc, by rw [hcs, hLs, Nat.mul_one], hbase, by omega, ?_, hv.leaf (allLeaf_flatten hr.leaf)⟩
  refine List.ext_getElem (by rw [List.length_take, Array.length_toList]; omega) fun j h1 h2 => ?_
  have := hcv j vals[j] (List.getElem?_eq_getElem h2)
  rw [hbase, Nat.zero_add, cell_of_row w L.blk _ c t (0, 0) hc] at this
  simp only [List.getElem_take, Array.getElem_toList]
  have h3 := (Array.getElem?_eq_some_iff.1 this)
  exact h3.2
theorem setCells_shape (P : Program) {b o : Nat} {t : TypeId} {c : Array Value} {vs : List Value} (hb : w.heap[b]? = some (.cells c t (0, 0))) (hf : o + vs.length ≤ c.size) (h1 : ∀ v ∈ vs, v.oneCell' = true) :
    ∃ c', (w.setCells b o vs).heap[b]? = some (.cells c' t (0, 0)) ∧ c'.size = c.size ∧ (∀ k, k ≠ b → (w.setCells b o vs).heap[k]? = w.heap[k]?) ∧ (w.setCells b o vs).heap.size = w.heap.size ∧ (w.setCells b o vs).os = w.os ∧ (w.setCells b o vs).tape = w.tape ∧ (w.setCells b o vs).output = w.output ∧ (w.setCells b o vs).drawn = w.drawn := by
  rw [setCells_row P hb hf h1]
  exact ⟨_, setRow_heap w b c _ t (0, 0) hb, by simp; omega, fun k hk => setRow_other w b k _ hk, by simp, rfl, rfl, rfl, rfl⟩
theorem ins_vals {es : List (List AV)} {vals : List Value} {i : Nat} {a : Int} {x : Value} (hes : ∀ e ∈ es, e.length = 1) (hv : RelVs φ es.flatten vals) (hx : RelV φ (.int .i64 a) x) :
    RelVs φ (es.take i ++ [[AV.int .i64 a]] ++ es.drop i).flatten (vals.take i ++ [x] ++ vals.drop i) := by
  rw [List.flatten_append, List.flatten_append, fl_take hes, fl_drop hes, Nat.mul_one]
  exact ((hv.take i).append (.cons hx .nil)).append (hv.drop i)
theorem zero_len (n : Nat) : (Builtin.zeroCells (Value.int .i64 0).cells n).toList.length = n := by
  have e : (Value.int .i64 0).cells = #[.int .i64 0] := rfl
  rw [e]; simp [Builtin.zeroCells]
theorem ins_grow {H : RelH P B φ h w} {id len : Nat} {r : Row} (hget : h.get id = some (.row r)) (hrw : r.rw = true) (hsz : r.sz = 1) {Lb : Loc} (hLb : φ id r.g = some Lb) {i : Nat} {a : Int} {x : Value} {vals : List Value} (hlr : len ≤ r.es.length) (hi : i ≤ len) (hv : RelVs φ (r.es.take len).flatten vals) (hx : RelV φ (.int .i64 a) x)
    {w' : World} {b tot : Nat} (hblk : (b = w.heap.size ∧ b < w'.heap.size) ∨ b = Lb.blk) (hws : w.heap.size ≤ w'.heap.size) (hkeep : ∀ k, k < w.heap.size → k ≠ Lb.blk → w'.heap[k]? = w.heap[k]?) (hkind : NoDef w w')
    (hnew : ∀ (j : Nat) (u : Value), (vals.take i ++ [x] ++ vals.drop i)[j]? = some u → w'.cell? ⟨b, j, none⟩ = some u) (hcells : ∃ c t, w'.heap[b]? = some (.cells c t (0, 0)) ∧ c.size = tot ∧ len + 1 ≤ tot) :
    φ.le (φ.add id (r.g + 1) ⟨b, 0, 1, len + 1, tot⟩) ∧ RelH P B (φ.add id (r.g + 1) ⟨b, 0, 1, len + 1, tot⟩) (h.put id (.row { r with es := (r.es.take len).take i ++ [[AV.int .i64 a]] ++ (r.es.take len).drop i, g := r.g + 1, m := r.g + 1, ty := none })) w' := by
  have hrow : RelRow φ id r w := H.obj id _ hget
  have hes1 : ∀ e ∈ r.es, e.length = 1 := fun e he => by rw [hrow.es e he, hsz]
  have hlen : ((r.es.take len).take i ++ [[AV.int .i64 a]] ++ (r.es.take len).drop i).length = len + 1 := by simp; omega
  refine row_grow (H := H) hget hrw (es' := (r.es.take len).take i ++ [[AV.int .i64 a]] ++ (r.es.take len).drop i) (fun e he => ?_) (fun e he => ?_) (Nat.le_refl _) (w' := w') (L := ⟨b, 0, 1, len + 1, tot⟩) ⟨hsz.symm, hlen.symm, rfl⟩ (hblk.imp (fun q => q) fun e => ⟨r.g, Lb, hLb, e.symm⟩) hws
    (fun k hk hn => hkeep k hk fun e => hn r.g Lb hLb e.symm) hkind ⟨_, ins_vals (fun e he => hes1 e (List.mem_of_mem_take he)) hv hx, hnew⟩ ?_ (fun g K hg hK => ?_) (ty' := none) (fun u hu => by cases hu)
  · rw [hsz]
    rcases List.mem_append.1 he with he | he
    · rcases List.mem_append.1 he with he | he
      · exact hes1 e (List.mem_of_mem_take (List.mem_of_mem_take he))
      · rw [List.mem_singleton.1 he]; rfl
    · exact hes1 e (List.mem_of_mem_take (List.mem_of_mem_drop he))
  · rcases List.mem_append.1 he with he | he
    · rcases List.mem_append.1 he with he | he
      · exact hrow.leaf e (List.mem_of_mem_take (List.mem_of_mem_take he))
      · rw [List.mem_singleton.1 he]; rfl
    · exact hrow.leaf e (List.mem_of_mem_take (List.mem_of_mem_drop he))
  · obtain ⟨c, t, q1, q2, q3⟩ := hcells
    exact ⟨c, t, q1, by simp only [Nat.mul_one]; exact q2, q3⟩
  · have := (hrow.gen g K hK).1; omega
end
section
variable {P : Program} {ρ : Ren}
theorem insP_ok {f : Nat} (L : Go.Proofs.Lays2.n21 P ρ) (hf : ρ.f 21 = f) (hmix : ∀ args w, (callFunc f args).run P w = .ok (.enter f args) w) : PrimOK P f insP := by
  intro call n _ args h K hK
  subst hf
  unfold insP at hK
  split at hK
  · rename_i s i vid vg vs vl vc vex
    split at hK
    · rename_i a rv hsrc hrv
      cases hc : (rv.rw && Nat.beq vg rv.g) with
      | false => rw [hc] at hK; cases hK
      | true =>
      rw [hc, cond_true] at hK
      simp only [Bool.and_eq_true, nbeq_true] at hc
      obtain ⟨hvrw, rfl⟩ := hc
      refine ⟨fun v hv id e => ?_, fun B φ w cargs H hA => ?_⟩
      · simp only [List.mem_cons, List.not_mem_nil, or_false] at hv
        rcases hv with rfl | rfl | rfl
        · subst e; cases hK
        · cases e
        · cases e
      · cases hA with
        | cons h1 h2 =>
        cases h2 with
        | cons h2 h3 =>
        cases h3 with
        | cons h3 h4 =>
        cases h4
        cases h2
        cases h3 with
        | slc hLv b1 b2 b3 b4 b5 b6 =>
        rename_i cs1 vcc voff Lv
        have hrv' := AHeap.row_some.1 hrv
        have hrowv : RelRow φ vid rv w := H.obj vid _ hrv'
        unfold source at hsrc
        simp only [hrv] at hsrc
        cases hl0 : Nat.beq vl 0 with
        | true => rw [hl0] at hsrc; cases hsrc
        | false =>
        rw [hl0, cond_false] at hsrc
        cases hc2 : (Nat.ble rv.m rv.g && Nat.beq rv.sz 1) with
        | false => rw [hc2] at hsrc; cases hsrc
        | true =>
        rw [hc2, cond_true] at hsrc
        simp only [Bool.and_eq_true, nble_true, nbeq_true] at hc2
        cases hl1 : Nat.beq ((rv.es.drop vs).take vl).length vl with
        | false => rw [hl1] at hsrc; cases hsrc
        | true =>
        rw [hl1, cond_true] at hsrc
        injection hsrc with hsrc
        have hvl : vl = 1 := by rw [hsrc] at hl1; exact (nbeq_true.1 hl1).symm
        subst hvl
        have hev : rv.es[vs]? = some [AV.int .i64 a] := by
          have : ((rv.es.drop vs).take 1)[0]? = some [AV.int .i64 a] := by rw [hsrc]; rfl
          rw [List.getElem?_take_of_lt (by omega), List.getElem?_drop] at this
          simpa using this
        obtain ⟨xs, x1, x2, x3⟩ := row_seg hrowv hLv hc2.1 (i := vs) (o := 0) (n := 1) (by omega) hev (by simp)
        obtain ⟨x, rfl⟩ : ∃ x, xs = [x] := by
          match xs, x2 with
          | [x], _ => exact ⟨x, rfl⟩
        have hx : RelV φ (.int .i64 a) x := by cases x1 with | cons q _ => exact q
        have hxv : x = .int .i64 a := by cases hx; rfl
        have hvoff : voff = Lv.base + vs * Lv.sz := b6 (by omega)
        have hvc : ∀ (j : Nat) (v : Value), [x][j]? = some v → w.cell? ⟨Lv.blk, voff + j, none⟩ = some v := fun j v hj => by
          have := x3 j v hj
          rw [Addr.add_lit, Nat.add_zero, ← hvoff] at this
          exact this
        have h1x : ∀ v ∈ [x], v.oneCell' = true := fun v hv => by rw [List.mem_singleton.1 hv, hxv]; rfl
        obtain ⟨_, vcs, vt, hvb, _⟩ := hrowv.own hvrw rv.g Lv hrowv.mg hLv
        show Lands P B φ w K ((callFunc (ρ.f 21) ⟨[cs1, .int .i64 (i : Int), .slice (some ⟨Lv.blk, voff, none⟩) 1 vcc]⟩).run P w)
        rw [hmix]
        intro n
        unfold insA at hK
        split at hK
        · -- nothing so far
          cases h1
          cases hi0 : Nat.beq i 0 with
          | false => rw [hi0] at hK; cases hK
          | true =>
          rw [hi0, cond_true] at hK
          have hi := nbeq_true.1 hi0
          subst hi
          have hS := Any2.slices_Insert_int_end_grow L none 0 0 Lv.blk voff 1 vcc [] [x] w (by omega) (Nat.le_refl _) (by omega) (by omega) rfl rfl (fun _ => rfl) (fun a e => by cases e) hvc h1x
          refine ((callsIn_wide (n := n)).2 hS).mono ?_
          rintro e w' ⟨rfl, rfl⟩
          have hge := grown_ge w (0 + 1) 0 (ρ.t 3)
          obtain ⟨φ', p1, p2, p3, p4⟩ := row_newT H.drew (es := [[AV.int .i64 a]]) (sz := 1) (by omega) (by simp) (by simp [allLeaf, AV.leaf]) (vals := [x]) (spare := (Builtin.zeroCells (Value.int .i64 0).cells (grownCap w (0 + 1) 0 (ρ.t 3) - (0 + 1))).toList) (.cons hx .nil) (tot := grownCap w (0 + 1) 0 (ρ.t 3))
            (by rw [zero_len]; simp only [List.length_singleton]; omega) (ρ.t 3) none (fun _ e => by cases e)
          have hw : w.drew.alloc (.cells ((([] : List Value) ++ [x]).toArray ++ Builtin.zeroCells (Value.int .i64 0).cells (grownCap w (0 + 1) 0 (ρ.t 3) - (0 + 1))) (ρ.t 3)) = w.drew.alloc (.cells ([x] ++ (Builtin.zeroCells (Value.int .i64 0).cells (grownCap w (0 + 1) 0 (ρ.t 3) - (0 + 1))).toList).toArray (ρ.t 3)) := by
            congr 2
            simp
          rw [hw]
          refine ⟨_, _, _, φ', rfl, hK, ?_, p3, p1, (Gw.drew B w).trans p4⟩
          exact .slc p2 (Nat.le_refl _) (by simp) (by simp only; omega) hge (fun e => by cases e) (fun _ => by simp)
        · rename_i id g st len cap ex
          split at hK
          · rename_i r hr
            cases hc3 : insC r g st len i id vid with
            | false => rw [hc3] at hK; cases hK
            | true =>
            rw [hc3, cond_true] at hK
            simp only [insC, Bool.and_eq_true, nbeq_true, nble_true, nblt_true, Bool.not_eq_true', nbeq_false] at hc3
            obtain ⟨⟨⟨⟨⟨⟨⟨hrw, rfl⟩, rfl⟩, hsz⟩, hlr⟩, hile⟩, hlt⟩, hne⟩ := hc3
            cases h1 with
            | slc hL a1 a2 a3 a4 a5 a6 =>
            rename_i c off Lb
            have hget := AHeap.row_some.1 hr
            have hrow : RelRow φ id r w := H.obj id _ hget
            obtain ⟨vals, bc, bt, v1, v2, v3, v4, v5, v6, v7, v8⟩ := row_vals hrow hsz hL hrw
            have hes1 : ∀ e ∈ r.es, e.length = 1 := fun e he => by rw [hrow.es e he, hsz]
            obtain ⟨vals, v1, v2, v6, v7, v8⟩ : ∃ vals : List Value, vals.length = len ∧ RelVs φ (r.es.take len).flatten vals ∧ len ≤ Lb.tot ∧ bc.toList.take len = vals ∧ ∀ v ∈ vals, v.oneCell' = true :=
              ⟨vals.take len, by rw [List.length_take]; omega, by rw [fl_take hes1, Nat.mul_one]; exact v2.take len, by omega, by rw [← v7, List.take_take, Nat.min_eq_left hlr], fun v hv => v8 v (List.mem_of_mem_take hv)⟩
            have hLs : Lb.sz = 1 := by rw [(hrow.gen _ Lb hL).2, hsz]
            have hB : B ≤ Lb.blk := (H.own id _ r.g Lb hget hL).1 hrw
            have hoff : 0 < c → off = 0 := fun hc0 => by have := a6 hc0; omega
            have hcell : ∀ (j : Nat) (v : Value), vals[j]? = some v → w.cell? ⟨Lb.blk, j, none⟩ = some v := fun j v hj => by
              have hjl := (List.getElem?_eq_some_iff.1 hj).1
              rw [cell_of_row w Lb.blk _ bc bt (0, 0) v3]
              rw [← v7, List.getElem?_take_of_lt (by omega)] at hj
              simpa using hj
            have hvne : Lv.blk ≠ Lb.blk := fun e => hne (H.disj id _ vid r.g rv.g Lb Lv hget hrw hL hLv e.symm)
            have hblt : Lb.blk < w.heap.size := H.lt id r.g Lb hL
            have one : ∀ v ∈ vals, v.oneCell' = true := v8
            by_cases hfits : len + 1 ≤ c
            · -- in place
              have hoff := hoff (by omega)
              subst hoff
              by_cases hend : i = len
              · replace hend := hend.symm
                subst hend
                have hS := insRoom L Lb.blk 0 len c Lv.blk voff 1 vcc [x] w (by omega) hfits rfl (fun j hj => by
                  rw [cell_of_row w Lb.blk _ bc bt (0, 0) v3, Array.getElem?_eq_getElem (by omega)]; rfl) (fun j hj => by simp [World.frozen?, v3]) hvc h1x
                refine ((callsIn_wide (n := n)).2 hS).mono ?_
                rintro e w' ⟨rfl, rfl⟩
                obtain ⟨c', y1, y2, y3, y4, y5, y6, y7, y8⟩ := setCells_shape (w := w) P (o := 0 + len) (vs := [x]) v3 (by simp; omega) h1x
                have hin : ∀ j, j < [x].length → (w.cell? ⟨Lb.blk, 0 + len + j, none⟩).isSome = true := fun j hj => by
                  simp only [List.length_singleton] at hj
                  rw [cell_of_row w Lb.blk _ bc bt (0, 0) v3, Array.getElem?_eq_getElem (by omega)]; rfl
                have hg := ins_grow (H := H) hget hrw hsz hL hlr (i := len) hile v2 hx (w' := w.setCells Lb.blk (0 + len) [x]) (b := Lb.blk) (tot := Lb.tot) (.inr rfl) (by omega) (fun k _ hk => y3 k hk) (NoDef.of_block y1 (fun ds e => by cases e) y3)
                  (fun j u hj => by
                    rw [List.take_of_length_le (by omega), List.drop_of_length_le (by omega), List.append_nil] at hj
                    by_cases hjl : j < vals.length
                    · rw [List.getElem?_append_left hjl] at hj
                      rw [World.cell?_setCells_out Lb.blk _ _ _ _ (fun _ _ => .inl (by show j < 0 + len; omega))]
                      exact hcell j u hj
                    · have hjl2 := (List.getElem?_eq_some_iff.1 hj).1
                      simp only [List.length_append, List.length_singleton] at hjl2
                      have hjn : j = len := by omega
                      rw [hjn] at hj ⊢
                      rw [List.getElem?_append_right (by omega), v1, Nat.sub_self] at hj
                      have := World.cell?_setCells_in Lb.blk [x] (0 + len) w hin 0 (by simp)
                      simp only [Nat.zero_add, Nat.add_zero] at this ⊢
                      rw [this]; exact hj) ⟨c', bt, y1, by rw [y2]; exact v4, by omega⟩
                refine ⟨_, _, _, _, rfl, hK, ?_, hg.2, hg.1, Gw.of_block v3 hB (fun ds e => by cases e) (fun r e => by cases e) y1 (fun _ _ _ e => by cases e; rfl) (fun _ _ _ e => by cases e; rfl) y3 y4 y5 y6 y7 (by rw [y8]; exact Nat.le_refl _)⟩
                exact .slc (L := ⟨Lb.blk, 0, 1, len + 1, Lb.tot⟩) (Phi.add_same _ _ _ _) (Nat.le_refl _) (by simp only; omega) (by simp only; omega) hfits (fun e => by cases e) (fun _ => by simp)
              · have hlt' : i < len := by omega
                have hS := insShift L Lb.blk 0 len c i Lv.blk voff 1 vcc vals [x] w hlt' (by omega) hfits (by omega) hvne v1 rfl (fun j v hj => by rw [Nat.zero_add]; exact hcell j v hj) (fun j hj => by
                  rw [cell_of_row w Lb.blk _ bc bt (0, 0) v3, Array.getElem?_eq_getElem (by omega)]; rfl) (fun j hj => by simp [World.frozen?, v3]) hvc one h1x vt bt vcs.size bc.size (by simp [World.shape?, hvb]) (by simp [World.shape?, v3]) (by omega) (by simp [World.frozen?, hvb]) (by simp [World.frozen?, hvb])
                refine ((callsIn_wide (n := n)).2 hS).mono ?_
                rintro e w' ⟨rfl, rfl⟩
                have h1d : ∀ v ∈ vals.drop i, v.oneCell' = true := fun v hv => one v (List.mem_of_mem_drop hv)
                have v3d : w.drew.heap[Lb.blk]? = some (.cells bc bt (0, 0)) := v3
                obtain ⟨c1, y1, y2, y3, y4, y5, y6, y7, y8⟩ := setCells_shape (w := w.drew) P (o := 0 + (i + 1)) (vs := vals.drop i) v3d (by rw [List.length_drop]; omega) h1d
                generalize hW : w.drew.setCells Lb.blk (0 + (i + 1)) (vals.drop i) = W1 at *
                obtain ⟨c2, u1, u2, u3, u4, u5, u6, u7, u8⟩ := setCells_shape (w := W1) P (o := 0 + i) (vs := [x]) y1 (by simp; omega) h1x
                have isW : ∀ (k : Nat), k < bc.size → (W1.cell? ⟨Lb.blk, k, none⟩).isSome = true := fun k hk => by
                  rw [cell_of_row W1 Lb.blk _ c1 bt (0, 0) y1, Array.getElem?_eq_getElem (by omega)]; rfl
                have keep : ∀ k, k ≠ Lb.blk → (W1.setCells Lb.blk (0 + i) [x]).heap[k]? = w.heap[k]? := fun k hk => (u3 k hk).trans (y3 k hk)
                have hg := ins_grow (H := H) hget hrw hsz hL hlr (i := i) hile v2 hx (w' := W1.setCells Lb.blk (0 + i) [x]) (b := Lb.blk) (tot := Lb.tot) (.inr rfl) (by rw [u4, y4]; exact Nat.le_refl _) (fun k _ hk => keep k hk) (NoDef.of_block u1 (fun ds e => by cases e) keep)
                  (fun j u hj => by
                    have hti : (vals.take i).length = i := by rw [List.length_take]; omega
                    by_cases hji : j < i
                    · rw [List.append_assoc, List.getElem?_append_left (by omega), List.getElem?_take_of_lt hji] at hj
                      rw [World.cell?_setCells_out Lb.blk _ _ _ _ (fun _ _ => .inl (by show j < 0 + i; omega)), ← hW, World.cell?_setCells_out Lb.blk _ _ _ _ (fun _ _ => .inl (by show j < 0 + (i + 1); omega))]
                      exact hcell j u hj
                    · by_cases hje : j = i
                      · subst hje
                        rw [List.append_assoc, List.getElem?_append_right (by omega), hti, Nat.sub_self] at hj
                        have := World.cell?_setCells_in Lb.blk [x] (0 + j) W1 (fun k hk => by simp only [List.length_singleton] at hk; exact isW _ (by omega)) 0 (by simp)
                        simp only [Nat.zero_add, Nat.add_zero] at this ⊢
                        rw [this]; exact hj
                      · rw [List.getElem?_append_right (by rw [List.length_append, hti]; simp; omega)] at hj
                        have hlen2 : (vals.take i ++ [x]).length = i + 1 := by rw [List.length_append, hti]; rfl
                        rw [hlen2] at hj
                        have hjl := (List.getElem?_eq_some_iff.1 hj).1
                        rw [World.cell?_setCells_out Lb.blk _ _ _ _ (fun _ _ => .inr (by show 0 + i + 1 ≤ j; omega)), ← hW]
                        have := World.cell?_setCells_in Lb.blk (vals.drop i) (0 + (i + 1)) w.drew (fun k hk => by
                          rw [List.length_drop] at hk
                          rw [cell_of_row w.drew Lb.blk _ bc bt (0, 0) v3d, Array.getElem?_eq_getElem (by omega)]; rfl) (j - (i + 1)) hjl
                        rw [show 0 + (i + 1) + (j - (i + 1)) = j by omega] at this
                        rw [this, ← hj, List.getElem?_eq_getElem]) ⟨c2, bt, u1, by rw [u2, y2]; exact v4, by omega⟩
                refine ⟨_, _, _, _, rfl, hK, ?_, hg.2, hg.1, Gw.of_block v3 hB (fun ds e => by cases e) (fun r e => by cases e) u1 (fun _ _ _ e => by cases e; rfl) (fun _ _ _ e => by cases e; rfl) keep (u4.trans y4) (u5.trans y5) (u6.trans y6) (u7.trans y7) (by rw [u8, y8]; exact Nat.le_succ _)⟩
                exact .slc (L := ⟨Lb.blk, 0, 1, len + 1, Lb.tot⟩) (Phi.add_same _ _ _ _) (Nat.le_refl _) (by simp only; omega) (by simp only; omega) hfits (fun e => by cases e) (fun _ => by simp)
            · -- a new block
              have hoc : ∀ (j : Nat) (v : Value), vals[j]? = some v → off = 0 := fun j v hj => hoff (by have := (List.getElem?_eq_some_iff.1 hj).1; omega)
              have hge := grown_ge w (len + 1) c (ρ.t 3)
              by_cases hend : i = len
              · replace hend := hend.symm
                subst hend
                have hS := Any2.slices_Insert_int_end_grow L (some ⟨Lb.blk, off, none⟩) len c Lv.blk voff 1 vcc vals [x] w (by omega) (by omega) (by omega) (by omega) v1 rfl (fun e => by cases e) (fun a e j v hj => by
                  cases e
                  rw [Addr.add_lit, hoc j v hj, Nat.zero_add]; exact hcell j v hj) hvc h1x
                refine ((callsIn_wide (n := n)).2 hS).mono ?_
                rintro e w' ⟨rfl, rfl⟩
                generalize hgc : grownCap w (len + 1) c (ρ.t 3) = gc at *
                generalize hzz : Builtin.zeroCells (Value.int .i64 0).cells (gc - (len + 1)) = zz at *
                have hzl : zz.size = gc - (len + 1) := by rw [← hzz]; have := zero_len (gc - (len + 1)); simpa using this
                have hg := ins_grow (H := H.drew) hget hrw hsz hL hlr (i := len) hile v2 hx (w' := w.drew.alloc (.cells ((vals ++ [x]).toArray ++ zz) (ρ.t 3))) (b := w.heap.size) (tot := gc) (.inl ⟨rfl, by simp⟩) (by simp) (fun k hk _ => heap_alloc_old w.drew _ hk) (NoDef.alloc w.drew (fun ds e => by cases e))
                  (fun j u hj => by
                    rw [List.take_of_length_le (by omega), List.drop_of_length_le (by omega), List.append_nil] at hj
                    have hjl := (List.getElem?_eq_some_iff.1 hj).1
                    have := World.cell?_alloc_new w.drew ((vals ++ [x]).toArray ++ zz) (ρ.t 3) j
                    rw [show w.drew.heap.size = w.heap.size from rfl] at this
                    rw [this, Array.getElem?_append_left (by simpa using hjl)]
                    simpa using hj) ⟨_, ρ.t 3, heap_alloc_new w.drew _, by simp only [Array.size_append, List.size_toArray, List.length_append, List.length_singleton]; omega, hge⟩
                refine ⟨_, _, _, _, rfl, hK, ?_, hg.2, hg.1, (Gw.drew B w).trans (Gw.alloc H.drew.base (fun _ _ _ e => by cases e; rfl))⟩
                exact .slc (L := ⟨w.heap.size, 0, 1, len + 1, gc⟩) (Phi.add_same _ _ _ _) (Nat.le_refl _) (by simp only; omega) (by simp only; omega) hge (fun e => by cases e) (fun _ => by simp)
              · have hlt' : i < len := by omega
                have hS := Any2.slices_Insert_int_grow L Lb.blk off len c i Lv.blk voff 1 vcc vals [x] w hlt' (by omega) (by omega) (by omega) (by omega) v1 rfl (fun j v hj => by rw [hoc j v hj, Nat.zero_add]; exact hcell j v hj) hvc one h1x
                refine ((callsIn_wide (n := n)).2 hS).mono ?_
                rintro e w' ⟨rfl, rfl⟩
                generalize hgc : grownCap w (len + 1) c (ρ.t 3) = gc at *
                generalize hz1 : Builtin.zeroCells (Value.int .i64 0).cells (len + 1 - i) = z1 at *
                generalize hz2 : Builtin.zeroCells (Value.int .i64 0).cells (gc - (len + 1)) = z2 at *
                have hz1l : z1.size = len + 1 - i := by rw [← hz1]; have := zero_len (len + 1 - i); simpa using this
                have hz2l : z2.size = gc - (len + 1) := by rw [← hz2]; have := zero_len (gc - (len + 1)); simpa using this
                have hti : (vals.take i).length = i := by rw [List.length_take]; omega
                have hA : (w.alloc (.cells ((vals.take i).toArray ++ z1 ++ z2) (ρ.t 3))).heap[w.heap.size]? = some (.cells ((vals.take i).toArray ++ z1 ++ z2) (ρ.t 3) (0, 0)) := heap_alloc_new w _
                have hAs : ((vals.take i).toArray ++ z1 ++ z2).size = gc := by simp only [Array.size_append, List.size_toArray, hti, hz1l, hz2l]; omega
                have hAc : ∀ j, j < i → (w.alloc (.cells ((vals.take i).toArray ++ z1 ++ z2) (ρ.t 3))).cell? ⟨w.heap.size, j, none⟩ = vals[j]? := fun j hj => by
                  rw [World.cell?_alloc_new w _ (ρ.t 3) j, Array.append_assoc, Array.getElem?_append_left (by simp only [List.size_toArray, hti]; exact hj), List.getElem?_toArray, List.getElem?_take_of_lt hj]
                have hAz : (w.alloc (.cells ((vals.take i).toArray ++ z1 ++ z2) (ρ.t 3))).heap.size = w.heap.size + 1 := by simp
                have hAo : ∀ k, k < w.heap.size → (w.alloc (.cells ((vals.take i).toArray ++ z1 ++ z2) (ρ.t 3))).heap[k]? = w.heap[k]? := fun k hk => heap_alloc_old w _ hk
                have gA : Gw B w (w.alloc (.cells ((vals.take i).toArray ++ z1 ++ z2) (ρ.t 3))) := Gw.alloc H.base (fun _ _ _ e => by cases e; rfl)
                have nA : NoDef w (w.alloc (.cells ((vals.take i).toArray ++ z1 ++ z2) (ρ.t 3))) := NoDef.alloc w (fun ds e => by cases e)
                generalize w.alloc (.cells ((vals.take i).toArray ++ z1 ++ z2) (ρ.t 3)) = A at *
                generalize (vals.take i).toArray ++ z1 ++ z2 = arr at *
                have h1d : ∀ v ∈ vals.drop i, v.oneCell' = true := fun v hv => one v (List.mem_of_mem_drop hv)
                obtain ⟨c1, y1, y2, y3, y4, y5, y6, y7, y8⟩ := setCells_shape (w := A.drew) P (o := i) (vs := [x]) hA (by simp; omega) h1x
                have hx1 : ∀ k, k < gc → (A.drew.cell? ⟨w.heap.size, k, none⟩).isSome = true := fun k hk => by
                  rw [cell_of_row A.drew w.heap.size _ arr (ρ.t 3) (0, 0) hA, Array.getElem?_eq_getElem (by omega)]; rfl
                have hin1 := World.cell?_setCells_in w.heap.size [x] i A.drew (fun k hk => by simp only [List.length_singleton] at hk; exact hx1 _ (by omega)) 0 (by simp)
                have hout1 : ∀ j, j < i → (A.drew.setCells w.heap.size i [x]).cell? ⟨w.heap.size, j, none⟩ = vals[j]? := fun j hj => by
                  rw [World.cell?_setCells_out w.heap.size _ _ _ _ (fun _ _ => .inl (by show j < i; omega))]; exact hAc j hj
                generalize A.drew.setCells w.heap.size i [x] = W1 at *
                have y1d : W1.drew.heap[w.heap.size]? = some (.cells c1 (ρ.t 3) (0, 0)) := y1
                obtain ⟨c2, u1, u2, u3, u4, u5, u6, u7, u8⟩ := setCells_shape (w := W1.drew) P (o := i + 1) (vs := vals.drop i) y1d (by rw [List.length_drop]; omega) h1d
                have keep : ∀ k, k ≠ w.heap.size → (W1.drew.setCells w.heap.size (i + 1) (vals.drop i)).heap[k]? = A.heap[k]? := fun k hk => (u3 k hk).trans (y3 k hk)
                have hg := ins_grow (H := H) hget hrw hsz hL hlr (i := i) hile v2 hx (w' := W1.drew.setCells w.heap.size (i + 1) (vals.drop i)) (b := w.heap.size) (tot := gc) (.inl ⟨rfl, by rw [u4]; show w.heap.size < W1.heap.size; rw [y4]; show w.heap.size < A.heap.size; omega⟩) (by rw [u4]; show w.heap.size ≤ W1.heap.size; rw [y4]; show w.heap.size ≤ A.heap.size; omega) (fun k hk _ => (keep k (by omega)).trans (hAo k hk))
                  (fun ds b e => ?_)
                  (fun j u hj => by
                    by_cases hji : j < i
                    · rw [List.append_assoc, List.getElem?_append_left (by omega), List.getElem?_take_of_lt hji] at hj
                      rw [World.cell?_setCells_out w.heap.size _ _ _ _ (fun _ _ => .inl (by show j < i + 1; omega))]
                      exact (hout1 j hji).trans hj
                    · by_cases hje : j = i
                      · subst hje
                        rw [List.append_assoc, List.getElem?_append_right (by omega), hti, Nat.sub_self] at hj
                        rw [World.cell?_setCells_out w.heap.size _ _ _ _ (fun _ _ => .inl (by show j < j + 1; omega))]
                        simp only [Nat.add_zero] at hin1
                        exact hin1.trans hj
                      · rw [List.getElem?_append_right (by rw [List.length_append, hti]; simp; omega)] at hj
                        have hlen2 : (vals.take i ++ [x]).length = i + 1 := by rw [List.length_append, hti]; rfl
                        rw [hlen2] at hj
                        have hjl := (List.getElem?_eq_some_iff.1 hj).1
                        have := World.cell?_setCells_in w.heap.size (vals.drop i) (i + 1) W1.drew (fun k hk => by
                          rw [List.length_drop] at hk
                          rw [cell_of_row W1.drew w.heap.size _ c1 (ρ.t 3) (0, 0) y1d, Array.getElem?_eq_getElem (by omega)]; rfl) (j - (i + 1)) hjl
                        rw [show i + 1 + (j - (i + 1)) = j by omega] at this
                        rw [this, ← hj, List.getElem?_eq_getElem]) ⟨c2, ρ.t 3, u1, by omega, hge⟩
                · refine ⟨_, _, _, _, rfl, hK, ?_, hg.2, hg.1, gA.trans (Gw.of_block hA H.base (fun ds e => by cases e) (fun r e => by cases e) u1 (fun _ _ _ e => by cases e; rfl) (fun _ _ _ e => by cases e; rfl) keep (u4.trans y4) (u5.trans y5) (u6.trans y6) (u7.trans y7) (by rw [u8]; show A.drawn ≤ W1.drawn + 1; rw [y8]; show A.drawn ≤ A.drawn + 1 + 1; omega))⟩
                  exact .slc (L := ⟨w.heap.size, 0, 1, len + 1, gc⟩) (Phi.add_same _ _ _ _) (Nat.le_refl _) (by simp only; omega) (by simp only; omega) hge (fun e => by cases e) (fun _ => by simp)
                · by_cases q : ds = w.heap.size
                  · rw [q, u1] at e; cases e
                  · exact nA ds b ((keep ds q).symm.trans e)
          · cases hK
        · cases hK
    · cases hK
  · cases hK
end
end Go.Ab
namespace Go.Ab
set_option linter.unusedSimpArgs false
set_option linter.unusedVariables false
theorem Gw.grown {w w' : World} (g : Gw w.heap.size w w') : ∃ q os, w' = Go.Sort.grow (w.drewN q) os := by
  refine ⟨w'.drawn - w.drawn, w'.heap.extract w.heap.size w'.heap.size, ?_⟩
  have h1 := g.os
  have h2 := g.tape
  have h3 := g.output
  have h4 := g.drawn
  have h5 : w'.heap = w.heap ++ w'.heap.extract w.heap.size w'.heap.size := by
    apply Array.ext_getElem?
    intro k
    have hs := g.size
    by_cases hk : k < w.heap.size
    · rw [g.below k hk, Array.getElem?_append_left hk]
    · rw [Array.getElem?_append_right (by omega), Array.getElem?_extract]
      by_cases hk2 : k < w'.heap.size
      · rw [if_pos (by omega), show w.heap.size + (k - w.heap.size) = k by omega]
      · rw [if_neg (by omega), Array.getElem?_eq_none (by omega)]
  obtain ⟨hp, tp, dr, os, out⟩ := w
  obtain ⟨hp', tp', dr', os', out'⟩ := w'
  simp only at h1 h2 h3 h4 h5
  subst h1; subst h2; subst h3
  unfold Go.Sort.grow World.drewN
  simp only
  rw [← h5, show dr + (dr' - dr) = dr' by omega]
theorem Gw.ahead (B : Nat) (w : World) (n : Nat) : Gw B w (Go.Sort.ahead w n) := ⟨rfl, rfl, Nat.le_add_right _ _, rfl, Nat.le_refl _, fun _ _ => rfl, fun _ _ h => h, fun _ r h => ⟨r, h⟩⟩
theorem Gw.grow {B : Nat} {w : World} (hB : B ≤ w.heap.size) (os : Array Obj) : Gw B w (Go.Sort.grow w os) := by
  have old : ∀ k : Nat, k < w.heap.size → (Go.Sort.grow w os).heap[k]? = w.heap[k]? := fun k hk => Go.Sort.heap_grow_old w os hk
  refine ⟨rfl, rfl, Nat.le_refl _, rfl, ?_, fun k hk => old k (by omega), fun k ds hk => ?_, fun k r hk => ⟨r, ?_⟩⟩
  · show w.heap.size ≤ (w.heap ++ os).size
    rw [Array.size_append]; omega
  · rw [old k (Array.getElem?_eq_some_iff.1 hk).1]; exact hk
  · rw [old k (Array.getElem?_eq_some_iff.1 hk).1]; exact hk
theorem RelH.grow {P : Program} {B : Base} {φ : Phi} {h : AHeap} {w : World} (H : RelH P B φ h w) (os : Array Obj) : RelH P B φ h (Go.Sort.grow w os) :=
  H.keep (by show w.heap.size ≤ (w.heap ++ os).size; rw [Array.size_append]; omega) fun id g L hL => Go.Sort.heap_grow_old w os (H.lt id g L hL)
end Go.Ab
namespace Go.Ab
set_option linter.unusedSimpArgs false
set_option linter.unusedVariables false
open Go.Shelf Go.Sort
open Go.Proofs (SlLaysF.n6 AnyF.slices_SortFunc_none Any.slices_SortFunc CmpLays1 OneCell ltOf sortWorld)
def putSeg (h : AHeap) (id : Nat) (r : Row) (s : Nat) (us : List AV) : AHeap := h.put id (.row { r with es := lay r.es s (us.map fun v => [v]), m := r.g })
noncomputable def cdec (p : Prop) : Bool := @decide p (Classical.propDecidable p)
theorem cdec_true {p : Prop} : cdec p = true ↔ p := by
  unfold cdec
  exact @decide_eq_true_iff p (Classical.propDecidable p)
theorem drop_flat1 : ∀ {es : List (List AV)}, (∀ e ∈ es, e.length = 1) → ∀ n, es.flatten.drop n = (es.drop n).flatten
  | [], _, n => by simp
  | e :: l, h, 0 => rfl
  | e :: l, h, n + 1 => by
    have h1 := h e (by simp)
    match e, h1 with
    | [a], _ => exact drop_flat1 (fun x hx => h x (List.mem_cons_of_mem _ hx)) n
theorem take_flat1 : ∀ {es : List (List AV)}, (∀ e ∈ es, e.length = 1) → ∀ n, es.flatten.take n = (es.take n).flatten
  | [], _, n => by simp
  | e :: l, h, 0 => by simp
  | e :: l, h, n + 1 => by
    have h1 := h e (by simp)
    match e, h1 with
    | [a], _ =>
      show a :: (l.flatten.take n) = a :: (l.take n).flatten
      rw [take_flat1 (fun x hx => h x (List.mem_cons_of_mem _ hx)) n]
section
variable {P : Program} {B : Base} {φ : Phi} {h : AHeap} {w : World}
theorem seg_world (H : RelH P B φ h w) {id : Nat} {r : Row} (hr : h.get id = some (.row r)) (hrw : r.rw = true) (hsz : r.sz = 1) {L : Loc} (hL : φ id r.g = some L) {s : Nat}
    {α : Type} [Inhabited α] {enc : α → Value} {av : α → AV} (hrel : ∀ x, RelV φ (av x) (enc x)) (hone : ∀ x, (enc x).oneCell' = true) (hleaf : ∀ x, (av x).leaf = true) (d dk : Array α) (hH : Holds enc w L.blk (L.base + s) d) (hk : dk.size = d.size) (hfit : s + d.size ≤ r.es.length) (m : Nat) (os : Array Obj) :
    RelH P B φ (putSeg h id r s (dk.toList.map av)) (sortWorld enc w L.blk (L.base + s) m dk os) ∧ Gw B w (sortWorld enc w L.blk (L.base + s) m dk os) := by
  have HA : RelH P B φ h (w.drewN m) := H.heap rfl
  have hrow : RelRow φ id r w := H.obj id _ hr
  have hLs : L.sz = 1 := by rw [(hrow.gen _ L hL).2, hsz]
  have hnv : RelVs φ ((dk.toList.map av).map fun v => [v]).flatten (dk.toList.map enc) := by
    rw [flatten_single]
    induction dk.toList with
    | nil => exact .nil
    | cons x l ih => exact .cons (hrel x) ih
  have hlen : ((dk.toList.map av).map fun v => [v]).length = d.size := by simp [hk]
  have he : storeRow h 1 id r.g s ((dk.toList.map av).map fun v => [v]) = some (putSeg h id r s (dk.toList.map av)) := by
    unfold storeRow putSeg
    rw [AHeap.row_some.2 hr]
    have : (r.rw && Nat.beq r.g r.g && Nat.beq r.sz 1 && Nat.ble (s + ((dk.toList.map av).map fun v => [v]).length) r.es.length) = true := by
      rw [hrw, hsz, hlen]
      simp only [Nat.beq_refl, Bool.and_self, Bool.true_and]
      exact nble_true.2 hfit
    simp only [this, cond_true]
  obtain ⟨w', s1, s2, s3, _⟩ := storeRow_sound HA (fun x hx => by
      obtain ⟨v, _, rfl⟩ := List.mem_map.1 hx; rfl) (fun x hx => by
      obtain ⟨v, hv, rfl⟩ := List.mem_map.1 hx
      obtain ⟨a, _, rfl⟩ := List.mem_map.1 hv
      show allLeaf [av a] = true
      simp [allLeaf, hleaf a]) hnv hL he
  rw [hLs, Nat.mul_one] at s1
  have hst := Go.run_storeCells_cells (P := P) L.blk (L.base + s) (dk.toList.map enc) 0 (w.drewN m)
    (fun j hj => by
      have := (hH j (by simpa [hk] using hj)).1
      rw [World.cell?_drewN, Nat.add_zero, this]; rfl)
    (fun j hj => by
      have := (hH j (by simpa [hk] using hj)).2
      rw [Nat.add_zero]; exact this)
    (fun v hv => by
      obtain ⟨a, _, rfl⟩ := List.mem_map.1 hv
      exact hone a)
  rw [hst] at s1
  have hw' : (w.drewN m).setCells L.blk (L.base + s + 0) (dk.toList.map enc) = w' := by injection s1
  have hput := Go.Lib.putRow_eq_setCells enc w L.blk (L.base + s) d dk.toList m hH (by simpa using hk)
  have hw : sortWorld enc w L.blk (L.base + s) m dk os = grow w' os := by
    unfold sortWorld
    have : dk.toList.toArray = dk := by simp
    rw [this] at hput
    rw [hput, ← hw', Nat.add_zero]
  rw [hw]
  have g1 : Gw B w (w.drewN m) := Gw.ahead B w m
  exact ⟨s2.grow os, (g1.trans s3).trans (Gw.grow s2.base os)⟩
variable {ρ : Ren}
end
end Go.Ab
namespace Go.Ab
set_option linter.unusedSimpArgs false
set_option linter.unusedVariables false
open Go.Shelf Go.Sort
open Go.Proofs (Any.slices_Sort_int_none Any.slices_Sort_int sortWorld)
def sortedI (zs : List Int) : List Int := zs.mergeSort fun x y => decide (x ≤ y)
structure SortIOK (h : AHeap) (id : Nat) (r : Row) (s : Nat) (zs : List Int) (K : Kont) : Prop where
  row : h.get id = some (.row r)
  rw : r.rw = true
  sz : r.sz = 1
  es : (r.es.drop s).take zs.length = (zs.map (AV.int .i64)).map fun v => [v]
  lt : zs.length < 4611686018427387904
  fin : K (.tup []) (putSeg h id r s ((sortedI zs).map (AV.int .i64))) = true
noncomputable def sortI : Prim := fun call n args h K => match args with
  | [.nilSlc] => K (.tup []) h
  | [.emp] => K (.tup []) h
  | [.slc id g s len c ex] => bif Nat.beq len 0 then K (.tup []) h
      else cdec (∃ r zs, g = r.g ∧ zs.length = len ∧ SortIOK h id r s zs K)
  | _ => false
theorem sortI_mono : MonoP sortI := by
  intro call call' n args h K K' hle hK hs
  unfold sortI at hs ⊢
  split at hs
  · exact hK _ _ hs
  · exact hK _ _ hs
  · rename_i id g s len c ex
    cases hl : Nat.beq len 0 with
    | true => rw [hl, cond_true] at hs; exact hK _ _ hs
    | false =>
      rw [hl, cond_false] at hs
      have hs := cdec_true.1 hs
      obtain ⟨r, zs, h2, h3, S⟩ := hs
      rw [cond_false]
      exact cdec_true.2 ⟨r, zs, h2, h3, ⟨S.row, S.rw, S.sz, S.es, S.lt, hK _ _ S.fin⟩⟩
  · cases hs
section
variable {P : Program} {ρ : Ren}
theorem int_rel {φ : Phi} {z : Int} {cv : Value} (hv : RelV φ (.int .i64 z) cv) : cv = .int .i64 z := by cases hv; rfl
theorem sortI_ok {f : Nat} (L : Go.Proofs.Lays.n189 P ρ) (hf : ρ.f 189 = f) (hmix : ∀ args w, (callFunc f args).run P w = .ok (.enter f args) w) : PrimOK P f sortI := by
  intro call n hcall args h K hK
  subst hf
  have none : ∀ (B : Base) (φ : Phi) (w : World) (p : Option Addr) (c : Nat), RelH P B φ h w → K (.tup []) h = true → Lands P B φ w K ((callFunc (ρ.f 189) ⟨[.slice p 0 c]⟩).run P w) := by
    intro B φ w p c H hk
    rw [hmix]
    intro n
    have hS := Any.slices_Sort_int_none (P := P) (ρ := ρ) L p c w
    refine ((callsIn_wide (n := n)).2 hS).mono ?_
    rintro e w' ⟨rfl, rfl⟩
    exact ⟨.tup [], h, .tuple #[], φ, rfl, hk, .tup .nil, H, φ.le_refl, Gw.refl B w'⟩
  unfold sortI at hK
  split at hK
  · refine ⟨fun v hv id e => ?_, fun B φ w cargs H hA => ?_⟩
    · simp only [List.mem_cons, List.not_mem_nil, or_false] at hv
      rcases hv with rfl; cases e
    · cases hA with
      | cons h1 h3 =>
        cases h3
        cases h1
        exact none B φ w _ _ H hK
  · refine ⟨fun v hv id e => ?_, fun B φ w cargs H hA => ?_⟩
    · simp only [List.mem_cons, List.not_mem_nil, or_false] at hv
      rcases hv with rfl; cases e
    · cases hA with
      | cons h1 h3 =>
        cases h3
        cases h1
        exact none B φ w _ _ H hK
  · rename_i id g s len c ex
    refine ⟨fun v hv id e => ?_, fun B φ w cargs H hA => ?_⟩
    · simp only [List.mem_cons, List.not_mem_nil, or_false] at hv
      rcases hv with rfl; cases e
    · cases hA with
      | cons h1 h3 =>
        cases h3
        cases h1 with
        | slc hL a1 a2 a3 a4 a5 a6 =>
          rename_i c0 off L'
          cases hl : Nat.beq len 0 with
          | true =>
            rw [hl, cond_true] at hK
            have := nbeq_true.1 hl
            subst this
            exact none B φ w _ _ H hK
          | false =>
            rw [hl, cond_false] at hK
            have hlen := nbeq_false.1 hl
            obtain ⟨r, zs, hg, hvl, S⟩ := cdec_true.1 hK
            subst hg
            have hrow : RelRow φ id r w := H.obj id _ S.row
            have hLs : L'.sz = 1 := by rw [(hrow.gen _ L' hL).2, S.sz]
            obtain ⟨hbase, cs, ct, hcs, hcsz, hext⟩ := hrow.own S.rw r.g L' hrow.mg hL
            obtain ⟨L2, hL2, hext'⟩ := hrow.cur
            have : L2 = L' := by rw [hL] at hL2; cases hL2; rfl
            subst this
            have hoff : off = L2.base + s := by rw [a6 (by omega), hLs, Nat.mul_one]
            subst hoff
            have hes1 : ∀ e ∈ r.es, e.length = 1 := fun e he => by rw [hrow.es e he, S.sz]
            have hfit : s + len ≤ r.es.length := by omega
            obtain ⟨nv, n1, n2, n3⟩ := row_flat hrow hL hrow.mg (p := s) (n := len) (by rw [S.sz]; omega)
            have hfl : (r.es.flatten.drop s).take len = zs.map (AV.int .i64) := by
              rw [drop_flat1 hes1, take_flat1 (fun e he => hes1 e (List.mem_of_mem_drop he)), ← hvl, S.es, flatten_single]
            rw [hfl] at n1
            have hrel : ∀ x : Int, RelV φ (AV.int .i64 x) (Value.int .i64 x) := fun x => .int _ _
            have hH : Holds (Value.int .i64) w L2.blk (L2.base + s) zs.toArray := by
              intro j hj
              have hj : j < zs.length := by simpa using hj
              refine ⟨?_, ?_⟩
              · have e1 : zs.toArray[j]! = zs[j] := by rw [getElem!_pos zs.toArray j (by simpa using hj)]; simp
                rw [e1]
                obtain ⟨v, q1, q2⟩ := n1.get (i := j) (a := AV.int .i64 zs[j]) (by simp [hj])
                rw [int_rel q2] at q1
                have := n3 j _ q1
                have ha : (⟨L2.blk, L2.base + s, Option.none⟩ : Addr).add j = ⟨L2.blk, L2.base + s + j, Option.none⟩ := by
                  simp only [Addr.add]
                  split
                  · rename_i h0; subst h0; rfl
                  · rfl
                rw [ha] at this
                exact this
              · simp only [World.frozen?, hcs]
                simp
            have hblk : L2.blk < w.heap.size := H.lt id r.g L2 hL
            have hS := Any.slices_Sort_int (P := P) L L2.blk (L2.base + s) c0 zs w hH hblk S.lt
            rw [hmix]
            intro n
            rw [hvl] at hS
            refine ((callsIn_wide (n := n)).2 hS).mono ?_
            rintro e w' ⟨rfl, m, os, rfl⟩
            have hsl : (sortedI zs).length = zs.length := List.length_mergeSort _
            obtain ⟨H2, G2⟩ := seg_world (enc := Value.int .i64) (av := AV.int .i64) H S.row S.rw S.sz hL hrel (fun _ => rfl) (fun _ => rfl) zs.toArray (sortedI zs).toArray hH (by simp [hsl]) (by simpa [hvl] using hfit) m os
            exact ⟨.tup [], _, .tuple #[], φ, rfl, by simpa using S.fin, .tup .nil, H2, φ.le_refl, G2⟩
  · cases hK
end
end Go.Ab
namespace Go.Ab
set_option linter.unusedSimpArgs false
set_option linter.unusedVariables false
def saysT : Prim := fun _ _ args h K => match args with
  | [] => K (.bool true) h
  | _ => false
theorem saysT_mono : MonoP saysT := by
  intro call call' n args h K K' _ hK s
  unfold saysT at s ⊢
  split at s
  · exact hK _ _ s
  · cases s
theorem saysT_ok {P : Program} {E : Env} (hmix : P.follows .mixedOrders = true) (hE : EnvOK P E) {f fuel : Nat} {fn : AFun} (hf : E.code f = some fn) (hrun : callN E fuel (.func f) [] AHeap.empty (fun v _ => isTrue v) = true) : PrimOK P f saysT := by
  intro call n _ args h K hK
  unfold saysT at hK
  split at hK
  · refine ⟨fun v hv => absurd hv List.not_mem_nil, fun B φ w cargs H hA => ?_⟩
    cases hA
    have h0 := callN_sound hmix hE fuel (.func f) [] AHeap.empty _ hrun (.of w.heap.size) (fun _ _ => none) w [] (relH_empty w) .nil
    simp only at h0
    have h0 := FuncOK.lands h0
    rw [enter_of hE hf] at h0 ⊢
    intro m
    have h1 : CallsIn (FW none) m P f #[] w _ := h0 m
    refine h1.mono ?_
    rintro e w' ⟨v, h', cv, φ', rfl, hi, hv, _, _, hg⟩
    have hb : cv = .bool true := by
      cases hv <;> first | (cases hi; done) | skip
      rename_i b
      cases b with
      | false => cases hi
      | true => rfl
    subst hb
    obtain ⟨q, os, rfl⟩ := Gw.grown hg
    have H1 : RelH P B φ h (w.drewN q) := H.heap rfl
    exact ⟨.bool true, h, .bool true, φ, rfl, hK, .bool _, H1.grow os, φ.le_refl, (Gw.ahead _ w q).trans (Gw.grow (B := B) H1.base os)⟩
  · cases hK
end Go.Ab
namespace Go.Proofs.Ythifmankpcadjaa
open Go.Ab
noncomputable def prims : List (Nat × Prim) := [(59, insP), (47, sortI), (7, saysT)]
theorem prims_le : AllMono prims := ⟨insP_mono, sortI_mono, saysT_mono, trivial⟩
end Go.Proofs.Ythifmankpcadjaa
namespace Go.Proofs.Ythifmankpcadjaa
open Go.Ab
noncomputable def tbl : List (Nat × AFun) := [(3, A3), (4, A4), (5, A5), (6, A6), (8, A8), (9, A9), (10, A10), (11, A11), (12, A12), (13, A13), (14, A14), (15, A15), (16, A16), (17, A17), (18, A18), (19, A19), (21, A21), (22, A22), (24, A24), (26, A26), (27, A27), (28, A28), (29, A29), (30, A30), (31, A31), (32, A32), (33, A33), (34, A34), (35, A35), (36, A36), (37, A37), (38, A38), (39, A39), (40, A40), (41, A41), (42, A42), (44, A44), (45, A45), (46, A46), (48, A48), (49, A49), (50, A50), (51, A51), (52, A52), (53, A53), (54, A54), (55, A55), (56, A56), (57, A57), (58, A58), (60, A60), (61, A61), (62, A62), (63, A63), (64, A64), (65, A65), (67, A67), (70, A70), (71, A71), (74, A74), (87, A87), (88, A88), (20, A20), (23, A23), (25, A25), (43, A43), (66, A66)]
noncomputable def E : Env := envP tbl prims
theorem primle : PrimLe E := envP_le prims_le
theorem d5 {n : Nat} {x0 : AV} {h : AHeap} {K : Kont} (s : s5 (callN E n) n x0 h K = true) : callN E (n + 1) (.func 5) [x0] h K = true := down primle rfl (w5_ok rfl) s
theorem d6 {n : Nat} {x0 : AV} {h : AHeap} {K : Kont} (s : s6 (callN E n) n x0 h K = true) : callN E (n + 1) (.func 6) [x0] h K = true := down primle rfl (w6_ok rfl) s
theorem d8 {n : Nat} {x0 : AV} {h : AHeap} {K : Kont} (s : s8 (callN E n) n x0 h K = true) : callN E (n + 1) (.func 8) [x0] h K = true := down primle rfl (w8_ok rfl) s
theorem d9 {n : Nat} {x0 x1 : AV} {h : AHeap} {K : Kont} (s : s9 (callN E n) n x0 x1 h K = true) : callN E (n + 1) (.func 9) [x0, x1] h K = true := down primle rfl (w9_ok rfl) s
theorem d10 {n : Nat} {x0 x1 x2 x3 : AV} {h : AHeap} {K : Kont} (s : s10 (callN E n) n x0 x1 x2 x3 h K = true) : callN E (n + 1) (.func 10) [x0, x1, x2, x3] h K = true := down primle rfl (w10_ok rfl) s
theorem d14 {n : Nat} {x0 : AV} {h : AHeap} {K : Kont} (s : s14 (callN E n) n x0 h K = true) : callN E (n + 1) (.func 14) [x0] h K = true := down primle rfl (w14_ok rfl) s
theorem d15 {n : Nat} {x0 : AV} {h : AHeap} {K : Kont} (s : s15 (callN E n) n x0 h K = true) : callN E (n + 1) (.func 15) [x0] h K = true := down primle rfl (w15_ok rfl) s
theorem d16 {n : Nat} {x0 : AV} {h : AHeap} {K : Kont} (s : s16 (callN E n) n x0 h K = true) : callN E (n + 1) (.func 16) [x0] h K = true := down primle rfl (w16_ok rfl) s
theorem d22 {n : Nat} {x0 x1 : AV} {h : AHeap} {K : Kont} (s : s22 (callN E n) n x0 x1 h K = true) : callN E (n + 1) (.func 22) [x0, x1] h K = true := down primle rfl (w22_ok rfl) s
theorem d24 {n : Nat} {x0 : AV} {h : AHeap} {K : Kont} (s : s24 (callN E n) n x0 h K = true) : callN E (n + 1) (.func 24) [x0] h K = true := down primle rfl (w24_ok rfl) s
theorem d26 {n : Nat} {x0 : AV} {h : AHeap} {K : Kont} (s : s26 (callN E n) n x0 h K = true) : callN E (n + 1) (.func 26) [x0] h K = true := down primle rfl (w26_ok rfl) s
theorem d27 {n : Nat} {h : AHeap} {K : Kont} (s : s27 (callN E n) n  h K = true) : callN E (n + 1) (.func 27) [] h K = true := down primle rfl (w27_ok rfl) s
theorem d28 {n : Nat} {x0 x1 x2 x3 : AV} {h : AHeap} {K : Kont} (s : s28 (callN E n) n x0 x1 x2 x3 h K = true) : callN E (n + 1) (.func 28) [x0, x1, x2, x3] h K = true := down primle rfl (w28_ok rfl) s
theorem d29 {n : Nat} {x0 x1 : AV} {h : AHeap} {K : Kont} (s : s29 (callN E n) n x0 x1 h K = true) : callN E (n + 1) (.func 29) [x0, x1] h K = true := down primle rfl (w29_ok rfl) s
theorem d30 {n : Nat} {x0 x1 : AV} {h : AHeap} {K : Kont} (s : s30 (callN E n) n x0 x1 h K = true) : callN E (n + 1) (.func 30) [x0, x1] h K = true := down primle rfl (w30_ok rfl) s
theorem d36 {n : Nat} {x0 : AV} {h : AHeap} {K : Kont} (s : s36 (callN E n) n x0 h K = true) : callN E (n + 1) (.func 36) [x0] h K = true := down primle rfl (w36_ok rfl) s
theorem d39 {n : Nat} {x0 : AV} {h : AHeap} {K : Kont} (s : s39 (callN E n) n x0 h K = true) : callN E (n + 1) (.func 39) [x0] h K = true := down primle rfl (w39_ok rfl) s
theorem d40 {n : Nat} {x0 x1 : AV} {h : AHeap} {K : Kont} (s : s40 (callN E n) n x0 x1 h K = true) : callN E (n + 1) (.func 40) [x0, x1] h K = true := down primle rfl (w40_ok rfl) s
theorem d41 {n : Nat} {x0 : AV} {h : AHeap} {K : Kont} (s : s41 (callN E n) n x0 h K = true) : callN E (n + 1) (.func 41) [x0] h K = true := down primle rfl (w41_ok rfl) s
theorem d42 {n : Nat} {x0 x1 : AV} {h : AHeap} {K : Kont} (s : s42 (callN E n) n x0 x1 h K = true) : callN E (n + 1) (.func 42) [x0, x1] h K = true := down primle rfl (w42_ok rfl) s
theorem d44 {n : Nat} {x0 : AV} {h : AHeap} {K : Kont} (s : s44 (callN E n) n x0 h K = true) : callN E (n + 1) (.func 44) [x0] h K = true := down primle rfl (w44_ok rfl) s
theorem d46 {n : Nat} {x0 x1 : AV} {h : AHeap} {K : Kont} (s : s46 (callN E n) n x0 x1 h K = true) : callN E (n + 1) (.func 46) [x0, x1] h K = true := down primle rfl (w46_ok rfl) s
theorem d48 {n : Nat} {x0 x1 : AV} {h : AHeap} {K : Kont} (s : s48 (callN E n) n x0 x1 h K = true) : callN E (n + 1) (.func 48) [x0, x1] h K = true := down primle rfl (w48_ok rfl) s
theorem d49 {n : Nat} {x0 : AV} {h : AHeap} {K : Kont} (s : s49 (callN E n) n x0 h K = true) : callN E (n + 1) (.func 49) [x0] h K = true := down primle rfl (w49_ok rfl) s
theorem d50 {n : Nat} {x0 x1 : AV} {h : AHeap} {K : Kont} (s : s50 (callN E n) n x0 x1 h K = true) : callN E (n + 1) (.func 50) [x0, x1] h K = true := down primle rfl (w50_ok rfl) s
theorem d51 {n : Nat} {x0 x1 : AV} {h : AHeap} {K : Kont} (s : s51 (callN E n) n x0 x1 h K = true) : callN E (n + 1) (.func 51) [x0, x1] h K = true := down primle rfl (w51_ok rfl) s
theorem d52 {n : Nat} {x0 x1 : AV} {h : AHeap} {K : Kont} (s : s52 (callN E n) n x0 x1 h K = true) : callN E (n + 1) (.func 52) [x0, x1] h K = true := down primle rfl (w52_ok rfl) s
theorem d53 {n : Nat} {x0 x1 : AV} {h : AHeap} {K : Kont} (s : s53 (callN E n) n x0 x1 h K = true) : callN E (n + 1) (.func 53) [x0, x1] h K = true := down primle rfl (w53_ok rfl) s
theorem d54 {n : Nat} {x0 x1 : AV} {h : AHeap} {K : Kont} (s : s54 (callN E n) n x0 x1 h K = true) : callN E (n + 1) (.func 54) [x0, x1] h K = true := down primle rfl (w54_ok rfl) s
theorem d55 {n : Nat} {x0 x1 x2 x3 : AV} {h : AHeap} {K : Kont} (s : s55 (callN E n) n x0 x1 x2 x3 h K = true) : callN E (n + 1) (.func 55) [x0, x1, x2, x3] h K = true := down primle rfl (w55_ok rfl) s
theorem d56 {n : Nat} {x0 x1 : AV} {h : AHeap} {K : Kont} (s : s56 (callN E n) n x0 x1 h K = true) : callN E (n + 1) (.func 56) [x0, x1] h K = true := down primle rfl (w56_ok rfl) s
theorem d57 {n : Nat} {x0 : AV} {h : AHeap} {K : Kont} (s : s57 (callN E n) n x0 h K = true) : callN E (n + 1) (.func 57) [x0] h K = true := down primle rfl (w57_ok rfl) s
theorem d58 {n : Nat} {x0 x1 x2 : AV} {h : AHeap} {K : Kont} (s : s58 (callN E n) n x0 x1 x2 h K = true) : callN E (n + 1) (.func 58) [x0, x1, x2] h K = true := down primle rfl (w58_ok rfl) s
theorem d62 {n : Nat} {x0 : AV} {h : AHeap} {K : Kont} (s : s62 (callN E n) n x0 h K = true) : callN E (n + 1) (.func 62) [x0] h K = true := down primle rfl (w62_ok rfl) s
theorem d64 {n : Nat} {x0 x1 : AV} {h : AHeap} {K : Kont} (s : s64 (callN E n) n x0 x1 h K = true) : callN E (n + 1) (.func 64) [x0, x1] h K = true := down primle rfl (w64_ok rfl) s
theorem d65 {n : Nat} {x0 : AV} {h : AHeap} {K : Kont} (s : s65 (callN E n) n x0 h K = true) : callN E (n + 1) (.func 65) [x0] h K = true := down primle rfl (w65_ok rfl) s
theorem d67 {n : Nat} {x0 x1 : AV} {h : AHeap} {K : Kont} (s : s67 (callN E n) n x0 x1 h K = true) : callN E (n + 1) (.func 67) [x0, x1] h K = true := down primle rfl (w67_ok rfl) s
theorem d70 {n : Nat} {x0 : AV} {h : AHeap} {K : Kont} (s : s70 (callN E n) n x0 h K = true) : callN E (n + 1) (.func 70) [x0] h K = true := down primle rfl (w70_ok rfl) s
theorem d71 {n : Nat} {x0 x1 : AV} {h : AHeap} {K : Kont} (s : s71 (callN E n) n x0 x1 h K = true) : callN E (n + 1) (.func 71) [x0, x1] h K = true := down primle rfl (w71_ok rfl) s
theorem d74 {n : Nat} {x0 x1 : AV} {h : AHeap} {K : Kont} (s : s74 (callN E n) n x0 x1 h K = true) : callN E (n + 1) (.func 74) [x0, x1] h K = true := down primle rfl (w74_ok rfl) s
theorem d87 {n : Nat} {x0 : AV} {h : AHeap} {K : Kont} (s : s87 (callN E n) n x0 h K = true) : callN E (n + 1) (.func 87) [x0] h K = true := down primle rfl (w87_ok rfl) s
theorem d88 {n : Nat} {x0 x1 x2 : AV} {h : AHeap} {K : Kont} (s : s88 (callN E n) n x0 x1 x2 h K = true) : callN E (n + 1) (.func 88) [x0, x1, x2] h K = true := down primle rfl (w88_ok rfl) s
theorem d20 {n : Nat} {x0 x1 : AV} {h : AHeap} {K : Kont} (s : s20 (callN E n) n x0 x1 h K = true) : callN E (n + 1) (.func 20) [x0, x1] h K = true := down primle rfl (w20_ok rfl) s
theorem d23 {n : Nat} {x0 x1 x2 : AV} {h : AHeap} {K : Kont} (s : s23 (callN E n) n x0 x1 x2 h K = true) : callN E (n + 1) (.func 23) [x0, x1, x2] h K = true := down primle rfl (w23_ok rfl) s
theorem d25 {n : Nat} {x0 x1 x2 : AV} {h : AHeap} {K : Kont} (s : s25 (callN E n) n x0 x1 x2 h K = true) : callN E (n + 1) (.func 25) [x0, x1, x2] h K = true := down primle rfl (w25_ok rfl) s
theorem d43 {n : Nat} {x0 x1 : AV} {h : AHeap} {K : Kont} (s : s43 (callN E n) n x0 x1 h K = true) : callN E (n + 1) (.func 43) [x0, x1] h K = true := down primle rfl (w43_ok rfl) s
theorem d66 {n : Nat} {x0 x1 x2 : AV} {h : AHeap} {K : Kont} (s : s66 (callN E n) n x0 x1 x2 h K = true) : callN E (n + 1) (.func 66) [x0, x1, x2] h K = true := down primle rfl (w66_ok rfl) s
end Go.Proofs.Ythifmankpcadjaa
namespace Go.Proofs.Ythifmankpcadjaa
open Go.Ab
theorem l25_24_s (call : CallFn) (n : Nat) (id : Nat) (m : Nat) (x7 x8 x43 x44 x45 : AV) (h : AHeap) (K : Kont) : l25_24 call n id (m + 1) x7 x8 x43 x44 x45 h K = b25_24 call n id (fun x7 x8 x43 x44 x45 h => l25_24 call n id m x7 x8 x43 x44 x45 h K) x7 x8 x43 x44 x45 h K := rfl
theorem l25_43_s (call : CallFn) (n : Nat) (m : Nat) (x2 x7 x8 x58 x59 x60 : AV) (h : AHeap) (K : Kont) : l25_43 call n (m + 1) x2 x7 x8 x58 x59 x60 h K = b25_43 call n (fun x2 x7 x8 x58 x59 x60 h => l25_43 call n m x2 x7 x8 x58 x59 x60 h K) x2 x7 x8 x58 x59 x60 h K := rfl
theorem l44_33_s (call : CallFn) (n : Nat) (m : Nat) (x6 x25 x26 x27 : AV) (h : AHeap) (K : Kont) : l44_33 call n (m + 1) x6 x25 x26 x27 h K = b44_33 call n (fun x6 x25 x26 x27 h => l44_33 call n m x6 x25 x26 x27 h K) x6 x25 x26 x27 h K := rfl
theorem l44_8_s (call : CallFn) (n : Nat) (m : Nat) (x0 x3 x9 x10 x11 : AV) (h : AHeap) (K : Kont) : l44_8 call n (m + 1) x0 x3 x9 x10 x11 h K = b44_8 call n (fun x0 x3 x9 x10 x11 h => l44_8 call n m x0 x3 x9 x10 x11 h K) x0 x3 x9 x10 x11 h K := rfl
theorem l46_16_s (call : CallFn) (n : Nat) (m : Nat) (x0 x1 x6 x16 x17 x18 : AV) (h : AHeap) (K : Kont) : l46_16 call n (m + 1) x0 x1 x6 x16 x17 x18 h K = b46_16 call n (fun x0 x1 x6 x16 x17 x18 h => l46_16 call n m x0 x1 x6 x16 x17 x18 h K) x0 x1 x6 x16 x17 x18 h K := rfl
theorem l48_16_s (call : CallFn) (n : Nat) (m : Nat) (x0 x1 x5 x6 : AV) (h : AHeap) (K : Kont) : l48_16 call n (m + 1) x0 x1 x5 x6 h K = b48_16 call n (fun x0 x1 x5 x6 h => l48_16 call n m x0 x1 x5 x6 h K) x0 x1 x5 x6 h K := rfl
theorem l64_42_s (call : CallFn) (n : Nat) (m : Nat) (x1 x2 x5 x47 x48 x49 : AV) (h : AHeap) (K : Kont) : l64_42 call n (m + 1) x1 x2 x5 x47 x48 x49 h K = b64_42 call n (fun x1 x2 x5 x47 x48 x49 h => l64_42 call n m x1 x2 x5 x47 x48 x49 h K) x1 x2 x5 x47 x48 x49 h K := rfl
theorem l71_6_s (call : CallFn) (n : Nat) (m : Nat) (x0 x1 x7 x8 : AV) (h : AHeap) (K : Kont) : l71_6 call n (m + 1) x0 x1 x7 x8 h K = b71_6 call n (fun x0 x1 x7 x8 h => l71_6 call n m x0 x1 x7 x8 h K) x0 x1 x7 x8 h K := rfl
theorem l8_16_s (call : CallFn) (n : Nat) (m : Nat) (x0 x4 x13 x14 x15 : AV) (h : AHeap) (K : Kont) : l8_16 call n (m + 1) x0 x4 x13 x14 x15 h K = b8_16 call n (fun x0 x4 x13 x14 x15 h => l8_16 call n m x0 x4 x13 x14 x15 h K) x0 x4 x13 x14 x15 h K := rfl
end Go.Proofs.Ythifmankpcadjaa
namespace Go.Proofs.Ythifmankpcadjaa
open Go.Ab
set_option linter.unusedSimpArgs false
set_option linter.unusedVariables false
abbrev Str := List Nat
def isLetter (b : Int) : Bool := (decide (97 ≤ b) && decide (b ≤ 122)) || (decide (65 ≤ b) && decide (b ≤ 90))
def idx (s : Str) : List Str → Option Nat
  | [] => none
  | c :: l => if c = s then some 0 else (idx s l).map (· + 1)
def fint : Option Nat → Int
  | none => -1
  | some k => k
def off (i : Nat) : Option Nat → Option Nat
  | none => none
  | some k => some (i + k)
theorem idx_lt {s : Str} : ∀ {l : List Str} {i : Nat}, idx s l = some i → i < l.length ∧ l[i]? = some s
  | [], i, h => by cases h
  | c :: l, i, h => by
    simp only [idx] at h
    by_cases e : c = s
    · rw [if_pos e] at h; cases h; simp [e]
    · rw [if_neg e] at h
      cases hi : idx s l with
      | none => rw [hi] at h; cases h
      | some j =>
        rw [hi] at h; cases h
        have := idx_lt hi
        refine ⟨?_, ?_⟩
        · simp; omega
        · simpa using this.2
theorem idx_none {s : Str} : ∀ {l : List Str}, idx s l = none ↔ s ∉ l
  | [] => by simp [idx]
  | c :: l => by
    simp only [idx]
    by_cases e : c = s
    · simp [e]
    · rw [if_neg e]
      have := idx_none (s := s) (l := l)
      cases hi : idx s l with
      | none => rw [hi] at this; simp at this; simp [this]; exact fun h => e h.symm
      | some j => rw [hi] at this; simp at this; simp [this]
theorem off0 (o : Option Nat) : off 0 o = o := by cases o <;> simp [off]
def kws : List Str := [[99, 108, 97, 115, 115], [101, 120, 116, 101, 110, 100, 115], [114, 117, 108, 101], [113, 117, 101, 114, 121], [119, 104, 101, 110], [116, 104, 101, 110], [101, 110, 100], [115, 97, 108, 105, 101, 110, 99, 101], [103, 114, 111, 117, 112], [102, 108, 111, 119], [110, 111, 108, 111, 111, 112], [108, 111, 99, 107], [110, 111, 116], [101, 120, 105, 115, 116, 115], [102, 111, 114, 97, 108, 108], [111, 114], [102, 114, 111, 109], [101, 118, 97, 108], [97, 99, 99], [111, 118, 101, 114], [105, 110, 115, 101, 114, 116], [108, 111, 103, 105, 99, 97, 108], [117, 112, 100, 97, 116, 101], [100, 101, 108, 101, 116, 101], [102, 111, 99, 117, 115], [112, 114, 105, 110, 116], [104, 97, 108, 116], [116, 114, 117, 101], [102, 97, 108, 115, 101], [110, 117, 108, 108], [115, 105, 122, 101], [104, 97, 115], [105, 110, 116], [98, 111, 111, 108], [116, 101, 120, 116], [108, 105, 115, 116], [97, 110, 121], [114, 101, 102]]
def isKey (s : Str) : Bool := (idx s kws).isSome
theorem isKey_false {s : Str} (h : s ∉ kws) : isKey s = false := by
  simp only [isKey, idx_none.2 h, Option.isSome_none]
theorem isKey_true {s : Str} (h : s ∈ kws) : isKey s = true := by
  cases e : idx s kws with
  | none => exact absurd h (idx_none.1 e)
  | some i => simp only [isKey, e, Option.isSome_some]
theorem u54 {n : Nat} {s : Str} {h : AHeap} {K : Kont} (k : K (.bool (isKey s)) h = true) : callN E (n + 1) (.func 70) [.str s] h K = true := by
  apply d70
  unfold s70 p70_156
  by_cases hk : s ∈ kws
  · rw [isKey_true hk] at k
    simp only [binA_seql, optB_some, condB_bool, decide_eq_true_eq, k]
    simp only [kws, List.mem_cons, List.not_mem_nil, or_false] at hk
    repeat (first | (rcases hk with hk | hk; · subst hk; simp) | (subst hk; simp))
  · rw [isKey_false hk] at k
    simp only [kws, List.mem_cons, List.not_mem_nil, or_false, not_or] at hk
    simp only [binA_seql, optB_some, condB_bool, decide_eq_true_eq, hk, if_false, k]
end Go.Proofs.Ythifmankpcadjaa
namespace Go.Proofs.Ythifmankpcadjaa
open Go.Ab
set_option linter.unusedSimpArgs false
set_option linter.unusedVariables false
def okc (c : Int) : Bool := isLetter c || (decide (48 ≤ c) && decide (c ≤ 57)) || decide (c = 95)
def scan : Nat → Str → Bool
  | _, [] => true
  | i, c :: l => (isLetter (c : Int) || (decide (i ≠ 0) && okc (c : Int))) && scan (i + 1) l
def isName (s : Str) : Bool := scan 0 s && decide (1 ≤ s.length) && decide (s.length ≤ 64) && !isKey s
theorem letter_chain (c : Int) (k : AV → Bool) :
    (optB (binA (BinOp.geq) (.int .u8 c) (AV.int (IntKind.u8) 97)) fun v4 => optB (grdO (wantV v4 true) (some (.int .u8 c))) fun v5 => optB (grdO (wantV v4 true) (binA (BinOp.leq) v5 (AV.int (IntKind.u8) 122))) fun v6 => optB (pickV v4 v6 (AV.bool false)) fun v7 => optB (grdO (wantV v7 false) (some (.int .u8 c))) fun v8 => optB (grdO (wantV v7 false) (binA (BinOp.geq) v8 (AV.int (IntKind.u8) 65))) fun v9 => optB (grdO (wantV v7 false) (some v9)) fun v10 => optB (grdO (wantV v10 true) (some (.int .u8 c))) fun v11 => optB (grdO (wantV v10 true) (binA (BinOp.leq) v11 (AV.int (IntKind.u8) 90))) fun v12 => optB (grdO (wantV v7 false) (pickV v10 v12 (AV.bool false))) fun v13 => optB (pickV v7 (AV.bool true) v13) fun v14 => k v14) = k (.bool (isLetter c)) := by
  unfold isLetter
  by_cases h1 : 97 ≤ c <;> by_cases h2 : c ≤ 122 <;> by_cases h3 : 65 ≤ c <;> by_cases h4 : c ≤ 90 <;> simp [h1, h2, h3, h4]
theorem rest_chain (c i : Int) (L : Bool) (k : AV → Bool) :
    (optB (notA (.bool L)) fun v15 => optB (grdO (wantV v15 true) (some (.int .i64 i))) fun v16 => optB (grdO (wantV v15 true) (binA (BinOp.eql) v16 (AV.int (IntKind.i64) 0))) fun v17 => optB (grdO (wantV v15 true) (some v17)) fun v18 => optB (grdO (wantV v18 false) (some (.int .u8 c))) fun v19 => optB (grdO (wantV v18 false) (binA (BinOp.neq) v19 (AV.int (IntKind.u8) 95))) fun v20 => optB (grdO (wantV v18 false) (some v20)) fun v21 => optB (grdO (wantV v21 true) (some (.int .u8 c))) fun v22 => optB (grdO (wantV v21 true) (binA (BinOp.lss) v22 (AV.int (IntKind.u8) 48))) fun v23 => optB (grdO (wantV v21 true) (some v23)) fun v24 => optB (grdO (wantV v24 false) (some (.int .u8 c))) fun v25 => optB (grdO (wantV v24 false) (binA (BinOp.gtr) v25 (AV.int (IntKind.u8) 57))) fun v26 => optB (grdO (wantV v21 true) (pickV v24 (AV.bool true) v26)) fun v27 => optB (grdO (wantV v18 false) (pickV v21 v27 (AV.bool false))) fun v28 => optB (grdO (wantV v15 true) (pickV v18 (AV.bool true) v28)) fun v29 => optB (pickV v15 v29 (AV.bool false)) fun v30 => k v30)
    = k (.bool (!L && (decide (i = 0) || (!decide (c = 95) && (decide (c < 48) || decide (57 < c)))))) := by
  cases L
  · by_cases h5 : i = 0
    · simp [h5]
    · by_cases h6 : c = 95
      · simp [h5, h6]
      · by_cases h7 : c < 48 <;> by_cases h8 : 57 < c <;> simp [h5, h6, h7, h8]
  · simp
theorem tail_chain {n : Nat} {h : AHeap} {s : Str} {K : Kont} (k : K (.bool (decide (1 ≤ s.length) && decide (s.length ≤ 64) && !isKey s)) h = true) : p49_29 (callN E (n + 1)) (n + 1) (.str s) h K = true := by
  unfold p49_29
  simp only [lenA_str, optB_some, binA_geq]
  have e1 : (decide ((1 : Int) ≤ (s.length : Int))) = decide (1 ≤ s.length) := by congr 1; apply propext; omega
  have e2 : (decide ((s.length : Int) ≤ 64)) = decide (s.length ≤ 64) := by congr 1; apply propext; omega
  rw [e1]
  cases h1 : decide (1 ≤ s.length) with
  | false => rw [h1] at k; simp at k ⊢; exact k
  | true =>
    rw [h1] at k
    simp [e2] at k ⊢
    by_cases h2 : s.length ≤ 64
    · simp [h2] at k ⊢
      exact u54 (by simpa using k)
    · simp [h2] at k ⊢
      exact k
theorem scan_step (c i : Nat) (l : Str) : (!isLetter (c : Int) && (decide ((i : Int) = 0) || (!decide ((c : Int) = 95) && (decide ((c : Int) < 48) || decide (57 < (c : Int)))))) = !(isLetter (c : Int) || (decide (i ≠ 0) && okc (c : Int))) := by
  unfold okc
  have e0 : decide ((i : Int) = 0) = decide (i = 0) := by congr 1; apply propext; omega
  have e7 : decide (48 ≤ (c : Int)) = !decide ((c : Int) < 48) := by
    by_cases hh : (c : Int) < 48
    · simp [hh]
    · simp [hh]; omega
  have e8 : decide ((c : Int) ≤ 57) = !decide (57 < (c : Int)) := by
    by_cases hh : 57 < (c : Int)
    · simp [hh]
    · simp [hh]; omega
  rw [e0, e7, e8]
  by_cases hi : i = 0 <;> cases isLetter (c : Int) <;> cases decide ((c : Int) = 95) <;> cases decide ((c : Int) < 48) <;> cases decide (57 < (c : Int)) <;> simp [hi]
theorem l43 {n : Nat} {h : AHeap} {s : Str} {K : Kont} (hL : s.length < lim)
    (k : K (.bool (isName s)) h = true) : ∀ (m i : Nat), i ≤ s.length → s.length - i < m → isName s = (scan i (s.drop i) && decide (1 ≤ s.length) && decide (s.length ≤ 64) && !isKey s) →
    l49_6 (callN E (n + 1)) (n + 1) m (.str s) (.int .i64 (s.length : Int)) (.int .i64 (i : Int)) h K = true := by
  intro m
  induction m with
  | zero => intro i _ hm; omega
  | succ m ih =>
    intro i hi hm he
    unfold l49_6 b49_6
    by_cases hlt : i < s.length
    · have hd : s.drop i = s[i] :: s.drop (i + 1) := List.drop_eq_getElem_cons hlt
      have hc := idxsA_some (k := .i64) (List.getElem?_eq_getElem hlt)
      rw [hd] at he
      simp only [scan] at he
      rw [binA_lss, optB_some, condB_t (by simpa using hlt), hc, optB_some, letter_chain, rest_chain, scan_step s[i] i []]
      cases hok : (isLetter (s[i] : Int) || (decide (i ≠ 0) && okc (s[i] : Int))) with
      | true =>
        rw [hok, Bool.true_and] at he
        rw [condB_f (show (!true) = false from rfl), inc64 (show i < lim by omega), optB_some]
        exact ih (i + 1) (by omega) (by omega) he
      | false =>
        rw [hok] at he
        simp only [Bool.false_and] at he
        rw [he] at k
        rw [condB_t (show (!false) = true from rfl)]
        exact k
    · have hd : s.drop i = [] := List.drop_of_length_le (by omega)
      rw [hd] at he
      simp only [scan, Bool.true_and] at he
      rw [he] at k
      rw [binA_lss, optB_some, condB_f (by simpa using hlt)]
      exact tail_chain k
theorem u43 {n : Nat} {h : AHeap} {s : Str} {K : Kont} (hn : s.length ≤ n) (hL : s.length < lim) (k : K (.bool (isName s)) h = true) : callN E (n + 2) (.func 49) [.str s] h K = true := by
  apply d49
  unfold s49
  simp only [lenA_str, optB_some]
  exact l43 hL k (n + 1) 0 (by omega) (by omega) rfl
end Go.Proofs.Ythifmankpcadjaa
namespace Go.Proofs.Ythifmankpcadjaa
open Go.Ab
set_option linter.unusedSimpArgs false
set_option linter.unusedVariables false
structure Fld where
  name : Str
  ty : Int
  cls : Str
structure Cls where
  name : Str
  super : Str
  fields : List Fld
def encF (f : Fld) : List AV := [.str f.name, .int .i64 f.ty, .str f.cls]
def RCls (h : AHeap) (a : List AV) (c : Cls) : Prop := ∃ v, a = [.str c.name, .str c.super, v] ∧ View h 3 v (c.fields.map encF)
def CV (h : AHeap) (v : AV) (l : List Cls) : Prop := ∃ es, View h 3 v es ∧ All2 (RCls h) es l
def names (l : List Cls) : List Str := l.map Cls.name
theorem RCls.ext {h h' : AHeap} {a : List AV} {c : Cls} (R : RCls h a c) (e : Ext h h') : RCls h' a c := let ⟨v, h1, h2⟩ := R; ⟨v, h1, h2.ext e⟩
theorem CV.ext {h h' : AHeap} {v : AV} {l : List Cls} (R : CV h v l) (e : Ext h h') : CV h' v l := let ⟨es, h1, h2⟩ := R; ⟨es, h1.ext e, h2.mono fun _ _ r => r.ext e⟩
theorem CV.len {h : AHeap} {v : AV} {l : List Cls} (R : CV h v l) : lenA h 1 v = some (.int .i64 (l.length : Int)) := by
  obtain ⟨es, h1, h2⟩ := R; rw [h1.len, h2.length]
theorem CV.at {h : AHeap} {v : AV} {l : List Cls} (R : CV h v l) {i : Nat} {c : Cls} (hi : l[i]? = some c) :
    ∃ id g j f, iadrA h 3 v (.int .i64 (i : Int)) = some (.ptr id g j 0) ∧ loadA h true 3 (.ptr id g j 0) = some (.agg [.str c.name, .str c.super, f]) ∧ loadA h false 1 (.ptr id g j 0) = some (.str c.name) ∧ loadA h false 1 (.ptr id g j 1) = some (.str c.super) ∧ loadA h false 1 (.ptr id g j 2) = some f ∧ View h 3 f (c.fields.map encF) := by
  obtain ⟨es, h1, h2⟩ := R
  obtain ⟨e, he, f, rfl, hf⟩ := h2.get hi
  obtain ⟨id, g, j, p1, p2⟩ := h1.at he
  exact ⟨id, g, j, f, p1 _, by rw [p2]; rfl, by rw [p2]; rfl, by rw [p2]; rfl, by rw [p2]; rfl, hf⟩
theorem CV.at2 {h0 h : AHeap} {v : AV} {l : List Cls} (R : CV h0 v l) (x : Ext h0 h) {i : Nat} {c : Cls} (hi : l[i]? = some c) :
    ∃ id g j f, iadrA h 3 v (.int .i64 (i : Int)) = some (.ptr id g j 0) ∧ loadA h true 3 (.ptr id g j 0) = some (.agg [.str c.name, .str c.super, f]) ∧ loadA h false 1 (.ptr id g j 0) = some (.str c.name) ∧ loadA h false 1 (.ptr id g j 1) = some (.str c.super) ∧ loadA h false 1 (.ptr id g j 2) = some f ∧ View h0 3 f (c.fields.map encF) := by
  obtain ⟨es, h1, h2⟩ := R
  obtain ⟨e, he, f, rfl, hf⟩ := h2.get hi
  obtain ⟨id, g, j, p1, p2⟩ := (h1.ext x).at he
  exact ⟨id, g, j, f, p1 _, by rw [p2]; rfl, by rw [p2]; rfl, by rw [p2]; rfl, by rw [p2]; rfl, hf⟩
def TableRep (h : AHeap) (t : AV) (l : List Cls) : Prop :=
  ∃ id lv mid, t = .ptr id 0 0 0 ∧ Var h id [lv, .map mid] ∧ CV h lv l ∧ StrMap h mid (fun s => (idx s (names l)).map fun i => .int .i64 (i : Int))
theorem TableRep.ext {h h' : AHeap} {t : AV} {l : List Cls} (T : TableRep h t l) (e : Ext h h') : TableRep h' t l :=
  let ⟨id, lv, mid, h1, h2, h3, h4⟩ := T; ⟨id, lv, mid, h1, h2.ext e, h3.ext e, h4.ext e⟩
theorem u19 {n : Nat} {h : AHeap} {t : AV} {l : List Cls} {s : Str} {K : Kont} (T : TableRep h t l) (k : K (.bool (idx s (names l)).isSome) h = true) : callN E (n + 1) (.func 42) [t, .str s] h K = true := by
  obtain ⟨id, lv, mid, rfl, V, C, M⟩ := T
  apply d42
  unfold s42
  simp only [nilckA_ptr, optB_some, fadrA_ptr, V.load, partA_false, nth_succ, nth_zero, M.look2, extA_tup]
  cases hi : idx s (names l) <;> (rw [hi] at k; exact k)
theorem u38 {n : Nat} {h : AHeap} {id : Nat} {s : Str} {K : Kont} (k : K (.fn (.func 66) [] [.ptr h.sz 0 0 0, .ptr (h.sz + 1) 0 0 0]) (Ab.newRow (Ab.newRow h [[.ptr id 0 0 0]] 1) [[.str s]] 1) = true) : callN E (n + 1) (.func 43) [.ptr id 0 0 0, .str s] h K = true := by
  apply d43
  unfold s43
  rw [box_eq (n := 1) rfl (by decide) rfl, optP_some, box_eq (n := 1) rfl (by decide) rfl, optP_some, optB_some]
  exact k
def chainN : Nat → List Cls → Str → List Cls
  | 0, _, _ => []
  | k + 1, l, s => match idx s (names l) with
    | none => []
    | some i => match l[i]? with
      | some c => c :: chainN k l c.super
      | none => []
def Asc (l : List Cls) : Prop := ∀ (i : Nat) c, l[i]? = some c → ∀ j, idx c.super (names l) = some j → j < i
def chain (l : List Cls) (s : Str) : List Cls := chainN (l.length + 1) l s
theorem names_get {l : List Cls} {i : Nat} : (names l)[i]? = (l[i]?).map Cls.name := by simp [names]
theorem names_length (l : List Cls) : (names l).length = l.length := by simp [names]
theorem idx_get {l : List Cls} {s : Str} {i : Nat} (h : idx s (names l) = some i) : ∃ c, l[i]? = some c ∧ c.name = s := by
  obtain ⟨h1, h2⟩ := idx_lt h
  rw [names_get] at h2
  cases hc : l[i]? with
  | none => rw [hc] at h2; cases h2
  | some c => rw [hc] at h2; simp at h2; exact ⟨c, rfl, h2⟩
theorem chainN_stable {l : List Cls} (A : Asc l) : ∀ (i : Nat) {s : Str}, idx s (names l) = some i → ∀ k k', i < k → i < k' → chainN k l s = chainN k' l s := by
  intro i
  induction i using Nat.strongRecOn with
  | _ i ih =>
    intro s hs k k' hk hk'
    obtain ⟨k, rfl⟩ : ∃ j, k = j + 1 := ⟨k - 1, by omega⟩
    obtain ⟨k', rfl⟩ : ∃ j, k' = j + 1 := ⟨k' - 1, by omega⟩
    obtain ⟨c, hc, _⟩ := idx_get hs
    simp only [chainN, hs, hc]
    congr 1
    cases hj : idx c.super (names l) with
    | none =>
      cases k <;> cases k' <;> simp [chainN, hj]
    | some j =>
      have := A i c hc j hj
      exact ih j this hj k k' (by omega) (by omega)
theorem chain_none {l : List Cls} {s : Str} (h : idx s (names l) = none) : chain l s = [] := by simp [chain, chainN, h]
theorem chain_some {l : List Cls} (A : Asc l) {s : Str} {i : Nat} {c : Cls} (h : idx s (names l) = some i) (hc : l[i]? = some c) : chain l s = c :: chain l c.super := by
  have hi : i < l.length := (List.getElem?_eq_some_iff.1 hc).1
  show chainN (l.length + 1) l s = _
  simp only [chainN, h, hc]
  congr 1
  cases hj : idx c.super (names l) with
  | none => rw [chain_none hj]; cases hl : l.length <;> simp [chainN, hj]
  | some j => exact chainN_stable A j hj _ _ (by have := A i c hc j hj; omega) (by have := A i c hc j hj; omega)
theorem chain_mem {l : List Cls} (A : Asc l) : ∀ (i : Nat) {s : Str}, idx s (names l) = some i → ∀ c ∈ chain l s, c ∈ l := by
  intro i
  induction i using Nat.strongRecOn with
  | _ i ih =>
    intro s hs c hc
    obtain ⟨d, hd, _⟩ := idx_get hs
    rw [chain_some A hs hd] at hc
    rcases List.mem_cons.1 hc with rfl | hc
    · exact List.mem_of_getElem? hd
    · cases hj : idx d.super (names l) with
      | none => rw [chain_none hj] at hc; cases hc
      | some j => exact ih j (A i d hd j hj) hj c hc
theorem chain_length {l : List Cls} (A : Asc l) : ∀ (i : Nat) {s : Str}, idx s (names l) = some i → (chain l s).length ≤ i + 1 := by
  intro i
  induction i using Nat.strongRecOn with
  | _ i ih =>
    intro s hs
    obtain ⟨d, hd, _⟩ := idx_get hs
    rw [chain_some A hs hd]
    cases hj : idx d.super (names l) with
    | none => rw [chain_none hj]; simp
    | some j => have := ih j (A i d hd j hj) hj; have := A i d hd j hj; simp; omega
theorem l50 {n : Nat} {hb : AHeap} {t : AV} {l : List Cls} {y p1 p2 : Nat} {K : Kont} (A : Asc l) (T : TableRep hb t l) (Inv : List Cls → AHeap → Prop) (Stop : AHeap → Prop)
    (hI : ∀ r h, Inv r h → Ext hb h ∧ Var h p1 [t])
    (step : ∀ c r h f K, Inv (c :: r) h → View hb 3 f (c.fields.map encF) → (∀ h', Inv r h' → K (.bool true) h' = true) → (∀ h', Stop h' → K (.bool false) h' = true) → callN E n (.yield y) [.agg [.str c.name, .str c.super, f]] h K = true)
    (fin : ∀ h, Inv [] h → K (.tup []) h = true) (stop : ∀ h, Stop h → K (.tup []) h = true) : ∀ (m : Nat) (s : Str) (h : AHeap), Inv (chain l s) h → (chain l s).length < m →
      l66_3 (callN E n) n m (.fn (.yield y) [] []) (.ptr p1 0 0 0) (((idx s (names l)).map fun i : Nat => AV.int .i64 (i : Int)).getD (.int .i64 0)) (.bool (idx s (names l)).isSome) h K = true := by
  obtain ⟨id, lv, mid, rfl, V2, C, M⟩ := T
  intro m
  induction m with
  | zero => intro s h _ hm; omega
  | succ m ih =>
    intro s h hinv hm
    obtain ⟨xe, V⟩ := hI _ _ hinv
    unfold l66_3 b66_3
    cases hs : idx s (names l) with
    | none =>
      rw [chain_none hs] at hinv
      rw [Option.isSome_none, condB_false]
      exact fin h hinv
    | some i =>
      obtain ⟨c, hc, _⟩ := idx_get hs
      rw [chain_some A hs hc] at hinv hm
      obtain ⟨a1, a2, a3, f, q1, q2, q3, q4, q5, q6⟩ := C.at2 xe hc
      rw [Option.isSome_some, condB_true]
      simp only [V.load, partA_false, Nat.zero_add, nth_zero, optB_some, nilckA_ptr, fadrA_ptr, (V2.ext xe).load, Option.map_some, Option.getD_some, q1, q2, callV_fn, List.nil_append, List.append_nil]
      refine step c _ h f _ hinv q6 ?_ ?_
      · intro h' hinv'
        obtain ⟨xe', V'⟩ := hI _ _ hinv'
        obtain ⟨b1, b2, b3, f', r1, r2, r3, r4, r5, r6⟩ := C.at2 xe' hc
        simp only [notA_bool, Bool.not_true, optB_some, condB_false, V'.load, partA_false, nth_zero, nth_succ, nilckA_ptr, fadrA_ptr, (V2.ext xe').load, r1, r4, (M.ext xe').look2, extA_tup, Nat.zero_add]
        have := ih c.super h' hinv' (by simp at hm; omega)
        cases hj : idx c.super (names l) with
        | none => rw [hj] at this; simpa using this
        | some j => rw [hj] at this; simpa using this
      · intro h' hst
        simp only [notA_bool, Bool.not_false, optB_some, condB_true]
        exact stop h' hst
end Go.Proofs.Ythifmankpcadjaa
namespace Go.Proofs.Ythifmankpcadjaa
open Go.Ab
set_option linter.unusedSimpArgs false
set_option linter.unusedVariables false
theorem leaf3 {a b : Str} {f : AV} (h : f.leaf = true) : allLeaf (AV.agg [AV.str a, AV.str b, f]).cells = true := by
  show (bif f.leaf then allLeaf [] else false) = true
  rw [h]; rfl
def Lp (regs : Regs) (ps : List Nat) (asg body : ACode) (st : LState) : AObj := .loop { regs, ps, asg, body, st }
theorem busy_eq {h : AHeap} {id : Nat} {regs : Regs} {ps : List Nat} {asg body : ACode} {k : AHeap → Bool} (hg : h.get id = some (Lp regs ps asg body .ready)) : busyB id h k = k (h.put id (Lp regs ps asg body .busy)) := by
  unfold busyB Lp at *; simp only [hg]
theorem end_normal {h : AHeap} {id : Nat} {regs : Regs} {ps : List Nat} {asg body : ACode} {K : Kont} (hg : h.get id = some (Lp regs ps asg body .busy)) : endY id K .normal h = K (.bool true) (h.put id (Lp regs ps asg body .ready)) := by
  unfold endY Lp at *; simp only [hg]
theorem end_ret {h : AHeap} {id : Nat} {regs : Regs} {ps : List Nat} {asg body : ACode} {K : Kont} (hg : h.get id = some (Lp regs ps asg body .busy)) : endY id K .ret h = K (.bool false) (h.put id (Lp regs ps asg body (.done .ret))) := by
  unfold endY Lp at *; simp only [hg]
theorem rf_up {n : Nat} {h hb : AHeap} {t : AV} {l : List Cls} {s : Str} {p1 p2 : Nat} {regs : Regs} {ps : List Nat} {asg body : ACode} {Kx : AExit → AHeap → Bool} (A : Asc l) (T : TableRep hb t l) (hm : l.length + 1 < n) (Inv : List Cls → AHeap → Prop) (Stop : AExit → AHeap → Prop)
    (V2 : Var (h.push (Lp regs ps asg body .ready)) p2 [.str s])
    (hI : ∀ r h', Inv r h' → Ext hb h' ∧ Var h' p1 [t] ∧ h'.get h.sz = some (Lp regs ps asg body .ready))
    (start : Inv (chain l s) (h.push (Lp regs ps asg body .ready)))
    (step : ∀ c r h' f K, Inv (c :: r) h' → View hb 3 f (c.fields.map encF) → (∀ h'', Inv r h'' → K (.bool true) h'' = true) → (∀ x h'', Stop x h'' → K (.bool false) h'' = true) → callN E n (.yield h.sz) [.agg [.str c.name, .str c.super, f]] h' K = true)
    (fin : ∀ h', Inv [] h' → Kx .normal (h'.put h.sz (Lp regs ps asg body .exh)) = true)
    (stop : ∀ x h', Stop x h' → h'.get h.sz = some (Lp regs ps asg body (.done x)) ∧ Kx x (h'.put h.sz (Lp regs ps asg body .exh)) = true) :
    rfS (callN E (n + 1)) (.fn (.func 66) [] [.ptr p1 0 0 0, .ptr p2 0 0 0]) regs ps asg body h Kx = true := by
  unfold rfS
  simp only [List.nil_append, List.cons_append]
  apply d66
  unfold s66
  obtain ⟨xe, V1, hg⟩ := hI _ _ start
  have T0 := T
  obtain ⟨id, lv, mid, rfl, V, C, M⟩ := T
  have hs : h.push (.loop { regs, ps, asg, body, st := .ready }) = h.push (Lp regs ps asg body .ready) := rfl
  rw [hs]
  simp only [V1.load, partA_false, nth_zero, nth_succ, optB_some, nilckA_ptr, fadrA_ptr, Nat.zero_add, (V.ext xe).load, V2.load, (M.ext xe).look2, extA_tup]
  have key : (chain l s).length < n := by
    cases hi : idx s (names l) with
    | none => rw [chain_none hi]; simp; omega
    | some i =>
      have h1 := chain_length A i hi
      have h2 := (idx_lt hi).1
      rw [names_length] at h2
      omega
  have := l50 (n := n) (t := .ptr id 0 0 0) (l := l) (y := h.sz) (p1 := p1) (p2 := p2) (K := fun _ h' => match h'.get h.sz with
      | some (.loop l) => match l.st with
        | .ready => Kx .normal (h'.put h.sz (.loop { l with st := .exh }))
        | .done x => Kx x (h'.put h.sz (.loop { l with st := .exh }))
        | _ => false
      | _ => false) A T0 Inv (fun h' => ∃ x, Stop x h') (fun r h' hi => ⟨(hI r h' hi).1, (hI r h' hi).2.1⟩)
    (fun c r h' f K hi hf k1 k2 => step c r h' f K hi hf k1 (fun x h'' hst => k2 h'' ⟨x, hst⟩))
    (fun h' hi => by
      have hg' := (hI _ _ hi).2.2
      simp only [hg', Lp]
      exact fin h' hi)
    (fun h' ⟨x, hst⟩ => by
      obtain ⟨g1, g2⟩ := stop x h' hst
      simp only [g1, Lp]
      exact g2) n s _ start key
  cases hi : idx s (names l) with
  | none => rw [hi] at this; exact this
  | some i => rw [hi] at this; exact this
theorem get_push_same (h : AHeap) (o : AObj) : (h.push o).get h.sz = some o := by rw [AHeap.get_push, if_pos rfl]
theorem get_put_same (h : AHeap) (id : Nat) (o : AObj) : (h.put id o).get id = some o := by rw [AHeap.get_put, if_pos rfl]
theorem get_put_ne {h : AHeap} {id j : Nat} {o : AObj} (e : j ≠ id) : (h.put id o).get j = h.get j := by rw [AHeap.get_put, if_neg e]
structure IsInv (h0 : AHeap) (t : AV) (l : List Cls) (of : Str) (b : Bool) (regs : Regs) (r : List Cls) (h : AHeap) : Prop where
  ext : Ext h0 h
  ok : h.Ok
  sz : h0.sz + 5 ≤ h.sz
  a : Var h h0.sz [.str of]
  res : Var h (h0.sz + 1) [.bool false]
  p : Var h (h0.sz + 2) [t]
  y : h.get (h0.sz + 4) = some (Lp regs [11] c23_7 c23_8 .ready)
  any : b = r.any fun c => decide (c.name = of)
theorem u14 {n : Nat} {h : AHeap} {t : AV} {l : List Cls} {s of : Str} {K : Kont} (T : TableRep h t l) (A : Asc l) (ho : h.Ok) (hn : l.length + 4 < n)
    (k : ∀ h', Ext h h' → h'.Ok → K (.bool ((chain l s).any fun c => decide (c.name = of))) h' = true) : callN E (n + 2) (.func 23) [t, .str s, .str of] h K = true := by
  obtain ⟨id, lv, mid, rfl, V0, C0, M0⟩ := T
  have T : TableRep h (.ptr id 0 0 0) l := ⟨id, lv, mid, rfl, V0, C0, M0⟩
  apply d23
  unfold s23
  rw [box_eq (n := 1) rfl (by decide) rfl, optP_some, alloc_eq (by decide) rfl, optP_some]
  have o1 := ok_newRow ho [[AV.str of]] 1
  have e1 := ext_newRow ho [[AV.str of]] 1
  have V1 := var_new h [AV.str of]
  have o2 := ok_newRow o1 [[AV.bool false]] 1
  have e2 := ext_newRow o1 [[AV.bool false]] 1
  have V2 := var_new (Ab.newRow h [[AV.str of]] 1) [AV.bool false]
  show callN E (n + 1) (.func 43) _ (Ab.newRow (Ab.newRow h [[AV.str of]] 1) [[AV.bool false]] 1) _ = true
  generalize hh2 : Ab.newRow (Ab.newRow h [[AV.str of]] 1) [[AV.bool false]] 1 = h2 at *
  have s2 : h2.sz = h.sz + 2 := by rw [← hh2]; rfl
  refine u38 ?_
  have o3 := ok_newRow o2 [[AV.ptr id 0 0 0]] 1
  have e3 := ext_newRow o2 [[AV.ptr id 0 0 0]] 1
  have V3 := var_new h2 [AV.ptr id 0 0 0]
  have o4 := ok_newRow o3 [[AV.str s]] 1
  have e4 := ext_newRow o3 [[AV.str s]] 1
  have V4 := var_new (Ab.newRow h2 [[AV.ptr id 0 0 0]] 1) [AV.str s]
  have s4 : (Ab.newRow (Ab.newRow h2 [[AV.ptr id 0 0 0]] 1) [[AV.str s]] 1).sz = h.sz + 4 := by simp [s2]
  simp only [List.length_cons, List.length_nil, Nat.zero_add] at V3 V4
  generalize hh4 : Ab.newRow (Ab.newRow h2 [[AV.ptr id 0 0 0]] 1) [[AV.str s]] 1 = h4 at *
  simp only [newRow_sz, s2] at V1 V2 V3 V4 ⊢
  have E4 : Ext h h4 := e1.trans (e2.trans (e3.trans e4))
  generalize hreg : mkR [(5, AV.ptr h.sz 0 0 0), (6, AV.ptr (h.sz + 1) 0 0 0), (10, AV.fn (AFn.func 66) [] [AV.ptr (h.sz + 2) 0 0 0, AV.ptr (h.sz + 2 + 1) 0 0 0])] = regs
  obtain ⟨n, rfl⟩ : ∃ k, n = k + 1 := ⟨n - 1, by omega⟩
  have e5 := ext_push o4 (Lp regs [11] c23_7 c23_8 .ready)
  refine rf_up (t := .ptr id 0 0 0) (l := l) (s := s) (hb := h) A T (by omega) (IsInv h (.ptr id 0 0 0) l of ((chain l s).any fun c => decide (c.name = of)) regs)
    (fun x h' => x = .ret ∧ Ext h h' ∧ h'.Ok ∧ h.sz + 5 ≤ h'.sz ∧ Var h' (h.sz + 1) [.bool true] ∧ h'.get (h.sz + 4) = some (Lp regs [11] c23_7 c23_8 (.done .ret)) ∧ ((chain l s).any fun c => decide (c.name = of)) = true)
    (V4.ext e5) ?_ ?_ ?_ ?_ ?_
  · intro r h' I
    exact ⟨I.ext, I.p, by rw [s4]; exact I.y⟩
  · refine ⟨E4.trans e5, o4.push _, by simp [s4], V1.ext (e2.trans (e3.trans (e4.trans e5))), V2.ext (e3.trans (e4.trans e5)), V3.ext (e4.trans e5), ?_, rfl⟩
    rw [← s4]; exact get_push_same _ _
  · intro c r h' f K' I hf k1 k2
    rw [s4]
    have hy := I.y
    rw [← hreg] at hy
    refine y23_6_run primle hy ?_
    rw [hreg] at hy
    unfold y23_6
    have lf : allLeaf (AV.agg [AV.str c.name, AV.str c.super, f]).cells = true := leaf3 hf.leaf
    rw [alloc_set (n := 3) rfl (by decide) rfl rfl lf]
    have o6 := ok_newRow I.ok [[AV.str c.name, AV.str c.super, f]] 3
    have e6 := ext_newRow I.ok [[AV.str c.name, AV.str c.super, f]] 3
    have V6 := var_new h' [AV.str c.name, AV.str c.super, f]
    have hc : (AV.agg [AV.str c.name, AV.str c.super, f]).cells = [AV.str c.name, AV.str c.super, f] := rfl
    rw [hc]
    simp only [List.length_cons, List.length_nil, Nat.zero_add] at V6
    have s6 : (Ab.newRow h' [[AV.str c.name, AV.str c.super, f]] 3).sz = h'.sz + 1 := rfl
    generalize Ab.newRow h' [[AV.str c.name, AV.str c.super, f]] 3 = h6 at *
    have hsz := I.sz
    rw [busy_eq (e6.2 _ _ hy)]
    have V7 := V6.other (j := h.sz + 4) (by omega) (Lp regs [11] c23_7 c23_8 .busy)
    have A7 := (I.a.ext e6).other (j := h.sz + 4) (by omega) (Lp regs [11] c23_7 c23_8 .busy)
    have B7 := (I.res.ext e6).other (j := h.sz + 4) (by omega) (Lp regs [11] c23_7 c23_8 .busy)
    have P7 := (I.p.ext e6).other (j := h.sz + 4) (by omega) (Lp regs [11] c23_7 c23_8 .busy)
    have g7 := get_put_same h6 (h.sz + 4) (Lp regs [11] c23_7 c23_8 .busy)
    have x7 := ext_put (I.ext.trans e6) ho (show h.sz ≤ h.sz + 4 by omega) (Lp regs [11] c23_7 c23_8 .busy)
    have o7 := o6.put (show h.sz + 4 < h6.sz by omega) (Lp regs [11] c23_7 c23_8 .busy)
    have s7 : (h6.put (h.sz + 4) (Lp regs [11] c23_7 c23_8 .busy)).sz = h'.sz + 1 := by simp [s6]
    generalize h6.put (h.sz + 4) (Lp regs [11] c23_7 c23_8 .busy) = h7 at *
    simp only [fadrA_ptr, optB_some, V7.load, A7.load, partA_false, Nat.zero_add, nth_zero, binA_seql]
    have hany := I.any
    rw [List.any_cons] at hany
    by_cases hof : c.name = of
    · rw [condB_t (by simpa using hof), B7.set1 (by decide) rfl, unit, optP_some]
      have hg8 : (h7.put (h.sz + 1) (AObj.row (VRow ([AV.bool false].set 0 (AV.bool true))))).get (h.sz + 4) = some (Lp regs [11] c23_7 c23_8 .busy) := by rw [get_put_ne (by omega)]; exact g7
      rw [end_ret hg8]
      refine k2 .ret _ ⟨rfl, ext_put (ext_put x7 ho (by omega) _) ho (by omega) _, (o7.put (by omega) _).put (by simp; omega) _, by simp; omega, ?_, get_put_same _ _ _, ?_⟩
      · exact (var_put (h := h7) (h.sz + 1) [AV.bool true]).other (by omega) _
      · rw [hany]; simp [hof]
    · rw [condB_f (by simpa using hof), end_normal g7]
      refine k1 _ ⟨ext_put x7 ho (by omega) _, o7.put (by omega) _, by simp; omega, A7.other (by omega) _, B7.other (by omega) _, P7.other (by omega) _, get_put_same _ _ _, ?_⟩
      rw [hany]; simp [hof]
  · intro h' I
    rw [s4]
    unfold p23_16
    have hsz := I.sz
    rw [(I.res.other (j := h.sz + 4) (by omega) _).set1 (by decide) rfl, unit, optP_some]
    have Vb := var_put (h := h'.put (h.sz + 4) (Lp regs [11] c23_7 c23_8 .exh)) (h.sz + 1) ([AV.bool false].set 0 (AV.bool false))
    simp only [resV, Vb.load]
    have hb := I.any
    rw [List.any_nil] at hb
    have := k _ (ext_put (ext_put I.ext ho (show h.sz ≤ h.sz + 4 by omega) (Lp regs [11] c23_7 c23_8 .exh)) ho (show h.sz ≤ h.sz + 1 by omega) (AObj.row (VRow ([AV.bool false].set 0 (AV.bool false))))) ((I.ok.put (by omega) _).put (by simp; omega) _)
    rw [hb] at this
    exact this
  · rintro x h' ⟨rfl, x1, x2, x3, x4, x5, x6⟩
    rw [s4]
    refine ⟨x5, ?_⟩
    have Vb := x4.other (j := h.sz + 4) (by omega) (Lp regs [11] c23_7 c23_8 .exh)
    simp only [resV, Vb.load]
    have := k _ (ext_put x1 ho (show h.sz ≤ h.sz + 4 by omega) (Lp regs [11] c23_7 c23_8 .exh)) (x2.put (by omega) _)
    rw [x6] at this
    exact this
end Go.Proofs.Ythifmankpcadjaa
namespace Go.Proofs.Ythifmankpcadjaa
open Go.Ab
set_option linter.unusedSimpArgs false
set_option linter.unusedVariables false
theorem repl_len {α : Type} (n : Nat) (x : α) : (repl n x).length = n := by rw [repl_eq]; simp
theorem u51 {n m : Nat} {h : AHeap} {K : Kont} (hm : m < 1000000) (k0 : m = 0 → K .nilSlc h = true) (k : 0 < m → K (.slc h.sz 0 0 0 m false) (Ab.newRow h (repl m [AV.str [], AV.int .i64 0, AV.str []]) 3) = true) :
    callN E (n + 1) (.func 67) [.nilSlc, .int .i64 (m : Int)] h K = true := by
  apply d67
  unfold s67
  have e0 : capA .nilSlc = some (.int .i64 0) := rfl
  have e1 : ∀ h, lenA h 1 .nilSlc = some (.int .i64 0) := fun _ => rfl
  rw [binA_lss, optB_some, condB_f (by simp), e0, optB_some, e1, optB_some, sub64 (by decide) (by decide), optB_some, sub64 (by omega) (by omega), optB_some, binA_gtr, optB_some]
  by_cases h0 : m = 0
  · rw [condB_f (by subst h0; rfl)]
    exact k0 h0
  · rw [condB_t (by simp; omega), optB_some]
    have e2 : sliceV h 3 .nilSlc none (some (.int .i64 0)) none = some .nilSlc := rfl
    rw [e2, optB_some]
    have e3 : ((m : Int) - (0 - 0)) = (m : Int) := by omega
    rw [e3]
    have e4 : appzA h 3 40 [AV.str [], AV.int .i64 0, AV.str []] .nilSlc (.int .i64 (m : Int)) = some (.slc h.sz 0 0 m m false, Ab.newRow h (repl m [AV.str [], AV.int .i64 0, AV.str []]) 3) := by
      simp only [appzA, asNat_nat]
      have b1 : Nat.ble m most = true := nble_true.2 (by unfold most; omega)
      have b2 : Nat.ble (m * 40) most = true := nble_true.2 (by unfold most; omega)
      have b3 : (bif Nat.blt 0 3 && Nat.beq [AV.str [], AV.int .i64 0, AV.str []].length 3 && allLeaf [AV.str [], AV.int .i64 0, AV.str []] then (bif Nat.ble m most && Nat.ble (m * 40) most then appendNew h 3 40 .nilSlc (repl m [AV.str [], AV.int .i64 0, AV.str []]) else none) else none) = appendNew h 3 40 .nilSlc (repl m [AV.str [], AV.int .i64 0, AV.str []]) := by
        rw [b1, b2]; rfl
      rw [b3]
      obtain ⟨j, rfl⟩ : ∃ j, m = j + 1 := ⟨m - 1, by omega⟩
      have hr : repl (j + 1) [AV.str [], AV.int .i64 0, AV.str []] = [AV.str [], AV.int .i64 0, AV.str []] :: repl j [AV.str [], AV.int .i64 0, AV.str []] := rfl
      have hl := repl_len (j + 1) [AV.str [], AV.int .i64 0, AV.str []]
      simp only [appendNew]
      rw [hr] at hl ⊢
      rw [hl]
      have c1 : Nat.ble ((j + 1) * 40) most = true := b2
      have c2 : Nat.ble (j + 1) most = true := b1
      rw [c1, c2]
      rfl
    rw [e4, optP_some, e1, optB_some]
    have e5 : sliceV (Ab.newRow h (repl m [AV.str [], AV.int .i64 0, AV.str []]) 3) 3 (.slc h.sz 0 0 m m false) none (some (.int .i64 0)) none = some (.slc h.sz 0 0 0 m false) := by
      have : rowSz (Ab.newRow h (repl m [AV.str [], AV.int .i64 0, AV.str []]) 3) h.sz 3 = true := by
        simp only [rowSz, AHeap.row, Ab.newRow, get_push_same]; rfl
      have z0 : asNat (.int .i64 0) = some 0 := rfl
      simp only [sliceV, this, cond_true, natV, z0, Nat.zero_add, Nat.sub_zero, nble_true.2 (Nat.zero_le m), nble_true.2 (Nat.le_refl 0), Bool.and_self]
    rw [e5, optB_some]
    exact k (by omega)
theorem app_fit {h : AHeap} {id len cap bytes : Nat} {r : Row} {x : AV} {new : List (List AV)} (hr : h.row id = some r) (hw : r.rw = true) (hg : r.g = 0) (hs : r.sz = 3) (hsrc : source h 3 x = some new) (hfit : len + new.length ≤ cap) (hcap : cap < 1000000) (hb : bytes ≤ 64) :
    appendA h 3 bytes (.slc id 0 0 len cap false) x = some (.slc id 0 0 (len + new.length) cap false, if new = [] then h else h.put id (.row { r with es := lay r.es len new, m := r.g })) := by
  have hn0 : Nat.beq 3 0 = false := rfl
  simp only [appendA, hn0, cond_false, hsrc]
  cases new with
  | nil => simp [appendNew]
  | cons y l =>
    have b1 : Nat.ble ((len + (y :: l).length) * bytes) most = true := nble_true.2 (by
      have : (len + (y :: l).length) * bytes ≤ cap * 64 := Nat.mul_le_mul hfit hb
      unfold most; omega)
    have b2 : Nat.ble (len + (y :: l).length) most = true := nble_true.2 (by unfold most; omega)
    simp only [appendNew, hr, b1, b2, nbeq_true.2 hs, Bool.and_self, cond_true, nble_true.2 hfit, hw, hg, Nat.beq_refl, Nat.zero_add]
    simp
theorem u39o {n : Nat} {h : AHeap} {x a b : AV} {A B : List (List AV)} {K : Kont} (ho : h.Ok) (V : View h 1 x [[a], [b]]) (VA : View h 3 a A) (VB : View h 3 b B) (hsz : A.length + B.length < 1000000) (hn : 3 < n)
    (k : ∀ h' v, Ext h h' → h'.Ok → Own h.sz h' 3 v (A ++ B) → K v h' = true) : callN E (n + 2) (.func 44) [x] h K = true := by
  apply d44
  unfold s44
  obtain ⟨n, rfl⟩ : ∃ j, n = j + 3 := ⟨n - 3, by omega⟩
  rw [V.len, optB_some]
  have l2 : (([[a], [b]] : List (List AV)).length : Int) = 2 := rfl
  rw [l2]
  obtain ⟨i0, g0, j0, p1, p2⟩ := V.at (i := 0) (e := [a]) rfl
  obtain ⟨i1, g1, j1, q1, q2⟩ := V.at (i := 1) (e := [b]) rfl
  have P1 : iadrA h 1 x (.int .i64 0) = some (.ptr i0 g0 j0 0) := p1 .i64
  have Q1 : iadrA h 1 x (.int .i64 1) = some (.ptr i1 g1 j1 0) := q1 .i64
  have P2 : loadA h false 1 (.ptr i0 g0 j0 0) = some a := p2 false 0 1
  have Q2 : loadA h false 1 (.ptr i1 g1 j1 0) = some b := q2 false 0 1
  rw [l44_8_s]; unfold b44_8
  simp only [binA_lss, optB_some]
  rw [condB_t (by decide), P1, optB_some, P2, optB_some, VA.len, optB_some, add64 (by omega) (by omega), optB_some, binA_lss, optB_some, condB_f (by simp), add64 (by decide) (by decide), optB_some]
  rw [l44_8_s]; unfold b44_8
  simp only [binA_lss, optB_some]
  have i1e : ((0 : Int) + 1) = 1 := rfl
  rw [i1e, condB_t (by decide), Q1, optB_some, Q2, optB_some, VB.len, optB_some, add64 (by omega) (by omega), optB_some, binA_lss, optB_some, condB_f (by simp; omega), add64 (by decide) (by decide), optB_some]
  rw [l44_8_s]; unfold b44_8
  simp only [binA_lss, optB_some]
  rw [condB_f (by decide)]
  unfold p44_27
  have hsum : ((0 : Int) + (A.length : Int) + (B.length : Int)) = ((A.length + B.length : Nat) : Int) := by omega
  rw [hsum]
  have hlen1 : lenA h 1 x = some (.int .i64 2) := V.len
  refine u51 (by omega) ?_ ?_
  · intro h0
    have hA : A = [] := List.length_eq_zero_iff.1 (by omega)
    have hB : B = [] := List.length_eq_zero_iff.1 (by omega)
    subst hA; subst hB
    rw [hlen1, optB_some, l44_33_s]; unfold b44_33
    simp only [binA_lss, optB_some]
    have ap : ∀ y, View h 3 y [] → appendA h 3 40 .nilSlc y = some (.nilSlc, h) := by
      intro y Vy
      simp only [appendA, show Nat.beq 3 0 = false from rfl, cond_false, Vy.src, appendNew]
    rw [condB_t (by decide), P1, optB_some, P2, optB_some, ap a VA, optP_some, add64 (by decide) (by decide), optB_some]
    rw [l44_33_s]; unfold b44_33
    simp only [binA_lss, optB_some]
    rw [i1e, condB_t (by decide), Q1, optB_some, Q2, optB_some, ap b VB, optP_some, add64 (by decide) (by decide), optB_some]
    rw [l44_33_s]; unfold b44_33
    simp only [binA_lss, optB_some]
    rw [condB_f (by decide)]
    exact k h _ (Ext.refl h) ho (Own.nil _ _ _)
  · intro hpos
    have e1 := ext_newRow ho (repl (A.length + B.length) [AV.str [], AV.int .i64 0, AV.str []]) 3
    have o1 := ok_newRow ho (repl (A.length + B.length) [AV.str [], AV.int .i64 0, AV.str []]) 3
    have r1 : (Ab.newRow h (repl (A.length + B.length) [AV.str [], AV.int .i64 0, AV.str []]) 3).row h.sz = some { es := repl (A.length + B.length) [AV.str [], AV.int .i64 0, AV.str []], sz := 3, g := 0, m := 0, rw := true } := by
      rw [AHeap.row_some]; exact get_push_same _ _
    have s1 : (Ab.newRow h (repl (A.length + B.length) [AV.str [], AV.int .i64 0, AV.str []]) 3).sz = h.sz + 1 := rfl
    generalize Ab.newRow h (repl (A.length + B.length) [AV.str [], AV.int .i64 0, AV.str []]) 3 = h1 at *
    rw [(V.ext e1).len, optB_some, l2, l44_33_s]; unfold b44_33
    simp only [binA_lss, optB_some]
    have rd : ∀ h', Ext h h' → iadrA h' 1 x (.int .i64 0) = some (.ptr i0 g0 j0 0) ∧ iadrA h' 1 x (.int .i64 1) = some (.ptr i1 g1 j1 0) ∧ loadA h' false 1 (.ptr i0 g0 j0 0) = some a ∧ loadA h' false 1 (.ptr i1 g1 j1 0) = some b := by
      intro h' e
      rcases V with ⟨hh, _⟩ | ⟨id, g, s, cap, ex, r, rfl, v2, v3, v4, v5, v6⟩
      · cases hh
      · have w2 := e.row v2
        have hrs : rowSz h id 1 = rowSz h' id 1 := by simp only [rowSz, v2, w2]
        have c1 : iadrA h' 1 (.slc id g s [[a], [b]].length cap ex) (.int .i64 0) = iadrA h 1 (.slc id g s [[a], [b]].length cap ex) (.int .i64 0) := by simp only [iadrA, hrs]
        have c2 : iadrA h' 1 (.slc id g s [[a], [b]].length cap ex) (.int .i64 1) = iadrA h 1 (.slc id g s [[a], [b]].length cap ex) (.int .i64 1) := by simp only [iadrA, hrs]
        refine ⟨c1.trans P1, c2.trans Q1, ?_, ?_⟩
        · have : i0 = id := by
            have h1 := P1
            simp only [iadrA] at h1
            split at h1
            · revert h1; cases (Nat.blt _ _ && rowSz h id 1) <;> intro h1 <;> cases h1; rfl
            · cases h1
          subst this
          have := P2
          simp only [loadA, v2] at this
          simp only [loadA, w2]; exact this
        · have : i1 = id := by
            have h1 := Q1
            simp only [iadrA] at h1
            split at h1
            · revert h1; cases (Nat.blt _ _ && rowSz h id 1) <;> intro h1 <;> cases h1; rfl
            · cases h1
          subst this
          have := Q2
          simp only [loadA, v2] at this
          simp only [loadA, w2]; exact this
    obtain ⟨a1, a2, a3, a4⟩ := rd h1 e1
    have f1 := app_fit (bytes := 40) (x := a) (new := A) (len := 0) (cap := A.length + B.length) r1 rfl rfl rfl (VA.ext e1).src (by omega) (by omega) (by omega)
    rw [condB_t (by decide), a1, optB_some, a3, optB_some, f1, optP_some, add64 (by decide) (by decide), optB_some]
    have hh2 : ∃ h2 r2, (if A = [] then h1 else h1.put h.sz (.row { es := lay (repl (A.length + B.length) [AV.str [], AV.int .i64 0, AV.str []]) 0 A, sz := 3, g := 0, m := 0, rw := true })) = h2 ∧ Ext h h2 ∧ h2.Ok ∧ h2.row h.sz = some r2 ∧ r2.rw = true ∧ r2.g = 0 ∧ r2.m = 0 ∧ r2.sz = 3 ∧ r2.es.take A.length = A ∧ r2.es.length = A.length + B.length := by
      by_cases hA : A = []
      · rw [if_pos hA]
        exact ⟨h1, _, rfl, e1, o1, r1, rfl, rfl, rfl, rfl, by rw [hA]; rfl, repl_len _ _⟩
      · rw [if_neg hA]
        refine ⟨_, _, rfl, ext_put e1 ho (Nat.le_refl _) _, o1.put (by omega) _, by rw [AHeap.row_some]; exact get_put_same _ _ _, rfl, rfl, rfl, rfl, ?_, ?_⟩
        · simp only [lay, List.take_zero, List.nil_append, Nat.zero_add]
          exact List.take_left
        · simp only
          rw [lay_len (by rw [repl_len]; omega), repl_len]
    obtain ⟨h2, r2, he2, e2, o2, t1, t2, t3, t4, t5, t6, t7⟩ := hh2
    have he2' : (if A = [] then h1 else h1.put h.sz (.row { ({ es := repl (A.length + B.length) [AV.str [], AV.int .i64 0, AV.str []], sz := 3, g := 0, m := 0, rw := true } : Row) with es := lay (repl (A.length + B.length) [AV.str [], AV.int .i64 0, AV.str []]) 0 A, m := 0 })) = h2 := he2
    rw [he2']
    rw [l44_33_s]; unfold b44_33
    simp only [binA_lss, optB_some]
    obtain ⟨c1, c2, u3, u4⟩ := rd h2 e2
    have f2 := app_fit (bytes := 40) (x := b) (new := B) (len := 0 + A.length) (cap := A.length + B.length) t1 t2 t3 t5 (VB.ext e2).src (by omega) (by omega) (by omega)
    rw [i1e, condB_t (by decide), c2, optB_some, u4, optB_some, f2, optP_some, add64 (by decide) (by decide), optB_some]
    rw [l44_33_s]; unfold b44_33
    simp only [binA_lss, optB_some]
    rw [condB_f (by decide)]
    by_cases hB : B = []
    · rw [if_pos hB]
      refine k h2 _ e2 o2 (.inr ⟨h.sz, r2, Nat.le_refl _, by simp [t3], t1, t2, by omega, t5, ?_⟩)
      subst hB
      rw [List.append_nil]
      have hle : r2.es.length ≤ A.length := by simp at t7; omega
      rw [List.take_of_length_le hle] at t6
      exact t6
    · rw [if_neg hB]
      refine k _ _ (ext_put e2 ho (Nat.le_refl _) _) (o2.put (by have := e2.1; have := o2.lt (AHeap.row_some.1 t1); omega) _) (.inr ⟨h.sz, { r2 with es := lay r2.es (0 + A.length) B, m := r2.g }, Nat.le_refl _, by simp [t3], ?_, t2, Nat.le_refl _, t5, ?_⟩)
      · rw [AHeap.row_some]; exact get_put_same _ _ _
      · simp only [lay, Nat.zero_add, t6]
        rw [List.drop_of_length_le (by omega), List.append_nil]
end Go.Proofs.Ythifmankpcadjaa
namespace Go.Proofs.Ythifmankpcadjaa
open Go.Ab
set_option linter.unusedSimpArgs false
set_option linter.unusedVariables false
def fieldsOf (l : List Cls) (s : Str) : List Fld := (chain l s).reverse.flatMap Cls.fields
theorem two_fill {f g : AV} (hf : f.leaf = true) (hg : g.leaf = true) : fillRowV 1 (repl 2 [AV.nilSlc]) [(0, f), (1, g)] = some [[f], [g]] := by
  have e1 := cells_leaf hf
  have e2 := cells_leaf hg
  have a1 : allLeaf [f] = true := by show (bif f.leaf then allLeaf [] else false) = true; rw [hf]; rfl
  have a2 : allLeaf [g] = true := by show (bif g.leaf then allLeaf [] else false) = true; rw [hg]; rfl
  simp only [fillRowV, e1, e2, a1, a2, repl]
  rfl
structure FdInv (h0 : AHeap) (t : AV) (tot : List Fld) (regs : Regs) (r : List Cls) (h : AHeap) : Prop where
  ext : Ext h0 h
  ok : h.Ok
  sz : h0.sz + 4 ≤ h.sz
  p : Var h (h0.sz + 1) [t]
  y : h.get (h0.sz + 3) = some (Lp regs [15] c20_17 c20_18 .ready)
  cur : ∃ v fs, Var h h0.sz [v] ∧ Own h0.sz h 3 v (fs.map encF) ∧ tot = r.reverse.flatMap Cls.fields ++ fs
theorem u16o {n : Nat} {h : AHeap} {t : AV} {l : List Cls} {s : Str} {K : Kont} (T : TableRep h t l) (A : Asc l) (ho : h.Ok) (hn : l.length + 8 < n) (hT : (fieldsOf l s).length < 1000000)
    (k0 : idx s (names l) = none → K (.tup [.nilSlc, .int .i64 10]) h = true)
    (k : ∀ i h' v, idx s (names l) = some i → Ext h h' → h'.Ok → Own h.sz h' 3 v ((fieldsOf l s).map encF) → K (.tup [v, .int .i64 0]) h' = true) : callN E (n + 2) (.func 20) [t, .str s] h K = true := by
  obtain ⟨id, lv, mid, rfl, V0, C0, M0⟩ := T
  have T : TableRep h (.ptr id 0 0 0) l := ⟨id, lv, mid, rfl, V0, C0, M0⟩
  apply d20
  unfold s20
  refine u19 T ?_
  simp only [notA_bool, optB_some]
  cases hi : idx s (names l) with
  | none =>
    simp only [Option.isSome_none, Bool.not_false, condB_true]
    exact k0 hi
  | some i =>
  simp only [Option.isSome_some, Bool.not_true, condB_false]
  unfold p20_10
  rw [alloc_eq (by decide) rfl, optP_some]
  have o2 := ok_newRow ho [[AV.nilSlc]] 1
  have e2 := ext_newRow ho [[AV.nilSlc]] 1
  have V2 := var_new h [AV.nilSlc]
  show callN E (n + 1) (.func 43) _ (Ab.newRow h [[AV.nilSlc]] 1) _ = true
  simp only [List.length_cons, List.length_nil, Nat.zero_add] at V2
  have s2 : (Ab.newRow h [[AV.nilSlc]] 1).sz = h.sz + 1 := rfl
  generalize hh2 : Ab.newRow h [[AV.nilSlc]] 1 = h2 at *
  refine u38 ?_
  have o3 := ok_newRow o2 [[AV.ptr id 0 0 0]] 1
  have e3 := ext_newRow o2 [[AV.ptr id 0 0 0]] 1
  have V3 := var_new h2 [AV.ptr id 0 0 0]
  have o4 := ok_newRow o3 [[AV.str s]] 1
  have e4 := ext_newRow o3 [[AV.str s]] 1
  have V4 := var_new (Ab.newRow h2 [[AV.ptr id 0 0 0]] 1) [AV.str s]
  have s4 : (Ab.newRow (Ab.newRow h2 [[AV.ptr id 0 0 0]] 1) [[AV.str s]] 1).sz = h.sz + 3 := by simp [s2]
  simp only [List.length_cons, List.length_nil, Nat.zero_add] at V3 V4
  generalize hh4 : Ab.newRow (Ab.newRow h2 [[AV.ptr id 0 0 0]] 1) [[AV.str s]] 1 = h4 at *
  simp only [newRow_sz, s2] at V2 V3 V4 ⊢
  have E4 : Ext h h4 := e2.trans (e3.trans e4)
  generalize hreg : mkR [(6, AV.ptr h.sz 0 0 0), (14, AV.fn (AFn.func 66) [] [AV.ptr (h.sz + 1) 0 0 0, AV.ptr (h.sz + 1 + 1) 0 0 0])] = regs
  obtain ⟨n, rfl⟩ : ∃ k, n = k + 4 := ⟨n - 4, by omega⟩
  have e5 := ext_push o4 (Lp regs [15] c20_17 c20_18 .ready)
  refine rf_up (t := .ptr id 0 0 0) (l := l) (s := s) (hb := h) A T (by omega) (FdInv h (.ptr id 0 0 0) (fieldsOf l s) regs) (fun x h' => False) (V4.ext e5) ?_ ?_ ?_ ?_ ?_
  · intro r h' I
    exact ⟨I.ext, I.p, by rw [s4]; exact I.y⟩
  · refine ⟨E4.trans e5, o4.push _, by simp [s4], V3.ext (e4.trans e5), ?_, .nilSlc, [], V2.ext (e3.trans (e4.trans e5)), Own.nil _ _ _, by simp [fieldsOf]⟩
    rw [← s4]; exact get_push_same _ _
  · intro c r h' f K' I hf k1 _
    rw [s4]
    have hy := I.y
    rw [← hreg] at hy
    refine y20_16_run primle hy ?_
    rw [hreg] at hy
    unfold y20_16
    rw [alloc_set (n := 3) rfl (by decide) rfl rfl (leaf3 hf.leaf)]
    obtain ⟨v, fs, W, OW, htot⟩ := I.cur
    have VW := OW.view
    have o6 := ok_newRow I.ok [[AV.str c.name, AV.str c.super, f]] 3
    have e6 := ext_newRow I.ok [[AV.str c.name, AV.str c.super, f]] 3
    have V6 := var_new h' [AV.str c.name, AV.str c.super, f]
    have hc : (AV.agg [AV.str c.name, AV.str c.super, f]).cells = [AV.str c.name, AV.str c.super, f] := rfl
    rw [hc]
    simp only [List.length_cons, List.length_nil, Nat.zero_add] at V6
    have s6 : (Ab.newRow h' [[AV.str c.name, AV.str c.super, f]] 3).sz = h'.sz + 1 := rfl
    generalize Ab.newRow h' [[AV.str c.name, AV.str c.super, f]] 3 = h6 at *
    have hsz := I.sz
    rw [busy_eq (e6.2 _ _ hy)]
    have V7 := V6.other (j := h.sz + 3) (by omega) (Lp regs [15] c20_17 c20_18 .busy)
    have W7 := (W.ext e6).other (j := h.sz + 3) (by omega) (Lp regs [15] c20_17 c20_18 .busy)
    have P7 := (I.p.ext e6).other (j := h.sz + 3) (by omega) (Lp regs [15] c20_17 c20_18 .busy)
    have hf6 := hf.ext (I.ext.trans e6)
    have VW6 := VW.ext e6
    have g7 := get_put_same h6 (h.sz + 3) (Lp regs [15] c20_17 c20_18 .busy)
    have x7 := ext_put (I.ext.trans e6) ho (show h.sz ≤ h.sz + 3 by omega) (Lp regs [15] c20_17 c20_18 .busy)
    have o7 := o6.put (show h.sz + 3 < h6.sz by omega) (Lp regs [15] c20_17 c20_18 .busy)
    have s7 : (h6.put (h.sz + 3) (Lp regs [15] c20_17 c20_18 .busy)).sz = h'.sz + 1 := by simp [s6]
    have viewput : ∀ {v : AV} {es : List (List AV)}, View h6 3 v es → View (h6.put (h.sz + 3) (Lp regs [15] c20_17 c20_18 .busy)) 3 v es := by
      intro v es hv
      rcases hv with hv | ⟨i', g', s', cp, ex, rr, w1, w2, w3⟩
      · exact .inl hv
      · refine .inr ⟨i', g', s', cp, ex, rr, w1, ?_, w3⟩
        rw [AHeap.row_some] at w2 ⊢
        have hne : i' ≠ h.sz + 3 := by
          intro e
          rw [e] at w2
          have := e6.2 _ _ hy
          rw [this] at w2; cases w2
        rw [get_put_ne hne]; exact w2
    have hf7 := viewput hf6
    have VW7 := viewput VW6
    generalize h6.put (h.sz + 3) (Lp regs [15] c20_17 c20_18 .busy) = h7 at *
    simp only [fadrA_ptr, optB_some, V7.load, W7.load, partA_false, Nat.zero_add, nth_zero, nth_succ]
    obtain ⟨w, ew, Vw⟩ := bslice_view (h := h7) (n := 2) (sz := 1) (z := [AV.nilSlc]) (ps := [(0, f), (1, v)]) (es := [[f], [v]]) rfl (by decide) (by decide) rfl (two_fill hf.leaf VW.leaf) rfl
    rw [ew, optP_some]
    have e8 := ext_newRow o7 [[f], [v]] 1
    have o8 := ok_newRow o7 [[f], [v]] 1
    have s8 : (Ab.newRow h7 [[f], [v]] 1).sz = h'.sz + 2 := by simp [s7]
    have hbound : (fieldsOf l s).length = (r.reverse.flatMap Cls.fields).length + (c.fields.length + fs.length) := by
      rw [htot]; simp [Nat.add_assoc]
    generalize Ab.newRow h7 [[f], [v]] 1 = h8 at *
    refine u39o (A := c.fields.map encF) (B := fs.map encF) o8 Vw (hf7.ext e8) (VW7.ext e8) (by simp only [List.length_map]; omega) (by omega) ?_
    intro h9 u e9 o9 Vu
    have W9 := W7.ext (e8.trans e9)
    rw [W9.set1 (by simp) Vu.view.leaf, unit, optP_some]
    have g9 := (e8.trans e9).2 _ _ g7
    have s9 := e9.1
    have hg : (h9.put h.sz (.row (VRow ([v].set 0 u)))).get (h.sz + 3) = some (Lp regs [15] c20_17 c20_18 .busy) := by rw [get_put_ne (by omega)]; exact g9
    rw [end_normal hg]
    have hne : ∀ {j : Nat} {rr : Row}, h9.row j = some rr → j ≠ h.sz → j ≠ h.sz + 3 → ((h9.put h.sz (.row (VRow ([v].set 0 u)))).put (h.sz + 3) (Lp regs [15] c20_17 c20_18 .ready)).row j = some rr := by
      intro j rr hj h1 h2
      rw [AHeap.row_some] at hj ⊢
      rw [get_put_ne h2, get_put_ne h1]; exact hj
    refine k1 _ ⟨ext_put (ext_put (x7.trans (e8.trans e9)) ho (Nat.le_refl _) _) ho (by omega) _, (o9.put (by omega) _).put (by simp; omega) _, by simp; omega, ((P7.ext (e8.trans e9)).other (by omega) _).other (by omega) _, get_put_same _ _ _, u, c.fields ++ fs, (var_put (h := h9) h.sz [u]).other (by omega) _, ?_, ?_⟩
    · rcases Vu with Vu | ⟨id', rr, w0, w1, w2, w3, w4, w5, w6⟩
      · exact .inl (by simpa using Vu)
      · exact .inr ⟨id', rr, by omega, by simpa using w1, hne w2 (by omega) (by omega), w3, w4, w5, by simpa using w6⟩
    · rw [htot]; simp
  · intro h' I
    rw [s4]
    unfold p20_20
    have hsz := I.sz
    obtain ⟨v, fs, W, VW, htot⟩ := I.cur
    simp only [List.reverse_nil, List.flatMap_nil, List.nil_append] at htot
    have W2 := W.other (j := h.sz + 3) (by omega) (Lp regs [15] c20_17 c20_18 .exh)
    rw [W2.load, partA_false, nth_zero, optB_some]
    refine k i _ v hi (ext_put I.ext ho (by omega) _) (I.ok.put (by omega) _) ?_
    rw [htot]
    rcases VW with hv | ⟨i', rr, w0, w1, w2, w3, w4, w5, w6⟩
    · exact .inl hv
    · refine .inr ⟨i', rr, w0, w1, ?_, w3, w4, w5, w6⟩
      rw [AHeap.row_some] at w2 ⊢
      have hne : i' ≠ h.sz + 3 := by
        intro e
        rw [e, I.y] at w2; cases w2
      rw [get_put_ne hne]; exact w2
  · intro x h' hf; exact hf.elim
theorem u16 {n : Nat} {h : AHeap} {t : AV} {l : List Cls} {s : Str} {K : Kont} (T : TableRep h t l) (A : Asc l) (ho : h.Ok) (hn : l.length + 8 < n) (hT : (fieldsOf l s).length < 1000000)
    (k0 : idx s (names l) = none → K (.tup [.nilSlc, .int .i64 10]) h = true)
    (k : ∀ i h' v, idx s (names l) = some i → Ext h h' → h'.Ok → View h' 3 v ((fieldsOf l s).map encF) → K (.tup [v, .int .i64 0]) h' = true) : callN E (n + 2) (.func 20) [t, .str s] h K = true :=
  u16o T A ho hn hT k0 fun i h' v hi e o O => k i h' v hi e o O.view
end Go.Proofs.Ythifmankpcadjaa
namespace Go.Proofs.Ythifmankpcadjaa
open Go.Ab
set_option linter.unusedSimpArgs false
set_option linter.unusedVariables false
theorem encF_leaf (f : Fld) : allLeaf (AV.agg (encF f)).cells = true := rfl
def fnames (fs : List Fld) : List Str := fs.map Fld.name
def shl1 (i : Nat) : Int := IntKind.u64.wrap (1 * 2 ^ (min i 64))
def orU (a b : Int) : Int := IntKind.u64.wrap ((BitVec.ofInt 64 a ||| BitVec.ofInt 64 b).toNat : Nat)
theorem shl_eq (k : IntKind) (i : Nat) : binA .shl (.int .u64 1) (.int k (i : Int)) = some (.int .u64 (shl1 i)) := by
  have : iltb (i : Int) 0 = false := by rw [iltb_dec]; simp
  simp only [binA, isShift, cond_true, shiftA, this, cond_false]
  rfl
theorem or_eq (a b : Int) : binA .or (.int .u64 a) (.int .u64 b) = some (.int .u64 (orU a b)) := by
  rw [binA_ints _ _ _ _ rfl]; rfl
def maskGo (fn : List Str) : List Str → Int → Option Int
  | [], m => some m
  | f :: fs, m => match idx f fn with
    | none => none
    | some i => maskGo fn fs (orU m (shl1 i))
def maskOf (l : List Cls) (s : Str) (fs : List Str) : Int × Int :=
  match idx s (names l) with
  | none => (0, 10)
  | some _ => match maskGo (fnames (fieldsOf l s)) fs 0 with
    | none => (0, 11)
    | some m => (m, 0)
def subsOf (l : List Cls) (s : Str) : List Str := (l.filter fun c => (chain l c.name).any fun d => decide (d.name = s)).map Cls.name
theorem one_fill (s : Str) : fillRowV 1 (repl 1 [AV.str []]) [(0, AV.str s)] = some [[AV.str s]] := rfl
theorem l20 {n : Nat} {h0 : AHeap} {t lv : AV} {l : List Cls} {s : Str} {K : Kont} (T : TableRep h0 t l) (C : CV h0 lv l) (A : Asc l) (o0 : h0.Ok) (hl : l.length < 1000000) (hn : l.length + 4 < n)
    (k : ∀ h' v, Ext h0 h' → h'.Ok → Own h0.sz h' 1 v ((subsOf l s).map fun w => [AV.str w]) → K (.tup [v, .int .i64 0]) h' = true) : ∀ (m i : Nat) (v : AV) (done : List Str) (h : AHeap), Ext h0 h → h.Ok → i ≤ l.length → l.length - i < m → Own h0.sz h 1 v (done.map fun w => [AV.str w]) →
    done.length ≤ i → subsOf l s = done ++ ((l.drop i).filter fun c => (chain l c.name).any fun d => decide (d.name = s)).map Cls.name →
    l46_16 (callN E (n + 2)) (n + 2) m t (.str s) v lv (.int .i64 (l.length : Int)) (.int .i64 (i : Int)) h K = true := by
  intro m
  induction m with
  | zero => intro i v done h _ _ _ hm; omega
  | succ m ih =>
    intro i v done h e ho hi hm O hdl hx
    rw [l46_16_s]
    unfold b46_16
    by_cases hlt : i < l.length
    · have hd : l.drop i = l[i] :: l.drop (i + 1) := List.drop_eq_getElem_cons hlt
      obtain ⟨id, g, j, f, p1, p2, p3, p4, p5, p6⟩ := (C.ext e).at (List.getElem?_eq_getElem hlt)
      rw [binA_lss, optB_some, condB_t (by simpa using hlt), p1, optB_some, p2, optB_some]
      rw [alloc_set (n := 3) rfl (by decide) rfl rfl (leaf3 p6.leaf)]
      have o6 := ok_newRow ho [[AV.str l[i].name, AV.str l[i].super, f]] 3
      have e6 := ext_newRow ho [[AV.str l[i].name, AV.str l[i].super, f]] 3
      have V6 := var_new h [AV.str l[i].name, AV.str l[i].super, f]
      have hc : (AV.agg [AV.str l[i].name, AV.str l[i].super, f]).cells = [AV.str l[i].name, AV.str l[i].super, f] := rfl
      rw [hc]
      simp only [List.length_cons, List.length_nil, Nat.zero_add] at V6
      have O6 : Own h0.sz (Ab.newRow h [[AV.str l[i].name, AV.str l[i].super, f]] 3) 1 v (done.map fun w => [AV.str w]) := by
        rcases O with O | ⟨id, r, q1, q2, q3, q4⟩
        · exact .inl O
        · exact .inr ⟨id, r, q1, q2, e6.row q3, q4⟩
      have s6 : (Ab.newRow h [[AV.str l[i].name, AV.str l[i].super, f]] 3).sz = h.sz + 1 := rfl
      generalize Ab.newRow h [[AV.str l[i].name, AV.str l[i].super, f]] 3 = h6 at *
      simp only [fadrA_ptr, optB_some, V6.load, partA_false, Nat.zero_add, nth_zero]
      refine u14 (T.ext (e.trans e6)) A o6 (by omega) ?_
      intro h7 e7 o7
      have O7 : Own h0.sz h7 1 v (done.map fun w => [AV.str w]) := by
        rcases O6 with O | ⟨id, r, q1, q2, q3, q4⟩
        · exact .inl O
        · exact .inr ⟨id, r, q1, q2, e7.row q3, q4⟩
      rw [hd, List.filter_cons] at hx
      cases hb : (chain l l[i].name).any fun d => decide (d.name = s) with
      | false =>
        rw [condB_false]
        unfold p46_32
        rw [inc64 (by unfold lim; omega), optB_some]
        refine ih (i + 1) v done h7 (e.trans (e6.trans e7)) o7 (by omega) (by omega) O7 (by omega) ?_
        rw [hx, hb]; rfl
      | true =>
        rw [condB_true]
        simp only [fadrA_ptr, optB_some, (V6.ext e7).load, partA_false, Nat.zero_add, nth_zero]
        obtain ⟨w, ew, Vw⟩ := bslice_view (h := h7) (n := 1) (sz := 1) (z := [AV.str []]) (ps := [(0, AV.str l[i].name)]) (es := [[AV.str l[i].name]]) rfl (by decide) (by decide) rfl (one_fill _) rfl
        rw [ew, optP_some]
        have e8 := ext_newRow o7 [[AV.str l[i].name]] 1
        have o8 := ok_newRow o7 [[AV.str l[i].name]] 1
        have O8 : Own h0.sz (Ab.newRow h7 [[AV.str l[i].name]] 1) 1 v (done.map fun w => [AV.str w]) := by
          rcases O7 with O | ⟨id, r, q1, q2, q3, q4⟩
          · exact .inl O
          · exact .inr ⟨id, r, q1, q2, e8.row q3, q4⟩
        have E8 := e.trans (e6.trans (e7.trans e8))
        generalize Ab.newRow h7 [[AV.str l[i].name]] 1 = h8 at *
        obtain ⟨v', h9, a1, a2, a3, a4, a5, a6, _⟩ := O8.app (bytes := 16) (by decide) E8.1 o8 o0 E8 (Nat.le_refl _) Vw.src (by simp only [List.length_map, List.length_cons, List.length_nil]; unfold most; omega) (by simp only [List.length_map, List.length_cons, List.length_nil]; unfold most; omega)
        rw [a1, optP_some]
        unfold p46_32
        rw [inc64 (by unfold lim; omega), optB_some]
        refine ih (i + 1) v' (done ++ [l[i].name]) h9 a4 a3 (by omega) (by omega) (by simpa using a2) (by simp; omega) ?_
        rw [hx, hb]; simp
    · have : l.drop i = [] := List.drop_of_length_le (by omega)
      rw [this] at hx
      rw [binA_lss, optB_some, condB_f (by simpa using hlt)]
      simp only [List.filter_nil, List.map_nil, List.append_nil] at hx
      exact k h v e ho (by rw [hx]; exact O)
theorem u20o {n : Nat} {h : AHeap} {t : AV} {l : List Cls} {s : Str} {K : Kont} (T : TableRep h t l) (A : Asc l) (ho : h.Ok) (hl : l.length < 1000000) (hn : l.length + 4 < n)
    (k0 : idx s (names l) = none → K (.tup [.nilSlc, .int .i64 10]) h = true)
    (k : ∀ i h' v, idx s (names l) = some i → Ext h h' → h'.Ok → Own h.sz h' 1 v ((subsOf l s).map fun w => [AV.str w]) → K (.tup [v, .int .i64 0]) h' = true) : callN E (n + 3) (.func 46) [t, .str s] h K = true := by
  apply d46
  unfold s46
  refine u19 T ?_
  simp only [notA_bool, optB_some]
  cases hi : idx s (names l) with
  | none =>
    simp only [Option.isSome_none, Bool.not_false, condB_true]
    exact k0 hi
  | some i =>
    simp only [Option.isSome_some, Bool.not_true, condB_false]
    unfold p46_10
    have T2 := T
    obtain ⟨id, lv, mid, rfl, V, C, M⟩ := T
    simp only [nilckA_ptr, optB_some, fadrA_ptr, V.load, partA_false, Nat.zero_add, nth_zero, C.len]
    exact l20 T2 C A ho hl hn (fun h' v => k i h' v hi) (n + 2) 0 .nilSlc [] h (Ext.refl h) ho (by omega) (by omega) (Own.nil _ _ _) (by simp) (by simp [subsOf])
theorem u20 {n : Nat} {h : AHeap} {t : AV} {l : List Cls} {s : Str} {K : Kont} (T : TableRep h t l) (A : Asc l) (ho : h.Ok) (hl : l.length < 1000000) (hn : l.length + 4 < n)
    (k0 : idx s (names l) = none → K (.tup [.nilSlc, .int .i64 10]) h = true)
    (k : ∀ i h' v, idx s (names l) = some i → Ext h h' → h'.Ok → View h' 1 v ((subsOf l s).map fun w => [AV.str w]) → K (.tup [v, .int .i64 0]) h' = true) : callN E (n + 3) (.func 46) [t, .str s] h K = true :=
  u20o T A ho hl hn k0 fun i h' v hi e o O => k i h' v hi e o O.view
end Go.Proofs.Ythifmankpcadjaa
namespace Go.Proofs.Ythifmankpcadjaa
open Go.Ab
set_option linter.unusedSimpArgs false
set_option linter.unusedVariables false
theorem u45 {n : Nat} {h : AHeap} {a b : Str} {g : AV} {f : Fld} {p : Nat} {K : Kont} (ho : h.Ok) (hg : g.leaf = true) (V : Var h p (encF f)) (k : ∀ h', Ext h h' → h'.Ok → K (.bool (decide (a = f.cls))) h' = true) :
    callN E (n + 1) (.func 51) [.agg [.str a, .str b, g], .ptr p 0 0 0] h K = true := by
  apply d51
  unfold s51
  rw [box_eq (n := 3) rfl (by decide) (leaf3 hg), optP_some]
  have e := ext_newRow ho [[AV.str a, AV.str b, g]] 3
  have V2 := var_new h [AV.str a, AV.str b, g]
  have hc : (AV.agg [AV.str a, AV.str b, g]).cells = [AV.str a, AV.str b, g] := rfl
  rw [hc]
  simp only [List.length_cons, List.length_nil, Nat.zero_add] at V2
  have o := ok_newRow ho [[AV.str a, AV.str b, g]] 3
  generalize Ab.newRow h [[AV.str a, AV.str b, g]] 3 = h2 at *
  simp only [fadrA_ptr, optB_some, V2.load, (V.ext e).load, partA_false, Nat.zero_add, nth_zero, nth_succ, encF, binA_seql]
  exact k h2 e o
theorem l55 {n : Nat} {v : AV} {l : List Cls} {f : Fld} {p : Nat} {K : Kont} {h0 : AHeap} (C : CV h0 v l) (P : Var h0 p (encF f)) (hl : l.length < lim)
    (k : ∀ h', Ext h0 h' → h'.Ok → K (.int .i64 (fint (idx f.cls (names l)))) h' = true) : ∀ (m i : Nat) (h : AHeap), Ext h0 h → h.Ok → i ≤ l.length → l.length - i < m → idx f.cls (names l) = off i (idx f.cls (names (l.drop i))) →
    l71_6 (callN E (n + 1)) (n + 1) m v (.fn (.func 51) [] [.ptr p 0 0 0]) (.int .i64 (l.length : Int)) (.int .i64 (i : Int)) h K = true := by
  intro m
  induction m with
  | zero => intro i h _ _ _ hm; omega
  | succ m ih =>
    intro i h e ho hi hm hx
    rw [l71_6_s]
    unfold b71_6
    by_cases hlt : i < l.length
    · have hd : l.drop i = l[i] :: l.drop (i + 1) := List.drop_eq_getElem_cons hlt
      obtain ⟨id, g, j, ff, p1, p2, p3, p4, p5, p6⟩ := (C.ext e).at (List.getElem?_eq_getElem hlt)
      rw [binA_lss, optB_some, condB_t (by simpa using hlt), p1, optB_some, p2, optB_some, callV_fn]
      simp only [List.nil_append, List.cons_append]
      refine u45 ho p6.leaf (P.ext e) ?_
      intro h' e' o'
      rw [hd] at hx
      simp only [names, List.map_cons, idx] at hx
      by_cases hs : l[i].name = f.cls
      · rw [condB_t (by simpa using hs)]
        have := k h' (e.trans e') o'
        simp only [names] at this
        rw [hx] at this
        simpa [hs, off, fint] using this
      · rw [condB_f (by simpa using hs), inc64 (by omega), optB_some]
        refine ih (i + 1) h' (e.trans e') o' (by omega) (by omega) ?_
        rw [if_neg hs] at hx
        simp only [names]
        rw [hx]
        cases idx f.cls (List.map Cls.name (List.drop (i + 1) l)) with
        | none => rfl
        | some x => simp [off]; omega
    · have : l.drop i = [] := List.drop_of_length_le (by omega)
      rw [this] at hx
      rw [binA_lss, optB_some, condB_f (by simpa using hlt)]
      have := k h e ho
      rw [hx] at this
      exact this
theorem u44 {n : Nat} {v : AV} {l : List Cls} {f : Fld} {p : Nat} {K : Kont} {h : AHeap} (ho : h.Ok) (C : CV h v l) (P : Var h p (encF f)) (hl : l.length < lim) (hn : l.length < n)
    (k : ∀ h', Ext h h' → h'.Ok → K (.bool (idx f.cls (names l)).isSome) h' = true) : callN E (n + 3) (.func 50) [v, .fn (.func 51) [] [.ptr p 0 0 0]] h K = true := by
  apply d50
  unfold s50
  apply d71
  unfold s71
  rw [C.len, optB_some]
  refine l55 C P hl ?_ (n + 1) 0 h (Ext.refl h) ho (by omega) (by omega) (by rw [off0]; rfl)
  intro h' e' o'
  rw [binA_geq, optB_some]
  have := k h' e' o'
  have hx : decide ((0 : Int) ≤ fint (idx f.cls (names l))) = (idx f.cls (names l)).isSome := by
    cases idx f.cls (names l) with
    | none => rfl
    | some x => simp [fint]
  rw [hx]; exact this
def cnt (s : Str) (fs : List Fld) : Nat := (fs.filter fun f => decide (f.name = s)).length
theorem cnt_append (s : Str) (a b : List Fld) : cnt s (a ++ b) = cnt s a + cnt s b := by simp [cnt]
theorem cnt_one (s : Str) (f : Fld) : cnt s [f] = if s = f.name then 1 else 0 := by
  unfold cnt
  by_cases h : s = f.name
  · subst h; simp
  · have : ¬ f.name = s := fun e => h e.symm
    simp [h, this]
theorem cnt_le (s : Str) (fs : List Fld) : cnt s fs ≤ fs.length := List.length_filter_le _ _
def cntAt (fs : List Fld) (s : Str) : Option AV := if cnt s fs = 0 then none else some (.int .i64 (cnt s fs : Int))
theorem cntAt_next (fs : List Fld) (f : Fld) : (fun s => if s = f.name then some (AV.int .i64 ((cnt f.name fs + 1 : Nat) : Int)) else cntAt fs s) = cntAt (fs ++ [f]) := by
  funext s
  unfold cntAt
  rw [cnt_append, cnt_one]
  by_cases h : s = f.name
  · subst h; simp
  · simp [h]
theorem cntAt_get (fs : List Fld) (s : Str) : (cntAt fs s).getD (.int .i64 0) = .int .i64 (cnt s fs : Int) := by
  unfold cntAt
  by_cases h : cnt s fs = 0
  · simp [h]
  · simp [h]
structure Counts (h0 : AHeap) (b : Nat) (mid vn vc : Nat) (fs : List Fld) (h : AHeap) : Prop where
  ext : Ext h0 h
  ok : h.Ok
  lo : h0.sz ≤ b ∧ b ≤ mid ∧ b ≤ vn ∧ b ≤ vc ∧ mid ≠ vn ∧ mid ≠ vc ∧ vn ≠ vc
  n : Var h vn [.map mid]
  c : Var h vc [.int .i64 (fs.length : Int)]
  m : StrMap h mid (cntAt fs)
theorem Counts.lt {h0 h : AHeap} {b mid vn vc : Nat} {fs : List Fld} (C : Counts h0 b mid vn vc fs h) : mid < h.sz ∧ vn < h.sz ∧ vc < h.sz := ⟨C.m.lt C.ok, C.n.lt C.ok, C.c.lt C.ok⟩
theorem Counts.grow {h0 h h' : AHeap} {b mid vn vc : Nat} {fs : List Fld} (C : Counts h0 b mid vn vc fs h) (e : Ext h h') (o : h'.Ok) : Counts h0 b mid vn vc fs h' :=
  ⟨C.ext.trans e, o, C.lo, C.n.ext e, C.c.ext e, C.m.ext e⟩
theorem Counts.name {h0 h : AHeap} {b mid vn vc : Nat} {fs : List Fld} (k0 : h0.Ok) (C : Counts h0 b mid vn vc fs h) (f : Fld) (hlt : fs.length < lim) :
    ∃ h', mupdA h (.leaf .str) (.map mid) (.str f.name) (.int .i64 ((cnt f.name fs + 1 : Nat) : Int)) = some h' ∧ h'.sz = h.sz ∧ h'.Ok ∧ Ext h0 h' ∧ Var h' vn [.map mid] ∧ Var h' vc [.int .i64 (fs.length : Int)] ∧ StrMap h' mid (cntAt (fs ++ [f])) ∧
      (∀ j o, j ≠ mid → h.get j = some o → h'.get j = some o) := by
  obtain ⟨o, u1, u2⟩ := C.m.upd f.name (.int .i64 ((cnt f.name fs + 1 : Nat) : Int))
  rw [cntAt_next] at u2
  obtain ⟨l1, l2, l3⟩ := C.lt
  obtain ⟨a0, a1, a2, a3, a4, a5, a6⟩ := C.lo
  refine ⟨_, u1, by simp, C.ok.put l1 _, ext_put C.ext k0 (by omega) _, C.n.other (Ne.symm a4) _, C.c.other (Ne.symm a5) _, u2, fun j x hj hx => ?_⟩
  rw [get_put_ne hj]; exact hx
theorem bump {h : AHeap} {vc k : Nat} (V : Var h vc [.int .i64 (k : Int)]) (hk : k < lim) :
    storeA h 1 (.ptr vc 0 0 0) (.int .i64 ((k + 1 : Nat) : Int)) = some (h.put vc (.row (VRow [.int .i64 ((k + 1 : Nat) : Int)]))) := V.set1 (by simp) rfl
def fldOk (all : List Str) (f : Fld) : Bool := isName f.name && decide (0 ≤ f.ty) && decide (f.ty ≤ 5) && (decide (f.ty = 5) == !decide (f.cls = [])) && (!decide (f.ty = 5) || (idx f.cls all).isSome)
def goF (all : List Str) : List Fld → List Fld → Bool
  | _, [] => true
  | prev, f :: r => fldOk all f && decide (cnt f.name prev = 0) && goF all (prev ++ [f]) r
def upF (t : List Cls) (s : Str) : List Fld := (chain t s).flatMap Cls.fields
def fitsB (t : List Cls) (c : Cls) (all : List Str) : Bool :=
  isName c.name && !(idx c.name (names t)).isSome && (decide (c.super = []) || (idx c.super (names t)).isSome) && goF all (upF t c.super) c.fields && decide ((upF t c.super).length + c.fields.length ≤ 62)
theorem eqV_bool (h : AHeap) (a b : Bool) : eqV h true .bool (.bool a) (.bool b) = some (.bool (!(a == b))) := rfl
theorem field_chain (h : AHeap) (p : Nat) (f : Fld) (V : Var h p (encF f)) (nm : Bool) (k : AV → Bool) :
    (optB (notA (.bool nm)) fun v61 => optB (grdO (wantV v61 false) (fadrA 1 (.ptr p 0 0 0))) fun v62 => optB (grdO (wantV v61 false) (loadA h false 1 v62)) fun v63 => optB (grdO (wantV v61 false) (binA (BinOp.lss) v63 (AV.int (IntKind.i64) 0))) fun v64 => optB (pickV v61 (AV.bool true) v64) fun v65 => optB (grdO (wantV v65 false) (fadrA 1 (.ptr p 0 0 0))) fun v66 => optB (grdO (wantV v65 false) (loadA h false 1 v66)) fun v67 => optB (grdO (wantV v65 false) (binA (BinOp.gtr) v67 (AV.int (IntKind.i64) 5))) fun v68 => optB (pickV v65 (AV.bool true) v68) fun v69 => optB (grdO (wantV v69 false) (fadrA 1 (.ptr p 0 0 0))) fun v70 => optB (grdO (wantV v69 false) (loadA h false 1 v70)) fun v71 => optB (grdO (wantV v69 false) (binA (BinOp.eql) v71 (AV.int (IntKind.i64) 5))) fun v72 => optB (grdO (wantV v69 false) (fadrA 2 (.ptr p 0 0 0))) fun v73 => optB (grdO (wantV v69 false) (loadA h false 1 v73)) fun v74 => optB (grdO (wantV v69 false) (binA (BinOp.neq) v74 (AV.str []))) fun v75 => optB (grdO (wantV v69 false) (eqV h true (EqK.bool) v72 v75)) fun v76 => optB (pickV v69 (AV.bool true) v76) fun v77 => k v77)
    = k (.bool (!(nm && decide (0 ≤ f.ty) && decide (f.ty ≤ 5) && (decide (f.ty = 5) == !decide (f.cls = []))))) := by
  have t0 : decide (f.ty < 0) = !decide (0 ≤ f.ty) := by by_cases h : f.ty < 0 <;> simp [h] <;> omega
  have t5 : decide (5 < f.ty) = !decide (f.ty ≤ 5) := by by_cases h : 5 < f.ty <;> simp [h] <;> omega
  cases nm
  · simp
  · simp only [encF] at V
    by_cases a0 : 0 ≤ f.ty
    · by_cases a5 : f.ty ≤ 5
      · by_cases e5 : f.ty = 5 <;> by_cases ec : f.cls = [] <;> simp [V.load, t0, t5, a0, a5, e5, ec, eqV_bool]
      · simp [V.load, t0, t5, a0, a5]
    · simp [V.load, t0, t5, a0]
end Go.Proofs.Ythifmankpcadjaa
namespace Go.Proofs.Ythifmankpcadjaa
open Go.Ab
set_option linter.unusedSimpArgs false
set_option linter.unusedVariables false
structure FInv (hb : AHeap) (b mid vn vc : Nat) (q : Nat) (qc : List AV) (p : Nat) (pc : List AV) (fs : List Fld) (h : AHeap) : Prop where
  k : Counts hb b mid vn vc fs h
  vq : Var h q qc
  vp : Var h p pc
  ne : q ≠ mid ∧ q ≠ vn ∧ q ≠ vc ∧ p ≠ mid ∧ p ≠ vn ∧ p ≠ vc
theorem FInv.grow {hb h h' : AHeap} {b mid vn vc q p : Nat} {qc pc : List AV} {fs : List Fld} (I : FInv hb b mid vn vc q qc p pc fs h) (e : Ext h h') (o : h'.Ok) : FInv hb b mid vn vc q qc p pc fs h' :=
  ⟨I.k.grow e o, I.vq.ext e, I.vp.ext e, I.ne⟩
theorem FInv.name {hb h : AHeap} {b mid vn vc q p : Nat} {qc pc : List AV} {fs : List Fld} (k0 : hb.Ok) (I : FInv hb b mid vn vc q qc p pc fs h) (f : Fld) (hlt : fs.length < lim) :
    ∃ h', mupdA h (.leaf .str) (.map mid) (.str f.name) (.int .i64 ((cnt f.name fs + 1 : Nat) : Int)) = some h' ∧ h'.sz = h.sz ∧ h'.Ok ∧ Ext hb h' ∧ Var h' vn [.map mid] ∧ Var h' vc [.int .i64 (fs.length : Int)] ∧ StrMap h' mid (cntAt (fs ++ [f])) ∧ Var h' q qc ∧ Var h' p pc ∧
      (∀ j o, j ≠ mid → h.get j = some o → h'.get j = some o) := by
  obtain ⟨h', a1, a2, a3, a4, a5, a6, a7, a8⟩ := I.k.name k0 f hlt
  obtain ⟨n1, n2, n3, n4, n5, n6⟩ := I.ne
  refine ⟨h', a1, a2, a3, a4, a5, a6, a7, ?_, ?_, a8⟩
  · show AHeap.row _ _ = _
    rw [AHeap.row_some]; exact a8 _ _ n1 (AHeap.row_some.1 I.vq)
  · show AHeap.row _ _ = _
    rw [AHeap.row_some]; exact a8 _ _ n4 (AHeap.row_some.1 I.vp)
theorem FInv.done {hb h : AHeap} {b mid vn vc q p : Nat} {qc pc : List AV} {fs : List Fld} (k0 : hb.Ok) {f : Fld} (lo : hb.sz ≤ b ∧ b ≤ mid ∧ b ≤ vn ∧ b ≤ vc ∧ mid ≠ vn ∧ mid ≠ vc ∧ vn ≠ vc) (ne : q ≠ mid ∧ q ≠ vn ∧ q ≠ vc ∧ p ≠ mid ∧ p ≠ vn ∧ p ≠ vc)
    (o : h.Ok) (e : Ext hb h) (n : Var h vn [.map mid]) (c : Var h vc [.int .i64 (fs.length : Int)]) (m : StrMap h mid (cntAt (fs ++ [f]))) (Q : Var h q qc) (Pp : Var h p pc) :
    FInv hb b mid vn vc q qc p pc (fs ++ [f]) (h.put vc (.row (VRow [.int .i64 ((fs.length + 1 : Nat) : Int)]))) := by
  obtain ⟨a0, a1, a2, a3, a4, a5, a6⟩ := lo
  obtain ⟨n1, n2, n3, n4, n5, n6⟩ := ne
  have hv := c.lt o
  refine ⟨⟨ext_put e k0 (by omega) _, o.put hv _, ⟨a0, a1, a2, a3, a4, a5, a6⟩, n.other a6 _, ?_, m.other a5 _⟩, Q.other n3 _, Pp.other n6 _, ⟨n1, n2, n3, n4, n5, n6⟩⟩
  have := var_put (h := h) vc [AV.int .i64 ((fs.length + 1 : Nat) : Int)]
  simpa using this
theorem lkC (h : AHeap) (mid : Nat) (fs : List Fld) (M : StrMap h mid (cntAt fs)) (s : Str) : lookA h (.leaf .str) false (.int .i64 0) (.map mid) (.str s) = some (.int .i64 (cnt s fs : Int)) := by
  rw [M.look, cntAt_get]
theorem encF_alloc {h : AHeap} {f : Fld} {k : Kont} : (optP (allocV h [AV.str [], AV.int .i64 0, AV.str []]) fun p h => optP (unit (storeA h 3 p (.agg (encF f)))) fun _ h => k p h) = k (.ptr h.sz 0 0 0) (Ab.newRow h [encF f] 3) :=
  alloc_set rfl (by decide) rfl rfl (encF_leaf f)
theorem t30_24 {n : Nat} {hb : AHeap} {b mid vn vc q p y : Nat} {qc pc : List AV} {f : AV} {fs prev : List Fld} {lp : AObj} {K : Kont} (k0 : hb.Ok) (V : View hb 3 f (fs.map encF)) (hl : prev.length + fs.length < 1000000) (hy : y ≠ mid ∧ y ≠ vc)
    (k : ∀ h', FInv hb b mid vn vc q qc p pc (prev ++ fs) h' → h'.get y = some lp → endY y K .normal h' = true) : ∀ (m i : Nat) (h : AHeap), FInv hb b mid vn vc q qc p pc (prev ++ fs.take i) h → h.get y = some lp → i ≤ fs.length → fs.length - i < m →
    l25_24 (callN E n) n y m (.ptr vn 0 0 0) (.ptr vc 0 0 0) f (.int .i64 (fs.length : Int)) (.int .i64 (i : Int)) h K = true := by
  intro m
  induction m with
  | zero => intro i h _ _ _ hm; omega
  | succ m ih =>
    intro i h I hg hi hm
    rw [l25_24_s]
    unfold b25_24
    by_cases hlt : i < fs.length
    · have he : (fs.map encF)[i]? = some (encF fs[i]) := by simp [hlt]
      obtain ⟨id, g, j, p1, p2⟩ := (V.ext I.k.ext).at he
      have hp : partA true 0 3 (encF fs[i]) = some (.agg (encF fs[i])) := rfl
      rw [binA_lss, optB_some, condB_t (by simpa using hlt), p1, optB_some, p2, hp, optB_some, encF_alloc]
      have e1 := ext_newRow I.k.ok [encF fs[i]] 3
      have o1 := ok_newRow I.k.ok [encF fs[i]] 3
      have I1 := I.grow e1 o1
      have V1 := var_new h (encF fs[i])
      have g1 := e1.2 _ _ hg
      have hl3 : (encF fs[i]).length = 3 := rfl
      rw [hl3] at V1
      generalize Ab.newRow h [encF fs[i]] 3 = h1 at *
      have hlen : (prev ++ fs.take i).length = prev.length + i := by simp; omega
      have hbig : (prev ++ fs.take i).length < lim := by rw [hlen]; unfold lim; omega
      have hcl : cnt fs[i].name (prev ++ fs.take i) < lim := Nat.lt_of_le_of_lt (cnt_le _ _) hbig
      simp only [I1.k.n.load, partA_false, nth_zero, optB_some, fadrA_ptr, Nat.zero_add, V1.load]
      have hnm : nth (encF fs[i]) 0 = some (.str fs[i].name) := rfl
      rw [hnm, optB_some, lkC _ _ _ I1.k.m, optB_some, inc64 hcl, optB_some]
      obtain ⟨h2, u1, u2, u3, u4, u5, u6, u7, u8, u9, u10⟩ := I1.name k0 fs[i] hbig
      rw [u1, unit, optP_some, u6.load, partA_false, nth_zero, optB_some, inc64 hbig, optB_some, bump u6 hbig, unit, optP_some, inc64 (by unfold lim; omega), optB_some]
      have I3 := FInv.done k0 I.k.lo I.ne u3 u4 u5 u6 u7 u8 u9
      refine ih (i + 1) _ ?_ ?_ (by omega) (by omega)
      · have : fs.take (i + 1) = fs.take i ++ [fs[i]] := by rw [List.take_succ_eq_append_getElem hlt]
        rw [this, ← List.append_assoc]
        exact I3
      · rw [get_put_ne hy.2]; exact u10 _ _ hy.1 g1
    · have : fs.take i = fs := List.take_of_length_le (by omega)
      rw [this] at I
      rw [binA_lss, optB_some, condB_f (by simpa using hlt)]
      exact k h I hg
theorem ref_fork {call : CallFn} {h : AHeap} {x f : AV} {d : Bool} {k : AV → AHeap → Bool} (Q : AHeap → Prop) (rest : ∀ h2, Q h2 → k (.bool false) h2 = true)
    (ht : d = true → (∀ h2, Q h2 → k (.bool false) h2 = true) → call (.func 50) [x, f] h (fun v h => optB (notA v) fun w => k w h) = true) (hf : d = false → Q h) :
    (optB (grdO (wantV (.bool d) true) (some x)) fun v81 => optB (grdO (wantV (.bool d) true) (some f)) fun v82 => grdC (wantV (.bool d) true) (fun k => call (.func 50) [v81, v82] h k) h fun v83 h => optB (grdO (wantV (.bool d) true) (notA v83)) fun v84 => optB (pickV (.bool d) v84 (AV.bool false)) fun v85 => k v85 h) = true := by
  cases d with
  | true => exact ht rfl rest
  | false => exact rest h (hf rfl)
theorem t30_43 {n : Nat} {hb : AHeap} {b mid vn vc q p : Nat} {qc pc : List AV} {f va : AV} {all : List Cls} {fs prev : List Fld} {K : Kont} (k0 : hb.Ok) (V : View hb 3 f (fs.map encF)) (C : CV hb va all) (hl : prev.length + fs.length < 1000000) (hla : all.length < n) (hla2 : all.length < lim)
    (hs : ∀ f ∈ fs, f.name.length ≤ n ∧ f.name.length < lim) (k : ∀ h', Ext hb h' → h'.Ok → K (.bool (goF (names all) prev fs && decide (prev.length + fs.length ≤ 62))) h' = true) : ∀ (m i : Nat) (h : AHeap), FInv hb b mid vn vc q qc p pc (prev ++ fs.take i) h → i ≤ fs.length → fs.length - i < m →
    goF (names all) prev fs = goF (names all) (prev ++ fs.take i) (fs.drop i) →
    l25_43 (callN E (n + 3)) (n + 3) m va (.ptr vn 0 0 0) (.ptr vc 0 0 0) f (.int .i64 (fs.length : Int)) (.int .i64 (i : Int)) h K = true := by
  intro m
  induction m with
  | zero => intro i h _ _ hm; omega
  | succ m ih =>
    intro i h I hi hm hgo
    rw [l25_43_s]
    unfold b25_43
    by_cases hlt : i < fs.length
    · have hd : fs.drop i = fs[i] :: fs.drop (i + 1) := List.drop_eq_getElem_cons hlt
      have he : (fs.map encF)[i]? = some (encF fs[i]) := by simp [hlt]
      obtain ⟨id, g, j, p1, p2⟩ := (V.ext I.k.ext).at he
      have hp : partA true 0 3 (encF fs[i]) = some (.agg (encF fs[i])) := rfl
      rw [binA_lss, optB_some, condB_t (by simpa using hlt), p1, optB_some, p2, hp, optB_some, encF_alloc]
      have e1 := ext_newRow I.k.ok [encF fs[i]] 3
      have o1 := ok_newRow I.k.ok [encF fs[i]] 3
      have I1 := I.grow e1 o1
      have V1 := var_new h (encF fs[i])
      have hl3 : (encF fs[i]).length = 3 := rfl
      rw [hl3] at V1
      generalize Ab.newRow h [encF fs[i]] 3 = h1 at *
      have hlen : (prev ++ fs.take i).length = prev.length + i := by simp; omega
      have hbig : (prev ++ fs.take i).length < lim := by rw [hlen]; unfold lim; omega
      have hcl : cnt fs[i].name (prev ++ fs.take i) < lim := Nat.lt_of_le_of_lt (cnt_le _ _) hbig
      have hcl1 : cnt fs[i].name (prev ++ fs.take i) ≤ 1000000 := Nat.le_trans (cnt_le _ _) (by rw [hlen]; omega)
      have hnm : nth (encF fs[i]) 0 = some (.str fs[i].name) := rfl
      have hty : nth (encF fs[i]) 1 = some (.int .i64 fs[i].ty) := rfl
      have hbad : fldOk (names all) fs[i] = false ∨ ¬ cnt fs[i].name (prev ++ fs.take i) = 0 → goF (names all) prev fs = false := by
        intro hh
        rw [hgo, hd, goF]
        rcases hh with hh | hh
        · rw [hh]; rfl
        · rw [decide_eq_false hh]; simp
      have kbad : ∀ h', goF (names all) prev fs = false → Ext hb h' → h'.Ok → K (.bool false) h' = true := by
        intro h' hg e o
        have := k h' e o
        rw [hg, Bool.false_and] at this
        exact this
      rw [fadrA_ptr, optB_some, Nat.zero_add, V1.load, partA_false, hnm, optB_some]
      have hsi := hs fs[i] (List.getElem_mem hlt)
      refine u43 (by omega) hsi.2 ?_
      rw [field_chain h1 h.sz fs[i] V1]
      cases hfc : (isName fs[i].name && decide (0 ≤ fs[i].ty) && decide (fs[i].ty ≤ 5) && (decide (fs[i].ty = 5) == !decide (fs[i].cls = []))) with
      | false =>
        rw [condB_t (show (!false) = true from rfl)]
        exact kbad h1 (hbad (.inl (by simp only [fldOk, hfc, Bool.false_and]))) I1.k.ext o1
      | true =>
        rw [condB_f (show (!true) = false from rfl)]
        rw [fadrA_ptr, optB_some, Nat.zero_add, V1.load, partA_false, hty, optB_some, binA_eql, optB_some]
        have hfc' : fldOk (names all) fs[i] = (!decide (fs[i].ty = 5) || (idx fs[i].cls (names all)).isSome) := by
          simp only [fldOk, hfc, Bool.true_and]
        refine ref_fork (fun h2 => Ext h1 h2 ∧ h2.Ok ∧ fldOk (names all) fs[i] = true) ?_ ?_ ?_
        · rintro h2 ⟨e2, o2, hok⟩
          rw [condB_false]
          have I2 := I1.grow e2 o2
          have V2 := V1.ext e2
          simp only [I2.k.n.load, partA_false, nth_zero, optB_some, fadrA_ptr, Nat.zero_add, V2.load]
          rw [hnm, optB_some, lkC _ _ _ I2.k.m, optB_some, inc64 hcl, optB_some]
          obtain ⟨h3, u1, u2, u3, u4, u5, u6, u7, u8, u9, u10⟩ := I2.name k0 fs[i] hbig
          have V3 : Var h3 h.sz (encF fs[i]) := by
            show AHeap.row _ _ = _
            rw [AHeap.row_some]
            refine u10 _ _ ?_ (AHeap.row_some.1 V2)
            have := I.k.lt.1
            omega
          rw [u1, unit, optP_some, u5.load, partA_false, nth_zero, optB_some, V3.load, partA_false, hnm, optB_some, lkC _ _ _ u7, optB_some, binA_gtr, optB_some]
          have hc1 : cnt fs[i].name ((prev ++ fs.take i) ++ [fs[i]]) = cnt fs[i].name (prev ++ fs.take i) + 1 := by
            rw [cnt_append, cnt_one, if_pos rfl]
          rw [hc1]
          by_cases hz : cnt fs[i].name (prev ++ fs.take i) = 0
          · rw [hz, condB_f (by decide), u6.load, partA_false, nth_zero, optB_some, inc64 hbig, optB_some, bump u6 hbig, unit, optP_some, inc64 (by unfold lim; omega), optB_some]
            have I4 := FInv.done k0 I.k.lo I.ne u3 u4 u5 u6 u7 u8 u9
            have htk : fs.take (i + 1) = fs.take i ++ [fs[i]] := by rw [List.take_succ_eq_append_getElem hlt]
            refine ih (i + 1) _ ?_ (by omega) (by omega) ?_
            · rw [htk, ← List.append_assoc]; exact I4
            · rw [hgo, hd, goF, hok, decide_eq_true hz, htk, ← List.append_assoc]; rfl
          · rw [condB_t (decide_eq_true (by omega))]
            exact kbad h3 (hbad (.inr hz)) u4 u3
        · intro h5 rest
          refine u44 o1 (C.ext I1.k.ext) V1 hla2 hla ?_
          intro h2 e2 o2
          rw [notA_bool, optB_some]
          cases hex : (idx fs[i].cls (names all)).isSome with
          | false =>
            rw [condB_t (show (!false) = true from rfl)]
            exact kbad h2 (hbad (.inl (by rw [hfc', hex, h5]; rfl))) (I1.k.ext.trans e2) o2
          | true => exact rest h2 ⟨e2, o2, by rw [hfc', hex]; simp⟩
        · intro h5
          exact ⟨Ext.refl h1, o1, by rw [hfc', h5]; rfl⟩
    · have : fs.take i = fs := List.take_of_length_le (by omega)
      rw [this] at I
      have hd : fs.drop i = [] := List.drop_of_length_le (by omega)
      rw [hd, goF] at hgo
      rw [binA_lss, optB_some, condB_f (by simpa using hlt)]
      unfold p25_82
      rw [I.k.c.load, partA_false, nth_zero, optB_some, binA_leq, optB_some]
      have := k h I.k.ext I.k.ok
      rw [hgo, Bool.true_and] at this
      have e : decide (((prev ++ fs).length : Int) ≤ 62) = decide (prev.length + fs.length ≤ 62) := by
        congr 1; apply propext; simp; omega
      rw [e]; exact this
end Go.Proofs.Ythifmankpcadjaa
namespace Go.Proofs.Ythifmankpcadjaa
open Go.Ab
set_option linter.unusedSimpArgs false
set_option linter.unusedVariables false
theorem FInv.putY {hb h : AHeap} {b mid vn vc q p y : Nat} {qc pc : List AV} {fs : List Fld} (k0 : hb.Ok) (I : FInv hb b mid vn vc q qc p pc fs h) (hy : mid ≠ y ∧ vn ≠ y ∧ vc ≠ y ∧ q ≠ y ∧ p ≠ y) (h1 : hb.sz ≤ y) (h2 : y < h.sz) (o : AObj) :
    FInv hb b mid vn vc q qc p pc fs (h.put y o) :=
  ⟨⟨ext_put I.k.ext k0 h1 _, I.k.ok.put h2 _, I.k.lo, I.k.n.other hy.2.1 _, I.k.c.other hy.2.2.1 _, I.k.m.other hy.1 _⟩, I.vq.other hy.2.2.2.1 _, I.vp.other hy.2.2.2.2 _, I.ne⟩
theorem has_fork {call : CallFn} {h : AHeap} {x : AV} {p : Nat} {s u : Str} {g : AV} {nm : Bool} {k : AV → AHeap → Bool} (V : Var h p [.str s, .str u, g]) (h0 : nm = false → k (.bool true) h = true) (h1 : nm = true → call (.func 42) [x, .str s] h k = true) :
    (optB (notA (.bool nm)) fun v5 => optB (grdO (wantV v5 false) (some x)) fun v6 => optB (grdO (wantV v5 false) (fadrA 0 (.ptr p 0 0 0))) fun v7 => optB (grdO (wantV v5 false) (loadA h false 1 v7)) fun v8 => grdC (wantV v5 false) (fun k => call (.func 42) [v6, v8] h k) h fun v9 h => optB (pickV v5 (AV.bool true) v9) fun v10 => k v10 h) = true := by
  cases nm with
  | false => exact h0 rfl
  | true =>
    have := h1 rfl
    simp only [notA_bool, Bool.not_true, optB_some, wantV_false, Bool.not_false, grdO_true, fadrA_ptr, Nat.zero_add, V.load, partA_false, nth_zero, grdC_true, pickV_false]
    exact this
theorem super_fork {call : CallFn} {h : AHeap} {x : AV} {p : Nat} {s u : Str} {g : AV} {b : Bool} {k : AV → AHeap → Bool} (V : Var h p [.str s, .str u, g]) (h0 : b = true → k (.bool true) h = true) (h1 : b = false → u = [] → k (.bool false) h = true) (h2 : b = false → u ≠ [] → call (.func 42) [x, .str u] h (fun v h => optB (notA v) fun w => k w h) = true) :
    (optB (grdO (wantV (.bool b) false) (fadrA 1 (.ptr p 0 0 0))) fun v11 => optB (grdO (wantV (.bool b) false) (loadA h false 1 v11)) fun v12 => optB (grdO (wantV (.bool b) false) (binA (BinOp.neq) v12 (AV.str []))) fun v13 => optB (grdO (wantV (.bool b) false) (some v13)) fun v14 => optB (grdO (wantV v14 true) (some x)) fun v15 => optB (grdO (wantV v14 true) (fadrA 1 (.ptr p 0 0 0))) fun v16 => optB (grdO (wantV v14 true) (loadA h false 1 v16)) fun v17 => grdC (wantV v14 true) (fun k => call (.func 42) [v15, v17] h k) h fun v18 h => optB (grdO (wantV v14 true) (notA v18)) fun v19 => optB (grdO (wantV (.bool b) false) (pickV v14 v19 (AV.bool false))) fun v20 => optB (pickV (.bool b) (AV.bool true) v20) fun v21 => k v21 h) = true := by
  cases b with
  | true => exact h0 rfl
  | false =>
    simp only [wantV_false, Bool.not_false, grdO_true, fadrA_ptr, optB_some, Nat.zero_add, V.load, partA_false, nth_zero, nth_succ, binA_sneq]
    by_cases hu : u = []
    · have := h1 rfl hu
      simp only [hu, decide_true, Bool.not_true, wantV_true, grdO_false, optB_some, grdC_false, pickV_false]
      exact this
    · have := h2 rfl hu
      simp only [hu, decide_false, Bool.not_false, wantV_true, grdO_true, optB_some, fadrA_ptr, Nat.zero_add, V.load, partA_false, nth_succ, nth_zero, grdC_true, pickV_true, pickV_false]
      exact this
theorem rest30 {n : Nat} {h h1 : AHeap} {t va cf : AV} {l all : List Cls} {c : Cls} {K : Kont} (T : TableRep h t l) (A : Asc l) (ho : h.Ok) (C : CV h va all) (Vc : View h 3 cf (c.fields.map encF))
    (hn : l.length + 8 < n) (hna : all.length < n) (hnf : c.fields.length < n) (hU : (upF l c.super).length + c.fields.length < 1000000) (hUn : (upF l c.super).length < n) (hnb : n < lim) (hs : ∀ f ∈ c.fields, f.name.length ≤ n)
    (V1 : Var h1 h.sz [.str c.name, .str c.super, cf]) (e1 : Ext h h1) (o1 : h1.Ok) (s1 : h1.sz = h.sz + 1)
    (k : ∀ h', Ext h h' → h'.Ok → K (.bool (goF (names all) (upF l c.super) c.fields && decide ((upF l c.super).length + c.fields.length ≤ 62))) h' = true) : p25_10 (callN E (n + 4)) (n + 4) t va (.ptr h.sz 0 0 0) h1 K = true := by
  have T0 := T
  obtain ⟨id, lv, mt, rfl, V0, C0, M0⟩ := T
  unfold p25_10
  obtain ⟨m1, m2⟩ := strMap_new h1
  rw [m1, optP_some]
  have e2 := ext_push o1 (.map [] 0)
  have o2 := o1.push (.map [] 0)
  have s2 : (h1.push (.map [] 0)).sz = h.sz + 2 := by simp [s1]
  rw [s1] at m2 ⊢
  have V2 := V1.ext e2
  generalize h1.push (.map [] 0) = h2 at *
  rw [alloc_set (n := 1) rfl (by decide) rfl rfl rfl, s2]
  have o3 := ok_newRow o2 [(AV.map (h.sz + 1)).cells] 1
  have e3 := ext_newRow o2 [(AV.map (h.sz + 1)).cells] 1
  have W3 := var_new h2 [AV.map (h.sz + 1)]
  simp only [List.length_cons, List.length_nil, Nat.zero_add, s2] at W3
  have hcm : (AV.map (h.sz + 1)).cells = [AV.map (h.sz + 1)] := rfl
  rw [hcm] at o3 e3 ⊢
  have s3 : (Ab.newRow h2 [[AV.map (h.sz + 1)]] 1).sz = h.sz + 3 := by simp [s2]
  generalize Ab.newRow h2 [[AV.map (h.sz + 1)]] 1 = h3 at *
  rw [alloc_set (n := 1) rfl (by decide) rfl rfl rfl, s3]
  have o4 := ok_newRow o3 [(AV.int .i64 0).cells] 1
  have e4 := ext_newRow o3 [(AV.int .i64 0).cells] 1
  have W4 := var_new h3 [AV.int .i64 0]
  simp only [List.length_cons, List.length_nil, Nat.zero_add, s3] at W4
  have hci : (AV.int .i64 0).cells = [AV.int .i64 0] := rfl
  rw [hci] at o4 e4 ⊢
  have s4 : (Ab.newRow h3 [[AV.int .i64 0]] 1).sz = h.sz + 4 := by simp [s3]
  generalize Ab.newRow h3 [[AV.int .i64 0]] 1 = h4 at *
  have V4 := (V2.ext e3).ext e4
  rw [fadrA_ptr, optB_some, Nat.zero_add, V4.load, partA_false, nth_succ, nth_zero, optB_some]
  refine u38 ?_
  have o5 := ok_newRow o4 [[AV.ptr id 0 0 0]] 1
  have e5 := ext_newRow o4 [[AV.ptr id 0 0 0]] 1
  have P5 := var_new h4 [AV.ptr id 0 0 0]
  have o6 := ok_newRow o5 [[AV.str c.super]] 1
  have e6 := ext_newRow o5 [[AV.str c.super]] 1
  have P6 := var_new (Ab.newRow h4 [[AV.ptr id 0 0 0]] 1) [AV.str c.super]
  have s6 : (Ab.newRow (Ab.newRow h4 [[AV.ptr id 0 0 0]] 1) [[AV.str c.super]] 1).sz = h.sz + 6 := by simp [s4]
  simp only [List.length_cons, List.length_nil, Nat.zero_add] at P5 P6
  have P5' := P5.ext e6
  generalize Ab.newRow (Ab.newRow h4 [[AV.ptr id 0 0 0]] 1) [[AV.str c.super]] 1 = h6 at *
  simp only [newRow_sz, s4] at P5 P6 P5' ⊢
  have E6 : Ext h h6 := e1.trans (e2.trans (e3.trans (e4.trans (e5.trans e6))))
  have E24 : Ext h2 h6 := e3.trans (e4.trans (e5.trans e6))
  generalize hreg : mkR [(2, va), (4, AV.ptr h.sz 0 0 0), (7, AV.ptr (h.sz + 2) 0 0 0), (8, AV.ptr (h.sz + 3) 0 0 0), (40, AV.fn (AFn.func 66) [] [AV.ptr (h.sz + 4) 0 0 0, AV.ptr (h.sz + 4 + 1) 0 0 0])] = regs
  have e7 := ext_push o6 (Lp regs [41] c25_19 c25_20 .ready)
  obtain ⟨n, rfl⟩ : ∃ j, n = j + 1 := ⟨n - 1, by omega⟩
  have lo : h.sz ≤ h.sz ∧ h.sz ≤ h.sz + 1 ∧ h.sz ≤ h.sz + 2 ∧ h.sz ≤ h.sz + 3 ∧ h.sz + 1 ≠ h.sz + 2 ∧ h.sz + 1 ≠ h.sz + 3 ∧ h.sz + 2 ≠ h.sz + 3 := by omega
  refine rf_up (n := n + 4) (t := .ptr id 0 0 0) (l := l) (s := c.super) (hb := h) A T0 (by omega)
    (fun r h' => ∃ prev, upF l c.super = prev ++ r.flatMap Cls.fields ∧ FInv h h.sz (h.sz + 1) (h.sz + 2) (h.sz + 3) h.sz [.str c.name, .str c.super, cf] (h.sz + 4) [.ptr id 0 0 0] prev h' ∧ h'.get (h.sz + 6) = some (Lp regs [41] c25_19 c25_20 .ready) ∧ h.sz + 7 ≤ h'.sz)
    (fun x h' => False) (P6.ext e7) ?_ ?_ ?_ ?_ ?_
  · rintro r h' ⟨prev, i1, i2, i3, i4⟩
    exact ⟨i2.k.ext, i2.vp, by rw [s6]; exact i3⟩
  · refine ⟨[], by simp [upF], ⟨⟨E6.trans e7, o6.push _, lo, W3.ext ((e4.trans (e5.trans e6)).trans e7), W4.ext ((e5.trans e6).trans e7), ?_⟩, V4.ext ((e5.trans e6).trans e7), P5'.ext e7, by omega⟩, ?_, by simp [s6]⟩
    · have := m2.ext (E24.trans e7)
      have ec : cntAt [] = fun _ => none := by funext s; simp [cntAt, cnt]
      rw [ec]; exact this
    · rw [← s6]; exact get_push_same _ _
  · rintro d r h' f K' ⟨prev, i1, i2, i3, i4⟩ hf k1 _
    rw [s6]
    have hy := i3
    rw [← hreg] at hy
    refine y25_18_run primle hy ?_
    rw [hreg] at hy
    unfold y25_18
    rw [alloc_set (n := 3) rfl (by decide) rfl rfl (leaf3 hf.leaf)]
    have o8 := ok_newRow i2.k.ok [[AV.str d.name, AV.str d.super, f]] 3
    have e8 := ext_newRow i2.k.ok [[AV.str d.name, AV.str d.super, f]] 3
    have V8 := var_new h' [AV.str d.name, AV.str d.super, f]
    have hc : (AV.agg [AV.str d.name, AV.str d.super, f]).cells = [AV.str d.name, AV.str d.super, f] := rfl
    rw [hc]
    simp only [List.length_cons, List.length_nil, Nat.zero_add] at V8
    have s8 : (Ab.newRow h' [[AV.str d.name, AV.str d.super, f]] 3).sz = h'.sz + 1 := rfl
    generalize Ab.newRow h' [[AV.str d.name, AV.str d.super, f]] 3 = h8 at *
    have I8 := i2.grow e8 o8
    rw [busy_eq (e8.2 _ _ hy)]
    have V9 := V8.other (j := h.sz + 6) (by omega) (Lp regs [41] c25_19 c25_20 .busy)
    have I9 := I8.putY (y := h.sz + 6) ho (by omega) (by omega) (by omega) (Lp regs [41] c25_19 c25_20 .busy)
    have g9 := get_put_same h8 (h.sz + 6) (Lp regs [41] c25_19 c25_20 .busy)
    have s9 : (h8.put (h.sz + 6) (Lp regs [41] c25_19 c25_20 .busy)).sz = h'.sz + 1 := by simp [s8]
    generalize h8.put (h.sz + 6) (Lp regs [41] c25_19 c25_20 .busy) = h9 at *
    rw [fadrA_ptr, optB_some, Nat.zero_add, V9.load, partA_false, nth_succ, nth_succ, nth_zero, optB_some, (hf.ext I9.k.ext).len, optB_some, List.length_map]
    have hlen : prev.length + d.fields.length ≤ (upF l c.super).length := by rw [i1]; simp
    refine t30_24 (prev := prev) (fs := d.fields) (y := h.sz + 6) (mid := h.sz + 1) (vn := h.sz + 2) (vc := h.sz + 3) (b := h.sz) (q := h.sz) (p := h.sz + 4) (lp := Lp regs [41] c25_19 c25_20 .busy) ho hf (by omega) (by omega) ?_ (n + 3) 0 h9 (by simpa using I9) g9 (by omega) (by omega)
    intro h10 I10 g10
    rw [end_normal g10]
    have hlt := I10.k.lt
    have hsz10 : h.sz + 6 < h10.sz := I10.k.ok.lt g10
    refine k1 _ ⟨prev ++ d.fields, by rw [i1]; simp, I10.putY ho (by omega) (by omega) hsz10 _, get_put_same _ _ _, by simp; omega⟩
  · rintro h' ⟨prev, i1, i2, i3, i4⟩
    rw [s6]
    simp only [List.flatMap_nil, List.append_nil] at i1
    subst i1
    have I2 := i2.putY (y := h.sz + 6) ho (by omega) (by omega) (by omega) (Lp regs [41] c25_19 c25_20 .exh)
    unfold p25_39
    rw [fadrA_ptr, optB_some, Nat.zero_add, I2.vq.load, partA_false, nth_succ, nth_succ, nth_zero, optB_some, (Vc.ext I2.k.ext).len, optB_some, List.length_map]
    exact t30_43 (n := n + 2) ho Vc C hU (by omega) (by omega) (fun f hf => ⟨by have := hs f hf; omega, by have := hs f hf; omega⟩) k (n + 5) 0 _ (by simpa using I2) (by omega) (by omega) (by simp)
  · intro x h' hf; exact hf.elim
theorem u30 {n : Nat} {h : AHeap} {t va cf : AV} {l all : List Cls} {c : Cls} {K : Kont} (T : TableRep h t l) (A : Asc l) (ho : h.Ok) (C : CV h va all) (Vc : View h 3 cf (c.fields.map encF))
    (hn : l.length + 8 < n) (hna : all.length < n) (hnf : c.fields.length < n) (hU : (upF l c.super).length + c.fields.length < 1000000) (hUn : (upF l c.super).length < n) (hnb : n < lim)
    (hs0 : c.name.length ≤ n) (hs : ∀ f ∈ c.fields, f.name.length ≤ n)
    (k : ∀ h', Ext h h' → h'.Ok → K (.bool (fitsB l c (names all))) h' = true) : callN E (n + 5) (.func 25) [t, .agg [.str c.name, .str c.super, cf], va] h K = true := by
  have T0 := T
  obtain ⟨id, lv, mt, rfl, V0, C0, M0⟩ := T
  apply d25
  unfold s25
  rw [box_eq (n := 3) rfl (by decide) (leaf3 Vc.leaf), optP_some]
  have hc : (AV.agg [AV.str c.name, AV.str c.super, cf]).cells = [AV.str c.name, AV.str c.super, cf] := rfl
  rw [hc]
  have e1 := ext_newRow ho [[AV.str c.name, AV.str c.super, cf]] 3
  have o1 := ok_newRow ho [[AV.str c.name, AV.str c.super, cf]] 3
  have V1 := var_new h [AV.str c.name, AV.str c.super, cf]
  simp only [List.length_cons, List.length_nil, Nat.zero_add] at V1
  have s1 : (Ab.newRow h [[AV.str c.name, AV.str c.super, cf]] 3).sz = h.sz + 1 := rfl
  generalize Ab.newRow h [[AV.str c.name, AV.str c.super, cf]] 3 = h1 at *
  rw [fadrA_ptr, optB_some, Nat.zero_add, V1.load, partA_false, nth_zero, optB_some]
  refine u43 (by omega) (by omega) ?_
  have kbad : ∀ h', fitsB l c (names all) = false → Ext h h' → h'.Ok → K (.bool false) h' = true := by
    intro h' hf e o
    have := k h' e o
    rw [hf] at this; exact this
  refine has_fork V1 ?_ ?_
  · intro hnm
    refine super_fork V1 ?_ (fun hh => by cases hh) (fun hh => by cases hh)
    intro _
    rw [condB_true]
    exact kbad h1 (by simp only [fitsB, hnm, Bool.false_and]) e1 o1
  · intro hnm
    refine u19 (T0.ext e1) ?_
    refine super_fork V1 ?_ ?_ ?_
    · intro hh
      rw [condB_true]
      exact kbad h1 (by simp only [fitsB, hh, Bool.not_true, Bool.and_false, Bool.false_and]) e1 o1
    all_goals
      intro hh hu
    rotate_left
    · refine u19 (T0.ext e1) ?_
      rw [notA_bool, optB_some]
      cases hsup : (idx c.super (names l)).isSome with
      | false =>
        rw [Bool.not_false, condB_true]
        exact kbad h1 (by simp only [fitsB, hnm, hh, hsup, decide_eq_false hu, Bool.or_self, Bool.and_false, Bool.false_and]) e1 o1
      | true =>
        rw [Bool.not_true]
        have hgood : fitsB l c (names all) = (goF (names all) (upF l c.super) c.fields && decide ((upF l c.super).length + c.fields.length ≤ 62)) := by
          simp only [fitsB, hnm, hh, hsup, Bool.not_false, Bool.or_true, Bool.and_true, Bool.true_and]
        rw [condB_false]
        exact rest30 T0 A ho C Vc hn hna hnf hU hUn hnb hs V1 e1 o1 s1 (fun h' e o => by have := k h' e o; rw [hgood] at this; exact this)
    · have hgood : fitsB l c (names all) = (goF (names all) (upF l c.super) c.fields && decide ((upF l c.super).length + c.fields.length ≤ 62)) := by
        simp only [fitsB, hnm, hh, hu, decide_true, Bool.not_false, Bool.true_or, Bool.and_true, Bool.true_and]
      rw [condB_false]
      exact rest30 T0 A ho C Vc hn hna hnf hU hUn hnb hs V1 e1 o1 s1 (fun h' e o => by have := k h' e o; rw [hgood] at this; exact this)
end Go.Proofs.Ythifmankpcadjaa
namespace Go.Proofs.Ythifmankpcadjaa
open Go.Ab
set_option linter.unusedSimpArgs false
set_option linter.unusedVariables false
theorem u31 {n : Nat} {h : AHeap} {v : AV} {es : List (List AV)} {K : Kont} (ho : h.Ok) (V : View h 3 v es) (hl : es.length < 1000000)
    (k : ∀ h' v', Ext h h' → h'.Ok → View h' 3 v' es → (∀ id g s l c ex, v' = .slc id g s l c ex → h.sz ≤ id) → K v' h' = true) : callN E (n + 1) (.func 26) [v] h K = true := by
  apply d26
  unfold s26
  have hnil : v = .nilSlc ∨ eqV h false .slc v .nilSlc = some (.bool false) := by
    rcases V with ⟨_, rfl | rfl⟩ | ⟨id, g, s, cap, ex, r, rfl, _⟩
    · exact .inl rfl
    · exact .inr rfl
    · exact .inr rfl
  rcases hnil with rfl | hne
  · have : eqV h false .slc .nilSlc .nilSlc = some (.bool true) := rfl
    rw [this, optB_some, condB_true]
    exact k h _ (Ext.refl h) ho V (by intro id g s l c ex hh; cases hh)
  · rw [hne, optB_some, condB_false]
    have hb : bsliceV h 0 3 [AV.str [], AV.int .i64 0, AV.str []] [] = some (.slc h.sz 0 0 0 0 true, Ab.newRow h [] 3) := rfl
    rw [hb, optP_some]
    have e1 := ext_newRow ho [] 3
    have o1 := ok_newRow ho [] 3
    have r1 : (Ab.newRow h [] 3).row h.sz = some { es := [], sz := 3, g := 0, m := 0, rw := true } := by rw [AHeap.row_some]; exact get_push_same _ _
    generalize Ab.newRow h [] 3 = h1 at *
    have V1 := V.ext e1
    cases es with
    | nil =>
      have : appendA h1 3 40 (.slc h.sz 0 0 0 0 true) v = some (.slc h.sz 0 0 0 0 true, h1) := by
        simp only [appendA, show Nat.beq 3 0 = false from rfl, cond_false, V1.src, appendNew]
      rw [this, optP_some]
      exact k h1 _ e1 o1 (.inr ⟨h.sz, 0, 0, 0, true, _, rfl, r1, Nat.le_refl _, rfl, rfl, Nat.le_refl _⟩) (by intro id g s l c ex hh; cases hh; exact Nat.le_refl _)
    | cons y l =>
      have b1 : Nat.ble ((0 + (y :: l).length) * 40) most = true := nble_true.2 (by unfold most; omega)
      have b2 : Nat.ble (0 + (y :: l).length) most = true := nble_true.2 (by unfold most; omega)
      have b3 : Nat.ble (0 + (y :: l).length) 0 = false := by
        cases hh : Nat.ble (0 + (y :: l).length) 0 with
        | false => rfl
        | true => have := nble_true.1 hh; simp at this
      have : appendA h1 3 40 (.slc h.sz 0 0 0 0 true) v = some (.slc h1.sz 0 0 (0 + (y :: l).length) (0 + (y :: l).length) false, Ab.newRow h1 (y :: l) 3) := by
        simp only [appendA, show Nat.beq 3 0 = false from rfl, cond_false, V1.src, appendNew, r1, b1, b2, b3, Nat.beq_refl, Bool.and_self, cond_true, Nat.ble_self_eq_true, List.drop_nil, List.take_nil, List.length_nil, List.nil_append]
      rw [this, optP_some]
      refine k _ _ (e1.trans (ext_newRow o1 _ 3)) (ok_newRow o1 _ 3) (.inr ⟨h1.sz, 0, 0, 0 + (y :: l).length, false, { es := y :: l, sz := 3, g := 0, m := 0, rw := true }, by simp, ?_, Nat.le_refl _, rfl, by simp, by simp⟩) (by intro id g s l c ex hh; cases hh; exact e1.1)
      rw [AHeap.row_some]; exact get_push_same _ _
def validGo (all : List Str) : List Cls → List Cls → Bool
  | _, [] => true
  | pre, c :: r => decide (c.fields.length ≤ 62) && fitsB pre c all && validGo all (pre ++ [c]) r
def valid (l : List Cls) : Bool := decide (l.length ≤ 64) && validGo (names l) [] l
def Good (pre : List Cls) : Prop := (∀ (i : Nat) c, pre[i]? = some c → c.super = [] ∨ ∃ j, j < i ∧ idx c.super (names pre) = some j) ∧ ∀ c ∈ pre, isName c.name = true ∧ c.fields.length ≤ 62
theorem isName_nil : isName [] = false := rfl
theorem idx_mem {s : Str} {l : List Str} {i : Nat} (h : idx s l = some i) : s ∈ l := List.mem_of_getElem? (idx_lt h).2
theorem Good.asc {pre : List Cls} (G : Good pre) : Asc pre := by
  intro i c hc j hj
  rcases G.1 i c hc with h | ⟨k, hk, hk2⟩
  · rw [h] at hj
    have := idx_mem hj
    simp only [names, List.mem_map] at this
    obtain ⟨d, hd, hd2⟩ := this
    have := (G.2 d hd).1
    rw [hd2, isName_nil] at this; cases this
  · rw [hk2] at hj; cases hj; exact hk
theorem idx_append {s : Str} : ∀ {l m : List Str}, idx s (l ++ m) = match idx s l with | some i => some i | none => (idx s m).map (· + l.length)
  | [], m => by simp [idx]
  | c :: l, m => by
    simp only [List.cons_append, idx]
    by_cases h : c = s
    · simp [h]
    · rw [if_neg h, if_neg h, idx_append (l := l)]
      cases idx s l with
      | some i => rfl
      | none => cases idx s m <;> simp; omega
theorem names_append (a b : List Cls) : names (a ++ b) = names a ++ names b := by simp [names]
theorem Good.next {pre : List Cls} {c : Cls} {all : List Str} (G : Good pre) (hf : fitsB pre c all = true) (h62 : c.fields.length ≤ 62) : Good (pre ++ [c]) := by
  simp only [fitsB, Bool.and_eq_true, Bool.or_eq_true, decide_eq_true_eq, Bool.not_eq_true'] at hf
  obtain ⟨⟨⟨⟨f1, f2⟩, f3⟩, f4⟩, f5⟩ := hf
  refine ⟨fun i d hd => ?_, fun d hd => ?_⟩
  · rw [names_append]
    by_cases hi : i < pre.length
    · rw [List.getElem?_append_left hi] at hd
      rcases G.1 i d hd with h | ⟨j, h1, h2⟩
      · exact .inl h
      · exact .inr ⟨j, h1, by rw [idx_append, h2]⟩
    · rw [List.getElem?_append_right (by omega)] at hd
      have hz : i - pre.length = 0 := by
        rcases Nat.eq_zero_or_pos (i - pre.length) with h | h
        · exact h
        · rw [List.getElem?_eq_none (by simp; omega)] at hd; cases hd
      rw [hz] at hd
      simp at hd; subst hd
      rcases f3 with f3 | f3
      · exact .inl f3
      · cases hx : idx c.super (names pre) with
        | none => rw [hx] at f3; cases f3
        | some j =>
          have := (idx_lt hx).1
          rw [names_length] at this
          exact .inr ⟨j, by omega, by rw [idx_append, hx]⟩
  · rcases List.mem_append.1 hd with h | h
    · exact G.2 d h
    · simp at h; subst h; exact ⟨f1, h62⟩
theorem upF_le {pre : List Cls} (G : Good pre) (s : Str) : (upF pre s).length ≤ pre.length * 62 := by
  unfold upF
  have h1 : (chain pre s).length ≤ pre.length := by
    cases hs : idx s (names pre) with
    | none => rw [chain_none hs]; simp
    | some i =>
      have := chain_length G.asc i hs
      have := (idx_lt hs).1
      rw [names_length] at this
      omega
  have h2 : ∀ c ∈ chain pre s, c.fields.length ≤ 62 := by
    intro c hc
    cases hs : idx s (names pre) with
    | none => rw [chain_none hs] at hc; cases hc
    | some i => exact (G.2 c (chain_mem G.asc i hs c hc)).2
  have h3 : ∀ (m : List Cls), (∀ c ∈ m, c.fields.length ≤ 62) → (m.flatMap Cls.fields).length ≤ m.length * 62 := by
    intro m
    induction m with
    | nil => intro _; simp
    | cons c m ih =>
      intro hm
      have a := hm c List.mem_cons_self
      have b := ih (fun d hd => hm d (List.mem_cons_of_mem _ hd))
      simp only [List.flatMap_cons, List.length_append, List.length_cons]
      omega
  have := h3 _ h2
  have : (chain pre s).length * 62 ≤ pre.length * 62 := Nat.mul_le_mul_right _ h1
  omega
end Go.Proofs.Ythifmankpcadjaa
namespace Go.Proofs.Ythifmankpcadjaa
open Go.Ab
set_option linter.unusedSimpArgs false
set_option linter.unusedVariables false
def Rows3 (h h' : AHeap) : Prop := ∀ j r, h.row j = some r → r.sz = 3 → h'.row j = some r
theorem Rows3.of_ext {h h' : AHeap} (e : Ext h h') : Rows3 h h' := fun _ _ hr _ => e.row hr
theorem Rows3.trans {a b c : AHeap} (x : Rows3 a b) (y : Rows3 b c) : Rows3 a c := fun j r hr hs => y j r (x j r hr hs) hs
theorem Rows3.put {h h' : AHeap} (x : Rows3 h h') {id : Nat} (hid : ∀ r, h.row id = some r → r.sz ≠ 3) (o : AObj) : Rows3 h (h'.put id o) := by
  intro j r hr hs
  have hne : j ≠ id := fun e => hid r (by rw [← e]; exact hr) hs
  have := x j r hr hs
  rw [AHeap.row_some] at this ⊢
  rw [AHeap.get_put, if_neg hne]; exact this
theorem _root_.Go.Ab.View.rows {h h' : AHeap} {v : AV} {es : List (List AV)} (V : View h 3 v es) (x : Rows3 h h') : View h' 3 v es := by
  rcases V with V | ⟨i', g', s', cp, ex, rr, w1, w2, w3, w4, w5⟩
  · exact .inl V
  · exact .inr ⟨i', g', s', cp, ex, rr, w1, x _ _ w2 w4, w3, w4, w5⟩
theorem _root_.Go.Ab.Own.rows {b : Nat} {h h' : AHeap} {v : AV} {es : List (List AV)} (V : Own b h 3 v es) (x : Rows3 h h') : Own b h' 3 v es := by
  rcases V with V | ⟨id, r, w1, w2, w3, w4, w5, w6, w7⟩
  · exact .inl V
  · exact .inr ⟨id, r, w1, w2, x _ _ w3 w6, w4, w5, w6, w7⟩
theorem _root_.Go.Ab.View.put' {h : AHeap} {n : Nat} {v : AV} {es : List (List AV)} (V : View h n v es) {id : Nat} (hid : ∀ i g s l c ex, v = .slc i g s l c ex → i ≠ id) (o : AObj) : View (h.put id o) n v es := by
  rcases V with V | ⟨i', g', s', cp, ex, rr, w1, w2, w3, w4, w5⟩
  · exact .inl V
  · refine .inr ⟨i', g', s', cp, ex, rr, w1, ?_, w3, w4, w5⟩
    have hne : i' ≠ id := hid _ _ _ _ _ _ w1
    rw [AHeap.row_some] at w2 ⊢
    rw [AHeap.get_put, if_neg hne]; exact w2
theorem _root_.Go.Ab.Own.row_ne {b : Nat} {h : AHeap} {v : AV} {es : List (List AV)} (O : Own b h 3 v es) {j : Nat} {o : AObj} (hj : h.get j = some o) (hne : ∀ r, o = .row r → r.sz ≠ 3) : ∀ id g s l c ex, v = .slc id g s l c ex → j ≠ id := by
  intro id g s l c ex hv hjd
  rcases O with ⟨rfl, _⟩ | ⟨id', r, w1, rfl, w3, w4, w5, w6, w7⟩
  · cases hv
  · cases hv
    subst hjd
    rw [AHeap.row_some, hj] at w3
    cases w3
    exact hne r rfl w6
theorem _root_.Go.Ab.Own.same {b : Nat} {h : AHeap} {v : AV} {es : List (List AV)} (O : Own b h 3 v es) : AV.same v v = true := by
  rcases O with ⟨rfl, _⟩ | ⟨id', r, w1, rfl, _⟩
  · rfl
  · simp [AV.same]
theorem new_fork {call : CallFn} {h : AHeap} {t v : AV} {q : Nat} {s u : Str} {g : AV} {b : Bool} {k : AV → AHeap → Bool} (V : Var h q [.str s, .str u, g]) (h0 : b = true → k (.bool true) h = true) (h1 : b = false → call (.func 25) [t, .agg [.str s, .str u, g], v] h (fun w h => optB (notA w) fun x => k x h) = true) :
    (optB (grdO (wantV (.bool b) false) (some t)) fun v16 => optB (grdO (wantV (.bool b) false) (loadA h true 3 (.ptr q 0 0 0))) fun v17 => optB (grdO (wantV (.bool b) false) (some v)) fun v18 => grdC (wantV (.bool b) false) (fun k => call (.func 25) [v16, v17, v18] h k) h fun v19 h => optB (grdO (wantV (.bool b) false) (notA v19)) fun v20 => optB (pickV (.bool b) (AV.bool true) v20) fun v21 => k v21 h) = true := by
  cases b with
  | true => exact h0 rfl
  | false =>
    have := h1 rfl
    have hl : loadA h true 3 (.ptr q 0 0 0) = some (.agg [.str s, .str u, g]) := by rw [V.load]; rfl
    simp only [wantV_false, Bool.not_false, grdO_true, optB_some, hl, grdC_true, pickV_false]
    exact this
def idxM (pre : List Cls) (s : Str) : Option AV := (idx s (names pre)).map fun i => .int .i64 (i : Int)
def VAt (b : Nat) (v : AV) : Prop := ∀ id g s l c ex, v = .slc id g s l c ex → b ≤ id
def RClsAt (b : Nat) (h : AHeap) (a : List AV) (c : Cls) : Prop := ∃ v, a = [.str c.name, .str c.super, v] ∧ View h 3 v (c.fields.map encF) ∧ VAt b v
theorem RClsAt.cls {b : Nat} {h : AHeap} {a : List AV} {c : Cls} (R : RClsAt b h a c) : RCls h a c := let ⟨v, h1, h2, _⟩ := R; ⟨v, h1, h2⟩
theorem _root_.Go.Ab.Own.at_ {b n : Nat} {h : AHeap} {v : AV} {es : List (List AV)} (O : Own b h n v es) : VAt b v := by
  intro id g s l c ex hv
  rcases O with ⟨rfl, _⟩ | ⟨id', r, w1, rfl, _⟩
  · cases hv
  · cases hv; exact w1
def TabAt (b : Nat) (h : AHeap) (t : AV) (l : List Cls) : Prop :=
  ∃ id lv mid es, t = .ptr id 0 0 0 ∧ b ≤ id ∧ b ≤ mid ∧ Var h id [lv, .map mid] ∧ View h 3 lv es ∧ VAt b lv ∧ All2 (RClsAt b h) es l ∧ StrMap h mid (fun s => (idx s (names l)).map fun i => .int .i64 (i : Int))
theorem TabAt.rep {b : Nat} {h : AHeap} {t : AV} {l : List Cls} (T : TabAt b h t l) : TableRep h t l :=
  let ⟨id, lv, mid, es, h1, _, _, h4, h5, _, h7, h8⟩ := T; ⟨id, lv, mid, h1, h4, ⟨es, h5, h7.mono fun _ _ r => r.cls⟩, h8⟩
structure NInv (h0 : AHeap) (t mid : Nat) (pre : List Cls) (h : AHeap) : Prop where
  ext : Ext h0 h
  ok : h.Ok
  v : ∃ lv es, Var h t [lv, .map mid] ∧ Own h0.sz h 3 lv es ∧ All2 (RClsAt h0.sz h) es pre
  m : StrMap h mid (idxM pre)
  lo : h0.sz ≤ t ∧ h0.sz ≤ mid ∧ t ≠ mid
theorem NInv.table {h0 h : AHeap} {t mid : Nat} {pre : List Cls} (I : NInv h0 t mid pre h) : TableRep h (.ptr t 0 0 0) pre := by
  obtain ⟨lv, es, v1, v2, v3⟩ := I.v
  exact ⟨t, lv, mid, rfl, v1, ⟨es, v2.view, v3.mono fun _ _ r => r.cls⟩, I.m⟩
theorem NInv.tabAt {h0 h : AHeap} {t mid : Nat} {pre : List Cls} (I : NInv h0 t mid pre h) : TabAt h0.sz h (.ptr t 0 0 0) pre := by
  obtain ⟨lv, es, v1, v2, v3⟩ := I.v
  exact ⟨t, lv, mid, es, rfl, I.lo.1, I.lo.2.1, v1, v2.view, v2.at_, v3, I.m⟩
theorem idxM_next {pre : List Cls} {c : Cls} (hn : (idx c.name (names pre)).isSome = false) : (fun s => if s = c.name then some (AV.int .i64 (pre.length : Int)) else idxM pre s) = idxM (pre ++ [c]) := by
  funext s
  unfold idxM
  rw [names_append, idx_append]
  by_cases h : s = c.name
  · subst h
    cases hx : idx c.name (names pre) with
    | none => simp [names, idx]
    | some i => rw [hx] at hn; cases hn
  · have h' : ¬ c.name = s := fun e => h e.symm
    cases hx : idx s (names pre) with
    | none => simp [names, idx, h, h']
    | some i => simp [h]
theorem cls_fill (a b : Str) (f : AV) (hf : f.leaf = true) : fillRowV 3 (repl 1 [AV.str [], AV.str [], AV.nilSlc]) [(0, AV.agg [AV.str a, AV.str b, f])] = some [[AV.str a, AV.str b, f]] := by
  have hc : (AV.agg [AV.str a, AV.str b, f]).cells = [AV.str a, AV.str b, f] := rfl
  have e := leaf3 (a := a) (b := b) hf
  simp only [fillRowV, e, hc]
  rw [hc] at e
  simp only [e]
  rfl
def q11 (call : CallFn) (n : Nat) (B : AV → AHeap → Bool) (x4 v10 x15 : AV) (h : AHeap) : Bool :=
  optB (nilckA x4) fun v22 => optB (fadrA 1 v22) fun v23 => optB (loadA h false 1 v23) fun v24 => optB (fadrA 0 v10) fun v25 => optB (loadA h false 1 v25) fun v26 => optB (nilckA x4) fun v27 => optB (fadrA 0 v27) fun v28 => optB (loadA h false 1 v28) fun v29 => optB (lenA h 1 v29) fun v30 => optP (unit (mupdA h (.leaf .str) v24 v26 v30)) fun _ h => optB (fadrA 2 v10) fun v32 => optB (loadA h false 1 v32) fun v33 => call (.func 26) [v33] h fun v34 h => optB (fadrA 2 v10) fun v35 => optP (unit (storeA h 1 v35 v34)) fun _ h => optB (nilckA x4) fun v37 => optB (fadrA 0 v37) fun v38 => optB (loadA h false 1 v38) fun v39 => optB (loadA h true 3 v10) fun v40 => optP (bsliceV h 1 3 [.str [], .str [], .nilSlc] [(0, v40)]) fun v41 h => sameB (loadA h false 1 v38) v39 <| optP (appendA h 3 56 v39 v41) fun v42 h => optB (nilckA x4) fun v43 => optB (fadrA 0 v43) fun v44 => optP (unit (storeA h 1 v44 v42)) fun _ h => optB (binA .add x15 (.int .i64 1)) fun v46 => B v46 h
theorem q11_ok {n i : Nat} {h0 h h2 : AHeap} {t mid q : Nat} {pre : List Cls} {c : Cls} {f : AV} {B : AV → AHeap → Bool} (k0 : h0.Ok) (I : NInv h0 t mid pre h) (e : Ext h h2) (o2 : h2.Ok) (hq : h.sz ≤ q) (Vq : Var h2 q [.str c.name, .str c.super, f]) (Vf : View h2 3 f (c.fields.map encF))
    (hn : (idx c.name (names pre)).isSome = false) (h64 : pre.length < 64) (h62 : c.fields.length ≤ 62) (hi : i < lim)
    (k : ∀ h', NInv h0 t mid (pre ++ [c]) h' → B (.int .i64 ((i + 1 : Nat) : Int)) h' = true) : q11 (callN E (n + 1)) n B (.ptr t 0 0 0) (.ptr q 0 0 0) (.int .i64 (i : Int)) h2 = true := by
  obtain ⟨lv, es, v1, v2, v3⟩ := I.v
  obtain ⟨lo1, lo2, lo3⟩ := I.lo
  have tlt : t < h.sz := v1.lt I.ok
  have mlt : mid < h.sz := I.m.lt I.ok
  have qlt : q < h2.sz := Vq.lt o2
  have hsz := e.1
  have hlen : es.length = pre.length := v3.length
  have V1 := v1.ext e
  have O2 := v2.rows (Rows3.of_ext e)
  have M2 := I.m.ext e
  unfold q11
  simp only [nilckA_ptr, fadrA_ptr, optB_some, Nat.zero_add, partA_false, nth_succ, nth_zero, V1.load, Vq.load, O2.view.len]
  obtain ⟨ob, u1, u2⟩ := M2.upd c.name (.int .i64 (es.length : Int))
  rw [hlen] at u1 u2
  rw [hlen, u1]
  rw [idxM_next hn] at u2
  have r3 : Rows3 h (h2.put mid ob) := by
    refine (Rows3.of_ext e).put ?_ ob
    intro r hr
    obtain ⟨es', cc, m1, _⟩ := I.m
    rw [AHeap.row_some, m1] at hr; cases hr
  have r23 : Rows3 h2 (h2.put mid ob) := by
    refine (Rows3.of_ext (Ext.refl h2)).put ?_ ob
    intro r hr
    obtain ⟨es', cc, m1, _⟩ := M2
    rw [AHeap.row_some, m1] at hr; cases hr
  have Vq3 := Vq.other (j := mid) (by omega) ob
  have V13 := V1.other (j := mid) lo3 ob
  have Vf3 := Vf.rows r23
  have E3 : Ext h0 (h2.put mid ob) := ext_put (I.ext.trans e) k0 lo2 ob
  have o3 : (h2.put mid ob).Ok := o2.put (by omega) ob
  have s3 : (h2.put mid ob).sz = h2.sz := by simp
  generalize h2.put mid ob = h3 at *
  simp only [unit, Option.map_some, optP_some, nilckA_ptr, fadrA_ptr, optB_some, Nat.zero_add, partA_false, nth_succ, nth_zero, Vq3.load]
  refine u31 o3 Vf3 (by rw [List.length_map]; omega) ?_
  intro h4 v34 e4 o4 V34 hfresh
  have Vq4 := Vq3.ext e4
  have V14 := V13.ext e4
  have M4 := u2.ext e4
  rw [Vq4.set1 (by simp) V34.leaf]
  simp only [unit, Option.map_some, optP_some]
  have r4 : Rows3 h (h4.put q (.row (VRow ([AV.str c.name, AV.str c.super, f].set 2 v34)))) := by
    refine (r3.trans (Rows3.of_ext e4)).put ?_ _
    intro r hr
    have := I.ok.lt (AHeap.row_some.1 hr)
    omega
  have Vq5 := var_put (h := h4) q ([AV.str c.name, AV.str c.super, f].set 2 v34)
  have V15 := V14.other (j := q) (by omega) (.row (VRow ([AV.str c.name, AV.str c.super, f].set 2 v34)))
  have M5 := M4.other (j := q) (by omega) (.row (VRow ([AV.str c.name, AV.str c.super, f].set 2 v34)))
  have hlo0 := I.ext.1
  have E5 : Ext h0 (h4.put q (.row (VRow ([AV.str c.name, AV.str c.super, f].set 2 v34)))) := ext_put (E3.trans e4) k0 (by omega) _
  have hlo4 := e4.1
  have o5 : (h4.put q (.row (VRow ([AV.str c.name, AV.str c.super, f].set 2 v34)))).Ok := o4.put (by omega) _
  have V35 := V34.put' (id := q) (by intro i g s l c ex hv; have := hfresh i g s l c ex hv; omega) (.row (VRow ([AV.str c.name, AV.str c.super, f].set 2 v34)))
  have O5 := v2.rows r4
  have A5 : All2 (RClsAt h0.sz (h4.put q (.row (VRow ([AV.str c.name, AV.str c.super, f].set 2 v34))))) es pre := v3.mono fun _ _ ⟨v, a1, a2, a3⟩ => ⟨v, a1, a2.rows r4, a3⟩
  have s5 : (h4.put q (.row (VRow ([AV.str c.name, AV.str c.super, f].set 2 v34)))).sz = h4.sz := by simp
  generalize h4.put q (.row (VRow ([AV.str c.name, AV.str c.super, f].set 2 v34))) = h5 at *
  have hl40 : loadA h5 true 3 (.ptr q 0 0 0) = some (.agg [.str c.name, .str c.super, v34]) := by rw [Vq5.load]; rfl
  simp only [V15.load, hl40, nilckA_ptr, fadrA_ptr, optB_some, Nat.zero_add, partA_false, nth_succ, nth_zero]
  obtain ⟨v41, b1, b2⟩ := bslice_view (h := h5) (n := 1) (sz := 3) (z := [AV.str [], AV.str [], AV.nilSlc]) rfl (by decide) (by decide) rfl (cls_fill c.name c.super v34 V34.leaf) rfl
  rw [b1, optP_some]
  have e6 := ext_newRow o5 [[AV.str c.name, AV.str c.super, v34]] 3
  have o6 := ok_newRow o5 [[AV.str c.name, AV.str c.super, v34]] 3
  have s6 : (Ab.newRow h5 [[AV.str c.name, AV.str c.super, v34]] 3).sz = h5.sz + 1 := rfl
  generalize Ab.newRow h5 [[AV.str c.name, AV.str c.super, v34]] 3 = h6 at *
  have V16 := V15.ext e6
  have O6 := O5.rows (Rows3.of_ext e6)
  have M6 := M5.ext e6
  have A6 : All2 (RClsAt h0.sz h6) es pre := A5.mono fun _ _ ⟨v, a1, a2, a3⟩ => ⟨v, a1, a2.ext e6, a3⟩
  have V36 := V35.ext e6
  have hs : sameB (loadA h6 false 1 (.ptr t 0 0 0)) lv = fun r => r := by
    funext r
    rw [V16.load, partA_false, nth_zero]
    simp only [sameB, O6.same, cond_true]
  rw [hs]
  obtain ⟨v42, h7, a1, a2, a3, a4, a5, a6, a7⟩ := O6.app (bytes := 56) (by decide) (by have := E5.1; omega) o6 k0 (E5.trans e6) (Nat.le_refl _) b2.src (by simp; unfold most; omega) (by simp; unfold most; omega)
  rw [a1, optP_some]
  have V17 : Var h7 t [lv, .map mid] := by
    have V16' : h6.row t = some (VRow [lv, .map mid]) := V16
    show h7.row t = some _
    rw [AHeap.row_some] at V16' ⊢
    refine a6 _ _ V16' (O6.row_ne V16' ?_)
    intro r hr; cases hr; simp [VRow]
  have M7 : StrMap h7 mid (idxM (pre ++ [c])) := by
    obtain ⟨es', cc, m1, m2⟩ := M6
    refine ⟨es', cc, a6 _ _ m1 (O6.row_ne m1 ?_), m2⟩
    intro r hr; cases hr
  rw [V17.set1 (by simp) a2.view.leaf]
  simp only [unit, Option.map_some, optP_some]
  rw [inc64 hi, optB_some]
  have hne : ∀ r, h7.row t = some r → r.sz ≠ 3 := by
    intro r hr
    have V17' : h7.row t = some (VRow [lv, .map mid]) := V17
    rw [V17'] at hr; cases hr; simp [VRow]
  have r8 : Rows3 h7 (h7.put t (.row (VRow ([lv, AV.map mid].set 0 v42)))) := (Rows3.of_ext (Ext.refl h7)).put hne _
  refine k _ ⟨ext_put a4 k0 lo1 _, a3.put (V17.lt a3) _, ⟨v42, es ++ [[.str c.name, .str c.super, v34]], var_put _ _, a2.rows r8, ?_⟩, M7.other (Ne.symm lo3) _, lo1, lo2, lo3⟩
  refine All2.append ?_ (.cons ⟨v34, rfl, (a7 _ _ _ V36).rows r8, ?_⟩ .nil)
  · exact A6.mono fun _ _ ⟨v, b1, b2, b3⟩ => ⟨v, b1, (a7 _ _ _ b2).rows r8, b3⟩
  · intro i g s l c ex hv; have := hfresh i g s l c ex hv; have := E3.1; omega
theorem take_next {l : List Cls} {i : Nat} (hlt : i < l.length) : l.take (i + 1) = l.take i ++ [l[i]] := by
  rw [List.take_add_one, List.getElem?_eq_getElem hlt]; rfl
structure Room (n : Nat) (l : List Cls) : Prop where
  big : 5000 < n
  top : n + 10 < lim
  name : ∀ c ∈ l, c.name.length ≤ n ∧ ∀ f ∈ c.fields, f.name.length ≤ n
theorem l11 {n : Nat} {h0 : AHeap} {va : AV} {l : List Cls} {t mid : Nat} {K : Kont} (k0 : h0.Ok) (C : CV h0 va l) (h64 : l.length ≤ 64) (R : Room n l)
    (kbad : validGo (names l) [] l = false → ∀ h', Ext h0 h' → h'.Ok → K (.tup [.nilPtr, .int .i64 10]) h' = true)
    (kgood : validGo (names l) [] l = true → Good l → ∀ h', Ext h0 h' → h'.Ok → TabAt h0.sz h' (.ptr t 0 0 0) l → K (.tup [.ptr t 0 0 0, .int .i64 0]) h' = true) :
    ∀ (m i : Nat) (h : AHeap), NInv h0 t mid (l.take i) h → Good (l.take i) → validGo (names l) [] l = validGo (names l) (l.take i) (l.drop i) → i ≤ l.length → l.length - i < m →
      l8_16 (callN E (n + 5)) (n + 5) m va (.ptr t 0 0 0) va (.int .i64 (l.length : Int)) (.int .i64 (i : Int)) h K = true := by
  intro m
  induction m with
  | zero => intro i h _ _ _ _ hm; omega
  | succ m ih =>
    intro i h I G hv hi hm
    have hR := R.big
    have hL := R.top
    rw [l8_16_s]
    unfold b8_16
    rw [binA_lss, optB_some]
    by_cases hlt : i < l.length
    · have hd : l.drop i = l[i] :: l.drop (i + 1) := List.drop_eq_getElem_cons hlt
      have hpl : (l.take i).length = i := by simp; omega
      obtain ⟨id, g, j, f, p1, p2, p3, p4, p5, p6⟩ := (C.ext I.ext).at (List.getElem?_eq_getElem hlt)
      obtain ⟨hr1, hr2⟩ := R.name _ (List.getElem_mem hlt)
      rw [hd] at hv
      have hnx := take_next hlt
      generalize l[i] = c at *
      rw [condB_t (by simpa using hlt), p1, optB_some, p2, optB_some, alloc_set (n := 3) rfl (by decide) rfl rfl (leaf3 p6.leaf)]
      have e1 := ext_newRow I.ok [[AV.str c.name, AV.str c.super, f]] 3
      have o1 := ok_newRow I.ok [[AV.str c.name, AV.str c.super, f]] 3
      have V1 := var_new h [AV.str c.name, AV.str c.super, f]
      have hc : (AV.agg [AV.str c.name, AV.str c.super, f]).cells = [AV.str c.name, AV.str c.super, f] := rfl
      rw [hc]
      simp only [List.length_cons, List.length_nil, Nat.zero_add] at V1
      generalize Ab.newRow h [[AV.str c.name, AV.str c.super, f]] 3 = h1 at *
      have P1 := p6.ext e1
      have hU := upF_le G c.super
      rw [hpl] at hU
      have hUU : i * 62 ≤ 64 * 62 := Nat.mul_le_mul_right _ (by omega)
      have bad : validGo (names l) [] l = false → ∀ h', Ext h1 h' → h'.Ok → K (.tup [.nilPtr, .int .i64 10]) h' = true := fun hb h' e o => kbad hb h' ((I.ext.trans e1).trans e) o
      rw [fadrA_ptr, optB_some, V1.load, Nat.zero_add, partA_false, nth_succ, nth_succ, nth_zero, optB_some, P1.len, optB_some, binA_gtr, optB_some, List.length_map]
      refine new_fork V1 ?_ ?_
      · intro hb
        rw [condB_true]
        refine bad ?_ h1 (Ext.refl h1) o1
        rw [hv]
        have : ¬ c.fields.length ≤ 62 := by simp at hb; omega
        simp only [validGo, decide_eq_false this, Bool.false_and]
      · intro hb
        have h62 : c.fields.length ≤ 62 := by simp at hb; omega
        refine u30 (I.table.ext e1) G.asc o1 (C.ext (I.ext.trans e1)) P1 (by omega) (by omega) (by omega) (by omega) (by omega) (by omega) (by omega) (fun x hx => hr2 x hx) ?_
        intro h2 e2 o2
        rw [notA_bool, optB_some]
        cases hfit : fitsB (l.take i) c (names l) with
        | false =>
          rw [Bool.not_false, condB_true]
          exact bad (by rw [hv]; simp only [validGo, hfit, Bool.and_false, Bool.false_and]) h2 e2 o2
        | true =>
          rw [Bool.not_true, condB_false]
          have hno : (idx c.name (names (l.take i))).isSome = false := by
            have := hfit
            simp only [fitsB, Bool.and_eq_true, Bool.not_eq_true'] at this
            exact this.1.1.1.2
          refine q11_ok (B := fun v46 h => l8_16 (callN E (n + 5)) (n + 5) m va (.ptr t 0 0 0) va (.int .i64 (l.length : Int)) v46 h K) k0 I (e1.trans e2) o2 (Nat.le_refl _) (V1.ext e2) (P1.ext e2) hno (by omega) h62 (by omega) ?_
          intro h3 I3
          rw [← hnx] at I3
          refine ih (i + 1) h3 I3 (by rw [hnx]; exact G.next hfit h62) ?_ (by omega) (by omega)
          rw [hv, hnx]
          simp only [validGo, hfit, decide_eq_true h62, Bool.true_and]
    · have hd : l.drop i = [] := List.drop_of_length_le (by omega)
      have ht : l.take i = l := List.take_of_length_le (by omega)
      rw [hd] at hv
      rw [ht] at I G
      rw [condB_f (by simpa using hlt)]
      exact kgood (by rw [hv]; rfl) G h I.ext I.ok I.tabAt
theorem u11o {n : Nat} {h : AHeap} {va : AV} {l : List Cls} {K : Kont} (ho : h.Ok) (C : CV h va l) (R : Room n l)
    (kbad : valid l = false → ∀ h', Ext h h' → h'.Ok → K (.tup [.nilPtr, .int .i64 10]) h' = true)
    (kgood : valid l = true → Good l → ∀ h' t, Ext h h' → h'.Ok → TabAt h.sz h' t l → K (.tup [t, .int .i64 0]) h' = true) : callN E (n + 6) (.func 8) [va] h K = true := by
  have hR := R.big
  have hL := R.top
  apply d8
  unfold s8
  obtain ⟨m1, m2⟩ := strMap_new h
  rw [m1, optP_some]
  have e1 := ext_push ho (.map [] 0)
  have o1 := ho.push (.map [] 0)
  have s1 : (h.push (.map [] 0)).sz = h.sz + 1 := by simp
  generalize h.push (.map [] 0) = h1 at *
  have hb : buildV [AV.nilSlc, AV.nilMap] [(1, 1, AV.map h.sz)] = some (.agg [.nilSlc, .map h.sz]) := rfl
  rw [hb, optB_some, box_eq (n := 2) rfl (by decide) rfl, optP_some]
  have hc : (AV.agg [AV.nilSlc, AV.map h.sz]).cells = [AV.nilSlc, AV.map h.sz] := rfl
  rw [hc, s1]
  have e2 := ext_newRow o1 [[AV.nilSlc, AV.map h.sz]] 2
  have o2 := ok_newRow o1 [[AV.nilSlc, AV.map h.sz]] 2
  have V2 := var_new h1 [AV.nilSlc, AV.map h.sz]
  simp only [List.length_cons, List.length_nil, Nat.zero_add, s1] at V2
  generalize Ab.newRow h1 [[AV.nilSlc, AV.map h.sz]] 2 = h2 at *
  rw [(C.ext (e1.trans e2)).len, optB_some, binA_gtr, optB_some]
  by_cases h64 : l.length ≤ 64
  · have hva : valid l = validGo (names l) [] l := by simp only [valid, decide_eq_true h64, Bool.true_and]
    rw [condB_f (by simp; omega)]
    unfold p8_12
    rw [(C.ext (e1.trans e2)).len, optB_some]
    refine l11 (h0 := h) (mid := h.sz) (t := h.sz + 1) ho C h64 R ?_ ?_ (n + 5) 0 h2 ?_ ?_ rfl (by omega) (by omega)
    · intro hb h' e o; exact kbad (by rw [hva]; exact hb) h' e o
    · intro hg G h' e o T; exact kgood (by rw [hva]; exact hg) G h' _ e o T
    · refine ⟨e1.trans e2, o2, ⟨.nilSlc, [], V2, Own.nil _ _ _, .nil⟩, ?_, by omega⟩
      have := m2.ext e2
      have he : idxM [] = fun _ => none := by funext s; rfl
      show StrMap h2 h.sz (idxM [])
      rw [he]; exact this
    · exact ⟨fun i c hc => by simp at hc, fun c hc => by simp at hc⟩
  · have hva : valid l = false := by simp only [valid, decide_eq_false h64, Bool.false_and]
    rw [condB_t (by simp; omega)]
    exact kbad hva h2 (e1.trans e2) o2
theorem u11 {n : Nat} {h : AHeap} {va : AV} {l : List Cls} {K : Kont} (ho : h.Ok) (C : CV h va l) (R : Room n l)
    (kbad : valid l = false → ∀ h', Ext h h' → h'.Ok → K (.tup [.nilPtr, .int .i64 10]) h' = true)
    (kgood : valid l = true → Good l → ∀ h' t, Ext h h' → h'.Ok → TableRep h' t l → K (.tup [t, .int .i64 0]) h' = true) : callN E (n + 6) (.func 8) [va] h K = true :=
  u11o ho C R kbad fun hv G h' t e o T => kgood hv G h' t e o T.rep
end Go.Proofs.Ythifmankpcadjaa
namespace Go.Proofs.Ythifmankpcadjaa
open Go.Ab
set_option linter.unusedSimpArgs false
set_option linter.unusedVariables false
theorem sm_str (s : Str) (r : Bool) : sameB (some (.str s)) (.str s) r = r := by simp [sameB, AV.same, leqb_dec]
theorem sm_ptr (a b c d : Nat) (r : Bool) : sameB (some (.ptr a b c d)) (.ptr a b c d) r = r := by simp [sameB, AV.same]
theorem sm_int (k : IntKind) (n : Int) (r : Bool) : sameB (some (.int k n)) (.int k n) r = r := by simp [sameB, AV.same, ieqb_dec]
theorem u40 : ∀ (k n : Nat) {h : AHeap} {v : AV} {l : List Val} {deep : Int} {K : Kont}, VV h v l → deep + (k : Int) = 101 → k ≤ 101 → szVs l + k ≤ n → n < lim → (∀ x, K (.int .i64 x) h = true) → callN E (n + 1) (.func 48) [v, .int .i64 deep] h K = true := by
  intro k
  induction k with
  | zero =>
    intro n h v l deep K V hd hk hn hL kk
    apply d48
    unfold s48
    rw [binA_gtr, optB_some, condB_t (decide_eq_true (by omega))]
    exact kk _
  | succ k ih =>
    intro n h v l deep K V hd hk hn hL kk
    apply d48
    unfold s48
    rw [binA_gtr, optB_some, condB_f (decide_eq_false (by omega))]
    unfold p48_10
    obtain ⟨n, rfl⟩ : ∃ j, n = j + 1 := ⟨n - 1, by omega⟩
    have hlen : l.length ≤ szVs l := by rw [szVs_eq]; exact szL_length (fun v => by cases v; simp only [szV]; omega) l
    have loop : ∀ (m i : Nat) (x : Int), i ≤ l.length → l.length - i < m → l48_16 (callN E (n + 1)) (n + 1) m v (.int .i64 deep) (.int .i64 x) (.int .i64 (i : Int)) h K = true := by
      intro m
      induction m with
      | zero => intro i x _ hm; omega
      | succ m ihm =>
        intro i x hi hm
        rw [l48_16_s]
        unfold b48_16
        rw [V.len, optB_some, binA_lss, optB_some]
        by_cases hlt : i < l.length
        · have hci := List.getElem?_eq_getElem hlt
          obtain ⟨id, g, j, e, p1, p2, R⟩ := V.at hci
          have hmem := List.getElem_mem hlt
          obtain ⟨kk', b, nn, t, ll, hv⟩ : ∃ kk' b nn t ll, l[i] = Val.mk kk' b nn t ll := by cases h : l[i]; exact ⟨_, _, _, _, _, rfl⟩
          rw [hv] at R hmem
          obtain ⟨lv, rfl, VL, _⟩ := R.cells
          have hsz : szV (Val.mk kk' b nn t ll) ≤ szVs l := by rw [szVs_eq]; exact szL_mem hmem
          simp only [szV] at hsz
          have q3 : loadA h false 1 (.ptr id g j 3) = some (.str t) := by rw [p2]; rfl
          have q4 : loadA h false 1 (.ptr id g j 4) = some lv := by rw [p2]; rfl
          have hq : ∃ y, binA .quo (.int .i64 (t.length : Int)) (.int .i64 64) = some (.int .i64 y) := by rw [binA_ints _ _ _ _ rfl]; exact ⟨_, rfl⟩
          obtain ⟨y, hq⟩ := hq
          rw [condB_t (by simpa using hlt), binA_add, optB_some, p1, optB_some, fadrA_ptr, optB_some, Nat.zero_add, q3, optB_some, lenA_str, optB_some, hq, optB_some, binA_add, optB_some, optB_some, fadrA_ptr, optB_some, Nat.zero_add, q4, optB_some, add64 (by omega) (by omega), optB_some]
          refine ih n VL (by omega) (by omega) (by omega) (by omega) ?_
          intro z
          rw [p1, sm_ptr, q3, sm_str, lenA_str, sm_int, binA_add, optB_some, inc64 (by omega), optB_some]
          exact ihm (i + 1) _ (by omega) (by omega)
        · rw [condB_f (by simpa using hlt)]
          exact kk x
    exact loop (n + 1) 0 0 (Nat.zero_le _) (by omega)
theorem u24 {n : Nat} {h : AHeap} {v : AV} {l : List Val} {K : Kont} (V : VV h v l) (hn : szVs l + 101 ≤ n) (hL : n < lim) (k : ∀ x, K (.int .i64 x) h = true) : callN E (n + 2) (.func 24) [v] h K = true := by
  apply d24
  unfold s24
  exact u40 101 n V (by omega) (Nat.le_refl _) hn hL k
def leafOk (kind : Int) (b : Bool) (n : Int) (t : Str) (len : Nat) : Bool :=
  if kind = 0 then !b && decide (n = 0) && decide (t = []) && decide (len = 0)
  else if kind = 1 then decide (n = 0) && decide (t = []) && decide (len = 0)
  else if kind = 2 then !b && decide (t = []) && decide (len = 0)
  else if kind = 3 then !b && decide (n = 0) && decide (len = 0) && decide (t.length ≤ 65536)
  else if kind = 5 then !b && decide (t = []) && decide (len = 0) && decide (1 ≤ n)
  else false
def ckV : Nat → Val → Bool
  | 0 => fun v => match v with | .mk kind b n t l => leafOk kind b n t l.length
  | k + 1 => fun v => match v with
    | .mk kind b n t l => if kind = 4 then !b && decide (n = 0) && decide (t = []) && decide (l.length ≤ 4096) && l.all (ckV k) else leafOk kind b n t l.length
theorem eqV_b (h : AHeap) (a b : Bool) : eqV h false .bool (.bool a) (.bool b) = some (.bool (a == b)) := rfl
theorem and_ll {h : AHeap} {c r : Bool} {p q a b : AV} {op : BinOp} {k : AV → Bool} (ha : loadA h false 1 p = some a) (hb : loadA h false 1 q = some b) (hr : binA op a b = some (.bool r)) :
    (optB (grdO (wantV (.bool c) true) (some p)) fun v15 => optB (grdO (wantV (.bool c) true) (loadA h false 1 v15)) fun v16 => optB (grdO (wantV (.bool c) true) (some q)) fun v17 => optB (grdO (wantV (.bool c) true) (loadA h false 1 v17)) fun v18 => optB (grdO (wantV (.bool c) true) (binA op v16 v18)) fun v19 => optB (pickV (.bool c) v19 (.bool false)) fun v20 => k v20) = k (.bool (c && r)) := by
  cases c with
  | false => rfl
  | true => simp only [wantV_true, grdO_true, optB_some, ha, hb, hr, pickV_true, Bool.true_and]
theorem and_len {h : AHeap} {c : Bool} {p : AV} {t : Str} {k : AV → Bool} (ha : loadA h false 1 p = some (.str t)) :
    (optB (grdO (wantV (.bool c) true) (some p)) fun v27 => optB (grdO (wantV (.bool c) true) (loadA h false 1 v27)) fun v28 => optB (grdO (wantV (.bool c) true) (lenA h 0 v28)) fun v29 => optB (grdO (wantV (.bool c) true) (binA .leq v29 (.int .i64 65536))) fun v30 => optB (pickV (.bool c) v30 (.bool false)) fun v31 => k v31) = k (.bool (c && decide (t.length ≤ 65536))) := by
  have e1 : decide ((t.length : Int) ≤ 65536) = decide (t.length ≤ 65536) := by congr 1; apply propext; omega
  cases c with
  | false => rfl
  | true => simp only [wantV_true, grdO_true, optB_some, ha, lenA_str, binA_leq, e1, pickV_true, Bool.true_and]
theorem and_end {h : AHeap} {c : Bool} {p q lv : AV} {len : Nat} {kind : Int} {k : AV → Bool} (ha : loadA h false 1 p = some lv) (L : lenA h 1 lv = some (.int .i64 (len : Int))) (hb : loadA h false 1 q = some (.int .i64 kind)) :
    (optB (grdO (wantV (.bool c) true) (some p)) fun v32 => optB (grdO (wantV (.bool c) true) (loadA h false 1 v32)) fun v33 => optB (grdO (wantV (.bool c) true) (lenA h 1 v33)) fun v34 => optB (grdO (wantV (.bool c) true) (binA .eql v34 (.int .i64 0))) fun v35 => optB (grdO (wantV (.bool c) true) (some v35)) fun v36 => optB (grdO (wantV v36 false) (some q)) fun v37 => optB (grdO (wantV v36 false) (loadA h false 1 v37)) fun v38 => optB (grdO (wantV v36 false) (binA .eql v38 (.int .i64 4))) fun v39 => optB (grdO (wantV (.bool c) true) (pickV v36 (.bool true) v39)) fun v40 => optB (pickV (.bool c) v40 (.bool false)) fun v41 => k v41) = k (.bool (c && (decide (len = 0) || decide (kind = 4)))) := by
  have e2 : decide ((len : Int) = 0) = decide (len = 0) := by congr 1; apply propext; omega
  cases c with
  | false => rfl
  | true =>
    rw [wantV_true, grdO_true, optB_some, grdO_true, ha, optB_some, grdO_true, L, optB_some, grdO_true, binA_eql, e2, optB_some, grdO_true, optB_some]
    cases hd : decide (len = 0) with
    | true => rfl
    | false => simp only [wantV_false, Bool.not_false, grdO_true, optB_some, hb, binA_eql, pickV_false, pickV_true, Bool.true_and, Bool.false_or]
theorem t64 {n p q len : Nat} {h : AHeap} {kind x x' : Int} {b b' : Bool} {t t' : Str} {lv k0 l0 : AV} {K : Kont} {call : CallFn} (V : Var h p [.int .i64 kind, .bool b, .int .i64 x, .str t, lv]) (Q : Var h q [k0, .bool b', .int .i64 x', .str t', l0]) (L : lenA h 1 lv = some (.int .i64 (len : Int))) :
    p64_64 call n (.ptr p 0 0 0) (.ptr q 0 0 0) h K = K (.bool ((b == b') && decide (x = x') && decide (t = t') && decide (t.length ≤ 65536) && (decide (len = 0) || decide (kind = 4)))) h := by
  unfold p64_64
  have e : ∀ o, fadrA o (.ptr p 0 0 0) = some (.ptr p 0 0 o) := fun o => by rw [fadrA_ptr, Nat.zero_add]
  have e' : ∀ o, fadrA o (.ptr q 0 0 0) = some (.ptr q 0 0 o) := fun o => by rw [fadrA_ptr, Nat.zero_add]
  rw [e, optB_some, V.load, partA_false, nth_succ, nth_zero, optB_some, e', optB_some, Q.load, partA_false, nth_succ, nth_zero, optB_some, eqV_b, optB_some, e, e',
    and_ll (a := .int .i64 x) (b := .int .i64 x') (r := decide (x = x')) (by rw [V.load]; rfl) (by rw [Q.load]; rfl) (binA_eql _ _ _), e, e',
    and_ll (a := .str t) (b := .str t') (r := decide (t = t')) (by rw [V.load]; rfl) (by rw [Q.load]; rfl) (binA_seql _ _),
    and_len (t := t) (by rw [V.load]; rfl), e, e, and_end (lv := lv) (len := len) (kind := kind) (by rw [V.load]; rfl) L (by rw [V.load]; rfl)]
end Go.Proofs.Ythifmankpcadjaa
namespace Go.Proofs.Ythifmankpcadjaa
open Go.Ab
set_option linter.unusedSimpArgs false
set_option linter.unusedVariables false
theorem ckV_leaf {k : Nat} {kind : Int} {b : Bool} {n : Int} {t : Str} {l : List Val} (h : kind ≠ 4) : ckV k (.mk kind b n t l) = leafOk kind b n t l.length := by
  cases k with
  | zero => rfl
  | succ k => simp only [ckV, if_neg h]
theorem ckV_list {k : Nat} {b : Bool} {n : Int} {t : Str} {l : List Val} : ckV (k + 1) (.mk 4 b n t l) = (!b && decide (n = 0) && decide (t = []) && decide (l.length ≤ 4096) && l.all (ckV k)) := by
  simp only [ckV, if_pos]
theorem or_deep {h : AHeap} {p lv : AV} {len : Nat} {deep : Int} {k : AV → Bool} (ha : loadA h false 1 p = some lv) (L : lenA h 1 lv = some (.int .i64 (len : Int))) :
    (optB (binA .geq (.int .i64 deep) (.int .i64 30)) fun v64 => optB (grdO (wantV v64 false) (some p)) fun v65 => optB (grdO (wantV v64 false) (loadA h false 1 v65)) fun v66 => optB (grdO (wantV v64 false) (lenA h 1 v66)) fun v67 => optB (grdO (wantV v64 false) (binA .gtr v67 (.int .i64 4096))) fun v68 => optB (pickV v64 (.bool true) v68) fun v69 => k v69) = k (.bool (decide (30 ≤ deep) || decide (4096 < len))) := by
  have e : decide ((4096 : Int) < (len : Int)) = decide (4096 < len) := by congr 1; apply propext; omega
  rw [binA_geq, optB_some]
  cases hd : decide (30 ≤ deep) with
  | true => rfl
  | false => simp only [wantV_false, Bool.not_false, grdO_true, optB_some, ha, L, binA_gtr, e, pickV_false, Bool.false_or]
theorem leaf5 {a b c d e : AV} (ha : a.leaf = true) (hb : b.leaf = true) (hc : c.leaf = true) (hd : d.leaf = true) (he : e.leaf = true) : (AV.agg [a, b, c, d, e]).cells = [a, b, c, d, e] ∧ allLeaf [a, b, c, d, e] = true := by
  refine ⟨rfl, ?_⟩
  show (bif a.leaf then (bif b.leaf then (bif c.leaf then (bif d.leaf then (bif e.leaf then true else false) else false) else false) else false) else false) = true
  rw [ha, hb, hc, hd, he]; rfl
theorem leafOk0 {b : Bool} {x : Int} {t : Str} {len : Nat} : (((b == false) && decide (x = 0) && decide (t = []) && decide (t.length ≤ 65536) && (decide (len = 0) || decide ((0 : Int) = 4)))) = leafOk 0 b x t len := by
  by_cases ht : t = []
  · subst ht; cases b <;> simp [leafOk]
  · cases b <;> simp [leafOk, ht]
theorem leafOk1 {b : Bool} {x : Int} {t : Str} {len : Nat} : (((b == b) && decide (x = 0) && decide (t = []) && decide (t.length ≤ 65536) && (decide (len = 0) || decide ((1 : Int) = 4)))) = leafOk 1 b x t len := by
  by_cases ht : t = []
  · subst ht; cases b <;> simp [leafOk]
  · cases b <;> simp [leafOk, ht]
theorem leafOk2 {b : Bool} {x : Int} {t : Str} {len : Nat} : (((b == false) && decide (x = x) && decide (t = []) && decide (t.length ≤ 65536) && (decide (len = 0) || decide ((2 : Int) = 4)))) = leafOk 2 b x t len := by
  by_cases ht : t = []
  · subst ht; cases b <;> simp [leafOk]
  · cases b <;> simp [leafOk, ht]
theorem leafOk3 {b : Bool} {x : Int} {t : Str} {len : Nat} : (((b == false) && decide (x = 0) && decide (t = t) && decide (t.length ≤ 65536) && (decide (len = 0) || decide ((3 : Int) = 4)))) = leafOk 3 b x t len := by
  cases b <;> simp [leafOk, Bool.and_comm, Bool.and_assoc, Bool.and_left_comm]
theorem leafOk5 {b : Bool} {x : Int} {t : Str} {len : Nat} : (((b == false) && decide (x = if x < 1 then 1 else x) && decide (t = []) && decide (t.length ≤ 65536) && (decide (len = 0) || decide ((5 : Int) = 4)))) = leafOk 5 b x t len := by
  have e : decide (x = if x < 1 then 1 else x) = decide (1 ≤ x) := by
    congr 1; apply propext
    by_cases h : x < 1
    · rw [if_pos h]; omega
    · rw [if_neg h]; omega
  rw [e]
  by_cases ht : t = []
  · subst ht; cases b <;> simp [leafOk, Bool.and_comm]
  · cases b <;> simp [leafOk, ht]
theorem leafOk_else {kind : Int} {b : Bool} {x : Int} {t : Str} {len : Nat} (h0 : kind ≠ 0) (h1 : kind ≠ 1) (h2 : kind ≠ 2) (h3 : kind ≠ 3) (h5 : kind ≠ 5) : leafOk kind b x t len = false := by
  simp only [leafOk, if_neg h0, if_neg h1, if_neg h2, if_neg h3, if_neg h5]
theorem mm_eq (x : Int) : mmV true [.int .i64 x, .int .i64 1] = some (.int .i64 (if x < 1 then 1 else x)) := by
  simp only [mmV, mmA, Nat.beq_refl, cond_true, iltb_dec]
  by_cases h : x < 1
  · simp [h]
  · simp [h]
theorem st_some {o : Option AHeap} {h : AHeap} {k : Kont} (e : o = some h) (hk : k (.tup []) h = true) : optP (unit o) k = true := by subst e; exact hk
theorem pre52 {n : Nat} {h : AHeap} {kind x deep : Int} {b : Bool} {t : Str} {lv : AV} {len : Nat} {K : Kont} (ho : h.Ok) (hlf : lv.leaf = true) (L : ∀ h', Ext h h' → lenA h' 1 lv = some (.int .i64 (len : Int)))
    (kl : kind ≠ 4 → ∀ h', Ext h h' → h'.Ok → K (.bool (leafOk kind b x t len)) h' = true)
    (k4 : kind = 4 → ∀ h' p q, Ext h h' → h'.Ok → Var h' p [.int .i64 kind, .bool b, .int .i64 x, .str t, lv] → Var h' q [.int .i64 kind, .bool false, .int .i64 0, .str [], .nilSlc] → (condB (.bool (decide (30 ≤ deep) || decide (4096 < len))) (K (.bool false) h') (p64_39 (callN E n) n (.int .i64 deep) (.ptr p 0 0 0) (.ptr q 0 0 0) h' K)) = true) :
    callN E (n + 1) (.func 64) [.agg [.int .i64 kind, .bool b, .int .i64 x, .str t, lv], .int .i64 deep] h K = true := by
  obtain ⟨lf1, lf2⟩ := leaf5 (a := .int .i64 kind) (b := .bool b) (c := .int .i64 x) (d := .str t) (e := lv) rfl rfl rfl rfl hlf
  apply d64
  unfold s64
  rw [box_eq (n := 5) (v := .agg [.int .i64 kind, .bool b, .int .i64 x, .str t, lv]) (by rw [lf1]; rfl) (by decide) (by rw [lf1]; exact lf2), optP_some, lf1]
  have e1 := ext_newRow ho [[AV.int .i64 kind, .bool b, .int .i64 x, .str t, lv]] 5
  have o1 := ok_newRow ho [[AV.int .i64 kind, .bool b, .int .i64 x, .str t, lv]] 5
  have V1 := var_new h [AV.int .i64 kind, .bool b, .int .i64 x, .str t, lv]
  simp only [List.length_cons, List.length_nil, Nat.zero_add] at V1
  have s1 : (Ab.newRow h [[AV.int .i64 kind, .bool b, .int .i64 x, .str t, lv]] 5).sz = h.sz + 1 := rfl
  generalize Ab.newRow h [[AV.int .i64 kind, .bool b, .int .i64 x, .str t, lv]] 5 = h1 at *
  have hb : buildV [AV.int .i64 0, .bool false, .int .i64 0, .str [], .nilSlc] [(0, 1, AV.int .i64 kind)] = some (.agg [.int .i64 kind, .bool false, .int .i64 0, .str [], .nilSlc]) := rfl
  rw [fadrA_ptr, optB_some, Nat.zero_add, V1.load, partA_false, nth_zero, optB_some, hb, optB_some, alloc_set (n := 5) rfl (by decide) rfl rfl rfl]
  have hcc : (AV.agg [AV.int .i64 kind, .bool false, .int .i64 0, .str [], .nilSlc]).cells = [AV.int .i64 kind, .bool false, .int .i64 0, .str [], .nilSlc] := rfl
  rw [hcc]
  have e2 := ext_newRow o1 [[AV.int .i64 kind, .bool false, .int .i64 0, .str [], .nilSlc]] 5
  have o2 := ok_newRow o1 [[AV.int .i64 kind, .bool false, .int .i64 0, .str [], .nilSlc]] 5
  have Q2 := var_new h1 [AV.int .i64 kind, .bool false, .int .i64 0, .str [], .nilSlc]
  simp only [List.length_cons, List.length_nil, Nat.zero_add] at Q2
  have V2 := V1.ext e2
  generalize Ab.newRow h1 [[AV.int .i64 kind, .bool false, .int .i64 0, .str [], .nilSlc]] 5 = h2 at *
  have hpq : h.sz ≠ h1.sz := by omega
  have hq : h.sz ≤ h1.sz := by omega
  have put2 : ∀ o, Ext h (h2.put h1.sz o) := fun o => ext_put (e1.trans e2) ho (by omega) o
  have hql : h1.sz < h2.sz := Q2.lt o2
  generalize h.sz = p at *
  generalize h1.sz = q at *
  have E2 := e1.trans e2
  have ef : ∀ o, fadrA o (.ptr p 0 0 0) = some (.ptr p 0 0 o) := fun o => by rw [fadrA_ptr, Nat.zero_add]
  have eg : ∀ o, fadrA o (.ptr q 0 0 0) = some (.ptr q 0 0 o) := fun o => by rw [fadrA_ptr, Nat.zero_add]
  have stay := L h2 E2
  have set : ∀ (o : Nat) (w : AV), o < 5 → w.leaf = true → ∃ h3, storeA h2 1 (.ptr q 0 0 o) w = some h3 ∧ Ext h h3 ∧ h3.Ok ∧ Var h3 p [.int .i64 kind, .bool b, .int .i64 x, .str t, lv] ∧ Var h3 q ([AV.int .i64 kind, .bool false, .int .i64 0, .str [], .nilSlc].set o w) := by
    intro o w h5 hw
    exact ⟨_, Q2.set1 (by simpa using h5) hw, put2 _, o2.put hql _, V2.other hpq _, var_put q _⟩
  have cp : ∀ (o : Nat) (w : AV) (k : AV → AV → Bool), loadA h2 false 1 (.ptr p 0 0 o) = some w → (optB (fadrA o (.ptr p 0 0 0)) fun v43 => optB (loadA h2 false 1 v43) fun v44 => optB (fadrA o (.ptr q 0 0 0)) fun v45 => k v44 v45) = k w (.ptr q 0 0 o) := by
    intro o w k hw
    rw [ef, eg, optB_some, hw, optB_some, optB_some]
  have k11 := fun k => cp 1 (.bool b) k (by rw [V2.load]; rfl)
  have k22 := fun k => cp 2 (.int .i64 x) k (by rw [V2.load]; rfl)
  have k33 := fun k => cp 3 (.str t) k (by rw [V2.load]; rfl)
  have k25 : ∀ (k : AV → AV → Bool), (optB (fadrA 2 (.ptr p 0 0 0)) fun v43 => optB (loadA h2 false 1 v43) fun v44 => optB (mmV true [v44, .int .i64 1]) fun v55 => optB (fadrA 2 (.ptr q 0 0 0)) fun v45 => k v55 v45) = k (.int .i64 (if x < 1 then 1 else x)) (.ptr q 0 0 2) := by
    intro k
    rw [ef, eg, optB_some, V2.load, partA_false, nth_succ, nth_succ, nth_zero, optB_some, mm_eq, optB_some, optB_some]
  rw [optB_some, V2.load, partA_false, nth_zero, optB_some, binA_eql, optB_some]
  by_cases c0 : kind = 0
  · subst c0
    rw [condB_t (by decide), t64 V2 Q2 stay, leafOk0]
    exact kl (by decide) h2 E2 o2
  rw [condB_f (by simp [c0]), binA_eql, optB_some]
  by_cases c1 : kind = 1
  · subst c1
    obtain ⟨h3, w1, w2, w3, w4, w5⟩ := set 1 (.bool b) (by decide) rfl
    rw [condB_t (by decide), k11]
    refine st_some w1 ?_
    rw [t64 w4 w5 (L h3 w2), leafOk1]
    exact kl (by decide) h3 w2 w3
  rw [condB_f (by simp [c1]), binA_eql, optB_some]
  by_cases c2 : kind = 2
  · subst c2
    obtain ⟨h3, w1, w2, w3, w4, w5⟩ := set 2 (.int .i64 x) (by decide) rfl
    rw [condB_t (by decide), k22]
    refine st_some w1 ?_
    rw [t64 w4 w5 (L h3 w2), leafOk2]
    exact kl (by decide) h3 w2 w3
  rw [condB_f (by simp [c2]), binA_eql, optB_some]
  by_cases u5 : kind = 5
  · subst u5
    obtain ⟨h3, w1, w2, w3, w4, w5⟩ := set 2 (.int .i64 (if x < 1 then 1 else x)) (by decide) rfl
    rw [condB_t (by decide), k25]
    refine st_some w1 ?_
    rw [t64 w4 w5 (L h3 w2), leafOk5]
    exact kl (by decide) h3 w2 w3
  rw [condB_f (by simp [u5]), binA_eql, optB_some]
  by_cases u3 : kind = 3
  · subst u3
    obtain ⟨h3, w1, w2, w3, w4, w5⟩ := set 3 (.str t) (by decide) rfl
    rw [condB_t (by decide), k33]
    refine st_some w1 ?_
    rw [t64 w4 w5 (L h3 w2), leafOk3]
    exact kl (by decide) h3 w2 w3
  rw [condB_f (by simp [u3]), binA_eql, optB_some]
  by_cases u4 : kind = 4
  · rw [condB_t (by simp [u4]), ef 4, or_deep (lv := lv) (len := len) (by rw [V2.load]; rfl) stay]
    exact k4 u4 h2 p q E2 o2 V2 Q2
  · rw [condB_f (by simp [u4])]
    have := kl u4 h2 E2 o2
    rw [leafOk_else c0 c1 c2 u3 u5] at this
    exact this
theorem szVs_mem {l : List Val} {v : Val} (h : v ∈ l) : szV v ≤ szVs l := by rw [szVs_eq]; exact szL_mem h
theorem szVs_len (l : List Val) : l.length ≤ szVs l := by rw [szVs_eq]; exact szL_length (fun v => by cases v; simp only [szV]; omega) l
theorem _root_.Go.Ab.RV.agg {h : AHeap} {a : List AV} {v : Val} (R : RV h a v) : partA true 0 5 a = some (.agg a) ∧ (AV.agg a).cells.length = 5 ∧ allLeaf (AV.agg a).cells = true ∧ (AV.agg a).cells = a := by
  cases v with
  | mk kind b x t l =>
    obtain ⟨lv, rfl, V, _⟩ := R.cells
    obtain ⟨lf1, lf2⟩ := leaf5 (a := .int .i64 kind) (b := .bool b) (c := .int .i64 x) (d := .str t) (e := lv) rfl rfl rfl rfl V.leaf
    exact ⟨rfl, rfl, by rw [lf1]; exact lf2, lf1⟩
theorem u52 : ∀ (k n : Nat) {h : AHeap} {a : List AV} {v : Val} {deep : Int} {K : Kont}, RV h a v → h.Ok → deep + (k : Int) = 30 → k ≤ 30 → szV v + k ≤ n → n < lim → (∀ h', Ext h h' → h'.Ok → K (.bool (ckV k v)) h' = true) → callN E (n + 1) (.func 64) [.agg a, .int .i64 deep] h K = true := by
  intro k
  induction k with
  | zero =>
    intro n h a v deep K R ho hd _ hsz hL kk
    cases v with
    | mk kind b x t l =>
      obtain ⟨lv, rfl, V, _⟩ := R.cells
      refine pre52 (len := l.length) ho V.leaf (fun h' e => (V.ext e).len) (fun h4 h' e o => ?_) (fun h4 h' p q e o _ _ => ?_)
      · have := kk h' e o
        rw [ckV_leaf h4] at this; exact this
      · subst h4
        rw [condB_t (by rw [decide_eq_true (show (30 : Int) ≤ deep by omega)]; rfl)]
        exact kk h' e o
  | succ k ih =>
    intro n h a v deep K R ho hd hk hsz hL kk
    cases v with
    | mk kind b x t l =>
      obtain ⟨lv, rfl, V, _⟩ := R.cells
      simp only [szV] at hsz
      have hlen := szVs_len l
      refine pre52 (len := l.length) ho V.leaf (fun h' e => (V.ext e).len) (fun h4 h' e o => ?_) (fun h4 h1 p q e o P Q => ?_)
      · have := kk h' e o
        rw [ckV_leaf h4] at this; exact this
      · subst h4
        have hd' : decide ((30 : Int) ≤ deep) = false := decide_eq_false (by omega)
        rw [hd', Bool.false_or]
        by_cases hl : l.length ≤ 4096
        · rw [condB_f (decide_eq_false (by omega))]
          unfold p64_39
          rw [fadrA_ptr, optB_some, Nat.zero_add, P.load, partA_false, nth_succ, nth_succ, nth_succ, nth_succ, nth_zero, optB_some, (V.ext e).len, optB_some]
          obtain ⟨n, rfl⟩ : ∃ j, n = j + 1 := ⟨n - 1, by omega⟩
          have loop : ∀ (m i : Nat) (h2 : AHeap), Ext h1 h2 → h2.Ok → i ≤ l.length → l.length - i < m → (l.take i).all (ckV k) = true → l64_42 (callN E (n + 1)) (n + 1) m (.int .i64 deep) (.ptr p 0 0 0) (.ptr q 0 0 0) lv (.int .i64 (l.length : Int)) (.int .i64 (i : Int)) h2 K = true := by
            intro m
            induction m with
            | zero => intro i h2 _ _ _ hm; omega
            | succ m ihm =>
              intro i h2 e2 o2 hi hm hall
              rw [l64_42_s]
              unfold b64_42
              rw [binA_lss, optB_some]
              by_cases hlt : i < l.length
              · have hci := List.getElem?_eq_getElem hlt
                have ht : l.take (i + 1) = l.take i ++ [l[i]] := by rw [List.take_succ_eq_append_getElem hlt]
                have hmem := szVs_mem (List.getElem_mem hlt)
                obtain ⟨id, g, j, ee, p1, p2, R2⟩ := (V.ext (e.trans e2)).at hci
                obtain ⟨g1, g2, g3, g4⟩ := R2.agg
                have hfalse : ckV k l[i] = false → ckV (k + 1) (.mk 4 b x t l) = false := by
                  intro hf
                  rw [ckV_list]
                  have : l.all (ckV k) = false := by
                    rw [List.all_eq_false]
                    exact ⟨l[i], List.getElem_mem hlt, by rw [hf]; decide⟩
                  rw [this, Bool.and_false]
                generalize l[i] = w at *
                have hll : ∀ a : Nat → Prop, True := fun _ => trivial
                rw [condB_t (by simpa using hlt), p1, optB_some, p2, g1, optB_some, alloc_set (n := 5) rfl (by decide) rfl g2 g3]
                have e3 := ext_newRow o2 [ee] 5
                have o3 := ok_newRow o2 [ee] 5
                have V3 := var_new h2 ee
                have hel : ee.length = 5 := by rw [← g4]; exact g2
                rw [hel] at V3
                rw [g4]
                generalize Ab.newRow h2 [ee] 5 = h3 at *
                rw [V3.load, g1, optB_some, add64 (by omega) (by omega), optB_some]
                refine ih n (R2.ext e3) o3 (by omega) (by omega) (by omega) (by omega) ?_
                intro h4 e4 o4
                rw [notA_bool, optB_some]
                cases hc : ckV k w with
                | false =>
                  rw [Bool.not_false, condB_true]
                  have := kk h4 (e.trans (e2.trans (e3.trans e4))) o4
                  rw [hfalse hc] at this
                  exact this
                | true =>
                  rw [Bool.not_true, condB_false, inc64 (by omega), optB_some]
                  refine ihm (i + 1) h4 (e2.trans (e3.trans e4)) o4 (by omega) (by omega) ?_
                  rw [ht, List.all_append, hall]
                  simp [hc]
              · have hil : l.take i = l := List.take_of_length_le (by omega)
                rw [hil] at hall
                rw [condB_f (by simpa using hlt), t64 (P.ext e2) (Q.ext e2) (V.ext (e.trans e2)).len]
                have := kk h2 (e.trans e2) o2
                rw [ckV_list, hall, decide_eq_true hl] at this
                have e5 : (((b == false) && decide (x = 0) && decide (t = []) && decide (t.length ≤ 65536) && (decide (l.length = 0) || decide ((4 : Int) = 4)))) = (!b && decide (x = 0) && decide (t = []) && true && true) := by
                  by_cases ht : t = []
                  · subst ht; cases b <;> simp
                  · cases b <;> simp [ht]
                rw [e5]; exact this
          exact loop (n + 1) 0 h1 (Ext.refl _) o (Nat.zero_le _) (by omega) rfl
        · rw [condB_t (decide_eq_true (by omega))]
          have := kk h1 e o
          rw [ckV_list, decide_eq_false hl, Bool.and_false, Bool.false_and] at this
          exact this
theorem u41 {n : Nat} {h : AHeap} {a : List AV} {v : Val} {K : Kont} (R : RV h a v) (ho : h.Ok) (hn : szV v + 30 ≤ n) (hL : n < lim) (k : ∀ h', Ext h h' → h'.Ok → K (.bool (ckV 30 v)) h' = true) : callN E (n + 2) (.func 39) [.agg a] h K = true := by
  obtain ⟨g1, g2, g3, g4⟩ := R.agg
  have hel : a.length = 5 := by rw [← g4]; exact g2
  apply d39
  unfold s39
  rw [box_eq (n := 5) g2 (by decide) g3, optP_some, g4]
  have e1 := ext_newRow ho [a] 5
  have o1 := ok_newRow ho [a] 5
  have V1 := var_new h a
  rw [hel] at V1
  generalize Ab.newRow h [a] 5 = h1 at *
  rw [V1.load, g1, optB_some]
  exact u52 30 n (R.ext e1) o1 (by omega) (Nat.le_refl _) hn hL (fun h' e o => k h' (e1.trans e) o)
end Go.Proofs.Ythifmankpcadjaa
namespace Go.Proofs.Ythifmankpcadjaa
open Go.Ab
set_option linter.unusedSimpArgs false
set_option linter.unusedVariables false
def isB (l : List Cls) (s of : Str) : Bool := (chain l s).any fun c => decide (c.name = of)
def fitV (l : List Cls) (f : Fld) (v : Val) (ofF : Int → Option Str) : Bool :=
  ckV 30 v && (match v with
    | .mk kind _ x _ _ =>
      if kind = 0 then true else if f.ty = 0 then true else if f.ty = 1 then decide (kind = 1) else if f.ty = 2 then decide (kind = 2) else if f.ty = 3 then decide (kind = 3) else if f.ty = 4 then decide (kind = 4)
      else if f.ty = 5 then (decide (kind = 5) && match ofF x with
        | none => false
        | some s => isB l s f.cls)
      else false)
theorem nil_chk {h : AHeap} {kind : Int} {of : AV} {k : AV → Bool} (c : Bool) (hof : eqV h false .fn of .nilFn = some (.bool c)) : (optB (binA .neq (.int .i64 kind) (.int .i64 5)) fun v31 => optB (grdO (wantV v31 false) (some of)) fun v32 => optB (grdO (wantV v31 false) (eqV h false .fn v32 .nilFn)) fun v33 => optB (pickV v31 (.bool true) v33) fun v34 => k v34) = k (.bool (!decide (kind = 5) || c)) := by
  rw [binA_neq, optB_some]
  cases decide (kind = 5) with
  | false => rfl
  | true => simp only [Bool.not_true, wantV_false, Bool.not_false, grdO_true, optB_some, hof, pickV_false, Bool.false_or]
theorem is_chk {call : CallFn} {h : AHeap} {x0 : AV} {s u : Str} {p : Nat} {ok : Bool} {k : AV → AHeap → Bool} (hp : loadA h false 1 (.ptr p 0 0 2) = some (.str u)) (h0 : ok = false → k (.bool false) h = true) (h1 : ok = true → call (.func 23) [x0, .str s, .str u] h (fun v h => k v h) = true) :
    (optB (grdO (wantV (.bool ok) true) (some x0)) fun v40 => optB (grdO (wantV (.bool ok) true) (some (.str s))) fun v41 => optB (grdO (wantV (.bool ok) true) (fadrA 2 (.ptr p 0 0 0))) fun v42 => optB (grdO (wantV (.bool ok) true) (loadA h false 1 v42)) fun v43 => grdC (wantV (.bool ok) true) (fun k => call (.func 23) [v40, v41, v43] h k) h fun v44 h => optB (pickV (.bool ok) v44 (.bool false)) fun v45 => k v45 h) = true := by
  cases ok with
  | false => exact h0 rfl
  | true =>
    have := h1 rfl
    simp only [wantV_true, grdO_true, optB_some, fadrA_ptr, Nat.zero_add, hp, grdC_true, pickV_true]
    exact this
theorem u27 {n : Nat} {h : AHeap} {t : AV} {l : List Cls} {f : Fld} {a : List AV} {v : Val} {ofF : Int → Option Str} {fo : AFn} {fa fb : List AV} {K : Kont} (T : TableRep h t l) (A : Asc l) (ho : h.Ok) (R : RV h a v) (O : ∀ (x : Int) h1, Ext h h1 → h1.Ok → ∀ K' : Kont, (∀ h2, Ext h1 h2 → h2.Ok → K' (.tup [.str ((ofF x).getD []), .bool (ofF x).isSome]) h2 = true) → callN E (n + 3) fo (fa ++ [.int .i64 x] ++ fb) h1 K' = true) (hl : l.length ≤ 64) (hn : 5000 < n) (hL : n + 10 < lim) (hv : szV v + 100 ≤ n)
    (k : ∀ h', Ext h h' → h'.Ok → K (.bool (fitV l f v ofF)) h' = true) : callN E (n + 4) (.func 55) [t, .agg (encF f), .agg a, .fn fo fa fb] h K = true := by
  obtain ⟨g1, g2, g3, g4⟩ := R.agg
  have hel : a.length = 5 := by rw [← g4]; exact g2
  apply d55
  unfold s55
  rw [box_eq (n := 3) (v := .agg (encF f)) rfl (by decide) rfl, optP_some]
  have hcc : (AV.agg (encF f)).cells = encF f := rfl
  rw [hcc]
  have e1 := ext_newRow ho [encF f] 3
  have o1 := ok_newRow ho [encF f] 3
  have V1 : Var (Ab.newRow h [encF f] 3) h.sz (encF f) := var_new h (encF f)
  generalize Ab.newRow h [encF f] 3 = h1 at *
  generalize h.sz = p at *
  rw [box_eq (n := 5) g2 (by decide) g3, optP_some, g4]
  have e2 := ext_newRow o1 [a] 5
  have o2 := ok_newRow o1 [a] 5
  have Q2 := var_new h1 a
  rw [hel] at Q2
  have V2 := V1.ext e2
  generalize Ab.newRow h1 [a] 5 = h2 at *
  generalize h1.sz = q at *
  have E2 := e1.trans e2
  rw [Q2.load, g1, optB_some]
  refine u41 (n := n + 1) (RV.ext E2 R) o2 (by omega) (by omega) ?_
  intro h3 e3 o3
  have E3 := E2.trans e3
  have V3 := V2.ext e3
  have Q3 := Q2.ext e3
  have hk := k h3 E3 o3
  cases v with
  | mk kind b x s vl =>
    obtain ⟨lv, rfl, VL, _⟩ := R.cells
    have q0 : loadA h3 false 1 (.ptr q 0 0 0) = some (.int .i64 kind) := by rw [Q3.load]; rfl
    have q2 : loadA h3 false 1 (.ptr q 0 0 2) = some (.int .i64 x) := by rw [Q3.load]; rfl
    have v1 : loadA h3 false 1 (.ptr p 0 0 1) = some (.int .i64 f.ty) := by rw [V3.load]; rfl
    have v2 : ∀ h', Ext h3 h' → loadA h' false 1 (.ptr p 0 0 2) = some (.str f.cls) := fun h' e => by rw [(V3.ext e).load]; rfl
    rw [notA_bool, optB_some]
    unfold fitV at hk
    cases hck : ckV 30 (.mk kind b x s vl) with
    | false =>
      rw [hck, Bool.false_and] at hk
      rw [Bool.not_false, condB_true]; exact hk
    | true =>
      rw [hck, Bool.true_and] at hk
      simp only at hk
      rw [Bool.not_true, condB_false, fadrA_ptr, optB_some, Nat.zero_add, q0, optB_some, binA_eql, optB_some]
      by_cases k0 : kind = 0
      · rw [if_pos k0] at hk
        rw [condB_t (by simp [k0])]; exact hk
      rw [if_neg k0] at hk
      rw [condB_f (by simp [k0]), fadrA_ptr, optB_some, Nat.zero_add, v1, optB_some, binA_eql, optB_some]
      by_cases t0 : f.ty = 0
      · rw [if_pos t0] at hk
        rw [condB_t (by simp [t0])]; exact hk
      rw [if_neg t0] at hk
      rw [condB_f (by simp [t0]), binA_eql, optB_some]
      by_cases t1 : f.ty = 1
      · rw [if_pos t1] at hk
        rw [condB_t (by simp [t1]), optB_some, q0, optB_some, binA_eql, optB_some]; exact hk
      rw [if_neg t1] at hk
      rw [condB_f (by simp [t1]), binA_eql, optB_some]
      by_cases t2 : f.ty = 2
      · rw [if_pos t2] at hk
        rw [condB_t (by simp [t2]), optB_some, q0, optB_some, binA_eql, optB_some]; exact hk
      rw [if_neg t2] at hk
      rw [condB_f (by simp [t2]), binA_eql, optB_some]
      by_cases t3 : f.ty = 3
      · rw [if_pos t3] at hk
        rw [condB_t (by simp [t3]), optB_some, q0, optB_some, binA_eql, optB_some]; exact hk
      rw [if_neg t3] at hk
      rw [condB_f (by simp [t3]), binA_eql, optB_some]
      by_cases t4 : f.ty = 4
      · rw [if_pos t4] at hk
        rw [condB_t (by simp [t4]), optB_some, q0, optB_some, binA_eql, optB_some]; exact hk
      rw [if_neg t4] at hk
      rw [condB_f (by simp [t4]), binA_eql, optB_some]
      by_cases t5 : f.ty = 5
      · rw [condB_t (by simp [t5]), optB_some, q0, optB_some]
        have kk : ∀ h', Ext h3 h' → h'.Ok → K (.bool (decide (kind = 5) && match ofF x with
            | none => false
            | some s => isB l s f.cls)) h' = true := by
          intro h' e' o'
          have := k h' (E3.trans e') o'
          unfold fitV at this
          rw [hck, Bool.true_and] at this
          simp only at this
          rw [if_neg k0, if_neg t0, if_neg t1, if_neg t2, if_neg t3, if_neg t4, if_pos t5] at this
          exact this
        rw [nil_chk false rfl, Bool.or_false]
        by_cases k5 : kind = 5
        · rw [decide_eq_true k5, Bool.not_true, condB_false, fadrA_ptr, optB_some, Nat.zero_add, q2, optB_some, callV_fn]
          refine O x h3 E3 o3 _ fun h4 e4 o4 => ?_
          rw [extA_tup, nth_zero, optB_some, extA_tup, nth_succ, nth_zero, optB_some]
          have kk := fun h' e o => kk h' e o
          rw [decide_eq_true k5] at kk
          simp only [Bool.true_and] at kk
          refine is_chk (v2 h4 e4) ?_ ?_
          · intro hno
            have := kk h4 e4 o4
            cases hx : ofF x with
            | none => rw [hx] at this; exact this
            | some w => rw [hx] at hno; cases hno
          · intro hyes
            cases hx : ofF x with
            | none => rw [hx] at hyes; cases hyes
            | some w =>
              rw [hx] at kk
              refine u14 (n := n + 1) (T.ext (E3.trans e4)) A o4 (by omega) ?_
              intro h5 e5 o5
              exact kk h5 (e4.trans e5) o5
        · rw [decide_eq_false k5, Bool.not_false, condB_true]
          have := kk h3 (Ext.refl _) o3
          rw [decide_eq_false k5, Bool.false_and] at this
          exact this
      · rw [if_neg t5] at hk
        rw [condB_f (by simp [t5])]; exact hk
end Go.Proofs.Ythifmankpcadjaa
