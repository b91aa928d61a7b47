/-
  The functions that the law enters (printed by wip/tools/tab3.py).
-/
import Derived.Test.YtgmdelacokkenaaGreatDoorXW0
import Derived.Test.YtgmdelacokkenaaGreatDoorAbRun
import Derived.Test.YtgmdelacokkenaaGreatDoorAbInt
import Derived.Test.YtgmdelacokkenaaGreatDoorProg
import Derived.Test.YtgmdelacokkenaaGreatDoorXCut3
import Derived.KernelRfl
namespace Go.Proofs.YtgmdelacokkenaaGreatDoor
open Go.Ab
set_option maxRecDepth 100000

def C4 : AFun := { np := 1, res := [(2, some (false, 1)), (3, some (false, 1))], body := .seq (.reg [{ dst := some 2, op := AOp.alloc [AV.nilSlc], grd := none }, { dst := some 3, op := AOp.alloc [AV.int (IntKind.i64) 0], grd := none }]) (.seq (.reg [{ dst := some 6, op := AOp.mkfn 7 [] [Opd.t 2, Opd.t 3], grd := none }, { dst := none, op := AOp.dfr (Opd.t 6) [], grd := none }]) (.seq (.reg [{ dst := some 7, op := AOp.mv (Opd.t 0), grd := none }, { dst := some 8, op := AOp.call (Opd.c (AV.fn (AFn.func 9) [] [])) [Opd.t 7, Opd.c (AV.int (IntKind.i64) 1)], grd := none }, { dst := some 9, op := AOp.call (Opd.c (AV.fn (AFn.func 8) [] [])) [Opd.t 8], grd := none }]) (.seq (.seq (.reg [{ dst := some 10, op := AOp.mv (Opd.t 0), grd := none }, { dst := some 11, op := AOp.call (Opd.c (AV.fn (AFn.func 10) [] [])) [Opd.t 10], grd := none }, { dst := some 12, op := AOp.len 1 (Opd.t 11), grd := none }, { dst := some 13, op := AOp.mv (Opd.c (AV.int (IntKind.i64) 0)), grd := none }]) (.block 0 (.loop (.seq (.reg [{ dst := some 14, op := AOp.bin (BinOp.lss) (Opd.t 13) (Opd.t 12), grd := none }]) (.seq (.cond (.t 14) (.skip) (.exit 0)) (.seq (.block 1 (.seq (.reg [{ dst := some 15, op := AOp.iadr 1 (Opd.t 11) (Opd.t 13), grd := none }, { dst := some 16, op := AOp.load false 1 (Opd.t 15), grd := none }, { dst := some 5, op := AOp.mv (Opd.t 16), grd := none }]) (.dreg [{ dst := some 17, op := AOp.load false 1 (Opd.t 2), grd := none }, { dst := some 18, op := AOp.mv (Opd.t 5), grd := none }] [({ dst := some 19, op := AOp.call (Opd.c (AV.fn (AFn.func 11) [] [])) [Opd.t 18], grd := none }, [{ dst := some 17, op := AOp.load false 1 (Opd.t 2), grd := none }], []), ({ dst := some 20, op := AOp.bslice 1 1 [AV.nilSlc] [(0, Opd.t 19)], grd := none }, [{ dst := some 17, op := AOp.load false 1 (Opd.t 2), grd := none }], []), ({ dst := some 21, op := AOp.app 1 24 (Opd.t 17) (Opd.t 20), grd := none }, [], []), ({ dst := none, op := AOp.store 1 (Opd.t 2) (Opd.t 21), grd := none }, [], [])]))) (.reg [{ dst := some 22, op := AOp.bin (BinOp.add) (Opd.t 13) (Opd.c (AV.int (IntKind.i64) 1)), grd := none }, { dst := some 13, op := AOp.mv (Opd.t 22), grd := none }]))))))) (.seq (.reg [{ dst := some 23, op := AOp.load false 1 (Opd.t 2), grd := none }, { dst := none, op := AOp.store 1 (Opd.t 2) (Opd.t 23), grd := none }, { dst := none, op := AOp.store 1 (Opd.t 3) (Opd.c (AV.int (IntKind.i64) 0)), grd := none }]) (.ret))))) }
theorem t4 : compFn Tryz.prog Tryz.f4 = some (stripF C4) := by kernel_rfl
def C7 : AFun := { np := 2, res := [], body := .seq (.reg [{ dst := some 5, op := AOp.rcv, grd := none }, { dst := some 2, op := AOp.mv (Opd.t 5), grd := none }]) (.seq (.reg [{ dst := some 6, op := AOp.mv (Opd.t 2), grd := none }, { dst := some 7, op := AOp.eq true (EqK.ifn) (Opd.t 6) (Opd.c (AV.nilIf)), grd := none }]) (.cond (.t 7) (.seq (.seq (.reg [{ dst := some 9, op := AOp.mv (Opd.t 2), grd := none }, { dst := some 10, op := AOp.tas 30 true (AV.agg []) (Opd.t 9), grd := none }, { dst := some 8, op := AOp.mv (Opd.t 10), grd := none }, { dst := some 11, op := AOp.ext (Opd.t 8) 0, grd := none }, { dst := some 12, op := AOp.ext (Opd.t 8) 1, grd := none }, { dst := some 3, op := AOp.alloc [], grd := none }, { dst := none, op := AOp.store 0 (Opd.t 3) (Opd.t 11), grd := none }, { dst := some 4, op := AOp.mv (Opd.t 12), grd := none }]) (.seq (.reg [{ dst := some 13, op := AOp.mv (Opd.t 4), grd := none }, { dst := some 14, op := AOp.not (Opd.t 13), grd := none }]) (.cond (.t 14) (.reg [{ dst := some 15, op := AOp.mv (Opd.t 2), grd := none }, { dst := none, op := AOp.pnc (Opd.t 15), grd := none }]) (.skip)))) (.reg [{ dst := none, op := AOp.store 1 (Opd.t 0) (Opd.c (AV.nilSlc)), grd := none }, { dst := none, op := AOp.store 1 (Opd.t 1) (Opd.c (AV.int (IntKind.i64) 1)), grd := none }])) (.skip))) }
theorem t7 : compFn Tryz.prog Tryz.f7 = some (stripF C7) := by kernel_rfl
def C36 : AFun := { np := 3, res := [(6, some (false, 1)), (7, some (false, 1))], body := .seq (.reg [{ dst := some 6, op := AOp.alloc [AV.int (IntKind.i64) 0], grd := none }, { dst := some 7, op := AOp.alloc [AV.int (IntKind.i64) 0], grd := none }]) (.seq (.reg [{ dst := some 9, op := AOp.mkfn 44 [] [Opd.t 6, Opd.t 7], grd := none }, { dst := none, op := AOp.dfr (Opd.t 9) [], grd := none }]) (.seq (.reg [{ dst := some 10, op := AOp.mv (Opd.t 0), grd := none }, { dst := some 11, op := AOp.mv (Opd.t 1), grd := none }, { dst := some 12, op := AOp.call (Opd.c (AV.fn (AFn.func 45) [] [])) [], grd := none }, { dst := some 13, op := AOp.build [AV.nilSlc, AV.int (IntKind.i64) 0, AV.int (IntKind.i64) 0, AV.int (IntKind.i64) 0, AV.nilMap] [(0, 1, Opd.t 10), (2, 1, Opd.t 11), (4, 1, Opd.t 12)], grd := none }, { dst := some 14, op := AOp.box none 5 (Opd.t 13), grd := none }, { dst := some 8, op := AOp.mv (Opd.t 14), grd := none }]) (.seq (.reg [{ dst := some 15, op := AOp.mv (Opd.t 2), grd := none }, { dst := some 16, op := AOp.mv (Opd.t 8), grd := none }, { dst := some 17, op := AOp.call (Opd.t 15) [Opd.t 16], grd := none }]) (.seq (.dreg [{ dst := some 18, op := AOp.mv (Opd.t 8), grd := none }, { dst := some 19, op := AOp.mv (Opd.t 8), grd := none }, { dst := some 20, op := AOp.nilck (Opd.t 19), grd := none }, { dst := some 21, op := AOp.fadr 1 (Opd.t 20), grd := none }, { dst := some 22, op := AOp.load false 1 (Opd.t 21), grd := none }, { dst := some 23, op := AOp.mv (Opd.t 8), grd := none }, { dst := some 24, op := AOp.nilck (Opd.t 23), grd := none }, { dst := some 25, op := AOp.fadr 0 (Opd.t 24), grd := none }, { dst := some 26, op := AOp.load false 1 (Opd.t 25), grd := none }, { dst := some 27, op := AOp.len 1 (Opd.t 26), grd := none }, { dst := some 28, op := AOp.bin (BinOp.eql) (Opd.t 22) (Opd.t 27), grd := none }] [({ dst := some 29, op := AOp.call (Opd.c (AV.fn (AFn.func 46) [] [])) [Opd.t 18, Opd.t 28], grd := none }, [], [])]) (.seq (.reg [{ dst := none, op := AOp.store 1 (Opd.t 6) (Opd.c (AV.int (IntKind.i64) 0)), grd := none }, { dst := none, op := AOp.store 1 (Opd.t 7) (Opd.c (AV.int (IntKind.i64) 0)), grd := none }]) (.ret)))))) }
theorem t36 : compFn Tryz.prog Tryz.f36 = some (stripF C36) := by kernel_rfl
def C43 : AFun := { np := 1, res := [(2, some (false, 1)), (3, some (false, 1)), (4, some (false, 1))], body := .seq (.reg [{ dst := some 2, op := AOp.alloc [AV.nilSlc], grd := none }, { dst := some 3, op := AOp.alloc [AV.int (IntKind.i64) 0], grd := none }, { dst := some 4, op := AOp.alloc [AV.int (IntKind.i64) 0], grd := none }]) (.seq (.reg [{ dst := some 8, op := AOp.mv (Opd.t 0), grd := none }, { dst := some 9, op := AOp.build [AV.str [], AV.int (IntKind.i64) 0, AV.bool false] [(0, 1, Opd.t 8)], grd := none }, { dst := some 10, op := AOp.box none 3 (Opd.t 9), grd := none }, { dst := some 5, op := AOp.mv (Opd.t 10), grd := none }]) (.seq (.reg [{ dst := some 6, op := AOp.alloc [AV.nilSlc], grd := none }]) (.seq (.seq (.reg [{ dst := some 11, op := AOp.mv (Opd.t 5), grd := none }, { dst := some 12, op := AOp.call (Opd.c (AV.fn (AFn.func 60) [] [])) [Opd.t 11], grd := none }]) (.block 0 (.rf (.t 12) [13] (.reg [{ dst := some 7, op := AOp.alloc [AV.int (IntKind.i64) 0, AV.str [], AV.int (IntKind.i64) 0, AV.int (IntKind.i64) 0], grd := none }, { dst := none, op := AOp.store 4 (Opd.t 7) (Opd.t 13), grd := none }]) (.block 1 (.seq (.seq (.reg [{ dst := some 14, op := AOp.load false 1 (Opd.t 6), grd := none }, { dst := some 15, op := AOp.len 1 (Opd.t 14), grd := none }, { dst := some 16, op := AOp.bin (BinOp.geq) (Opd.t 15) (Opd.c (AV.int (IntKind.i64) 4096)), grd := none }]) (.cond (.t 16) (.seq (.dreg [{ dst := some 17, op := AOp.fadr 2 (Opd.t 7), grd := none }, { dst := some 18, op := AOp.load false 1 (Opd.t 17), grd := none }] [({ dst := none, op := AOp.store 1 (Opd.t 2) (Opd.c (AV.nilSlc)), grd := none }, [{ dst := some 18, op := AOp.load false 1 (Opd.t 17), grd := none }], []), ({ dst := none, op := AOp.store 1 (Opd.t 3) (Opd.t 18), grd := none }, [], []), ({ dst := none, op := AOp.store 1 (Opd.t 4) (Opd.c (AV.int (IntKind.i64) 20)), grd := none }, [], [])]) (.ret)) (.skip))) (.reg [{ dst := some 19, op := AOp.load false 1 (Opd.t 6), grd := none }, { dst := some 20, op := AOp.load true 4 (Opd.t 7), grd := none }, { dst := some 21, op := AOp.bslice 1 4 [AV.int (IntKind.i64) 0, AV.str [], AV.int (IntKind.i64) 0, AV.int (IntKind.i64) 0] [(0, Opd.t 20)], grd := none }, { dst := some 22, op := AOp.app 4 40 (Opd.t 19) (Opd.t 21), grd := none }, { dst := none, op := AOp.store 1 (Opd.t 6) (Opd.t 22), grd := none }])))))) (.seq (.seq (.reg [{ dst := some 23, op := AOp.mv (Opd.t 5), grd := none }, { dst := some 24, op := AOp.nilck (Opd.t 23), grd := none }, { dst := some 25, op := AOp.fadr 2 (Opd.t 24), grd := none }, { dst := some 26, op := AOp.load false 1 (Opd.t 25), grd := none }]) (.cond (.t 26) (.seq (.dreg [{ dst := some 27, op := AOp.mv (Opd.t 5), grd := none }, { dst := some 28, op := AOp.nilck (Opd.t 27), grd := none }, { dst := some 29, op := AOp.fadr 1 (Opd.t 28), grd := none }, { dst := some 30, op := AOp.load false 1 (Opd.t 29), grd := none }] [({ dst := none, op := AOp.store 1 (Opd.t 2) (Opd.c (AV.nilSlc)), grd := none }, [{ dst := some 30, op := AOp.load false 1 (Opd.t 29), grd := none }], []), ({ dst := none, op := AOp.store 1 (Opd.t 3) (Opd.t 30), grd := none }, [], []), ({ dst := none, op := AOp.store 1 (Opd.t 4) (Opd.c (AV.int (IntKind.i64) 20)), grd := none }, [], [])]) (.ret)) (.skip))) (.seq (.reg [{ dst := some 31, op := AOp.load false 1 (Opd.t 6), grd := none }, { dst := none, op := AOp.store 1 (Opd.t 2) (Opd.t 31), grd := none }, { dst := none, op := AOp.store 1 (Opd.t 3) (Opd.c (AV.int (IntKind.i64) 0)), grd := none }, { dst := none, op := AOp.store 1 (Opd.t 4) (Opd.c (AV.int (IntKind.i64) 0)), grd := none }]) (.ret)))))) }
theorem t43 : compFn Tryz.prog Tryz.f43 = some (stripF C43) := by kernel_rfl
def C44 : AFun := { np := 2, res := [], body := .seq (.reg [{ dst := some 5, op := AOp.rcv, grd := none }, { dst := some 2, op := AOp.mv (Opd.t 5), grd := none }]) (.seq (.reg [{ dst := some 6, op := AOp.mv (Opd.t 2), grd := none }, { dst := some 7, op := AOp.eq true (EqK.ifn) (Opd.t 6) (Opd.c (AV.nilIf)), grd := none }]) (.cond (.t 7) (.seq (.reg [{ dst := some 9, op := AOp.mv (Opd.t 2), grd := none }, { dst := some 10, op := AOp.tas 102 true (AV.agg [AV.int (IntKind.i64) 0]) (Opd.t 9), grd := none }, { dst := some 8, op := AOp.mv (Opd.t 10), grd := none }, { dst := some 11, op := AOp.ext (Opd.t 8) 0, grd := none }, { dst := some 12, op := AOp.ext (Opd.t 8) 1, grd := none }, { dst := some 3, op := AOp.alloc [AV.int (IntKind.i64) 0], grd := none }, { dst := none, op := AOp.store 1 (Opd.t 3) (Opd.t 11), grd := none }, { dst := some 4, op := AOp.mv (Opd.t 12), grd := none }]) (.seq (.seq (.reg [{ dst := some 13, op := AOp.mv (Opd.t 4), grd := none }, { dst := some 14, op := AOp.not (Opd.t 13), grd := none }]) (.cond (.t 14) (.reg [{ dst := some 15, op := AOp.mv (Opd.t 2), grd := none }, { dst := none, op := AOp.pnc (Opd.t 15), grd := none }]) (.skip))) (.reg [{ dst := some 16, op := AOp.fadr 0 (Opd.t 3), grd := none }, { dst := some 17, op := AOp.load false 1 (Opd.t 16), grd := none }, { dst := none, op := AOp.store 1 (Opd.t 0) (Opd.t 17), grd := none }, { dst := none, op := AOp.store 1 (Opd.t 1) (Opd.c (AV.int (IntKind.i64) 20)), grd := none }]))) (.skip))) }
theorem t44 : compFn Tryz.prog Tryz.f44 = some (stripF C44) := by kernel_rfl
theorem t5 : compFn Tryz.prog Tryz.f5 = some (stripF A5) := by kernel_rfl
theorem t6 : compFn Tryz.prog Tryz.f6 = some (stripF A6) := by kernel_rfl
theorem t8 : compFn Tryz.prog Tryz.f8 = some (stripF A8) := by kernel_rfl
theorem t9 : compFn Tryz.prog Tryz.f9 = some (stripF A9) := by kernel_rfl
theorem t10 : compFn Tryz.prog Tryz.f10 = some (stripF A10) := by kernel_rfl
theorem t11 : compFn Tryz.prog Tryz.f11 = some (stripF A11) := by kernel_rfl
theorem t12 : compFn Tryz.prog Tryz.f12 = some (stripF A12) := by kernel_rfl
theorem t13 : compFn Tryz.prog Tryz.f13 = some (stripF A13) := by kernel_rfl
theorem t14 : compFn Tryz.prog Tryz.f14 = some (stripF A14) := by kernel_rfl
theorem t15 : compFn Tryz.prog Tryz.f15 = some (stripF A15) := by kernel_rfl
theorem t16 : compFn Tryz.prog Tryz.f16 = some (stripF A16) := by kernel_rfl
theorem t17 : compFn Tryz.prog Tryz.f17 = some (stripF A17) := by kernel_rfl
theorem t18 : compFn Tryz.prog Tryz.f18 = some (stripF A18) := by kernel_rfl
theorem t19 : compFn Tryz.prog Tryz.f19 = some (stripF A19) := by kernel_rfl
theorem t20 : compFn Tryz.prog Tryz.f20 = some (stripF A20) := by kernel_rfl
theorem t21 : compFn Tryz.prog Tryz.f21 = some (stripF A21) := by kernel_rfl
theorem t22 : compFn Tryz.prog Tryz.f22 = some (stripF A22) := by kernel_rfl
theorem t23 : compFn Tryz.prog Tryz.f23 = some (stripF A23) := by kernel_rfl
theorem t24 : compFn Tryz.prog Tryz.f24 = some (stripF A24) := by kernel_rfl
theorem t25 : compFn Tryz.prog Tryz.f25 = some (stripF A25) := by kernel_rfl
theorem t26 : compFn Tryz.prog Tryz.f26 = some (stripF A26) := by kernel_rfl
theorem t27 : compFn Tryz.prog Tryz.f27 = some (stripF A27) := by kernel_rfl
theorem t28 : compFn Tryz.prog Tryz.f28 = some (stripF A28) := by kernel_rfl
theorem t29 : compFn Tryz.prog Tryz.f29 = some (stripF A29) := by kernel_rfl
theorem t32 : compFn Tryz.prog Tryz.f32 = some (stripF A32) := by kernel_rfl
theorem t33 : compFn Tryz.prog Tryz.f33 = some (stripF A33) := by kernel_rfl
theorem t34 : compFn Tryz.prog Tryz.f34 = some (stripF A34) := by kernel_rfl
theorem t35 : compFn Tryz.prog Tryz.f35 = some (stripF A35) := by kernel_rfl
theorem t37 : compFn Tryz.prog Tryz.f37 = some (stripF A37) := by kernel_rfl
theorem t39 : compFn Tryz.prog Tryz.f39 = some (stripF A39) := by kernel_rfl
theorem t40 : compFn Tryz.prog Tryz.f40 = some (stripF A40) := by kernel_rfl
theorem t42 : compFn Tryz.prog Tryz.f42 = some (stripF A42) := by kernel_rfl
theorem t45 : compFn Tryz.prog Tryz.f45 = some (stripF A45) := by kernel_rfl
theorem t46 : compFn Tryz.prog Tryz.f46 = some (stripF A46) := by kernel_rfl
theorem t47 : compFn Tryz.prog Tryz.f47 = some (stripF A47) := by kernel_rfl
theorem t48 : compFn Tryz.prog Tryz.f48 = some (stripF A48) := by kernel_rfl
theorem t49 : compFn Tryz.prog Tryz.f49 = some (stripF A49) := by kernel_rfl
theorem t50 : compFn Tryz.prog Tryz.f50 = some (stripF A50) := by kernel_rfl
theorem t52 : compFn Tryz.prog Tryz.f52 = some (stripF A52) := by kernel_rfl
theorem t53 : compFn Tryz.prog Tryz.f53 = some (stripF A53) := by kernel_rfl
theorem t55 : compFn Tryz.prog Tryz.f55 = some (stripF A55) := by kernel_rfl
theorem t57 : compFn Tryz.prog Tryz.f57 = some (stripF A57) := by kernel_rfl
theorem t60 : compFn Tryz.prog Tryz.f60 = some (stripF A60) := by kernel_rfl
theorem t62 : compFn Tryz.prog Tryz.f62 = some (stripF A62) := by kernel_rfl
theorem t63 : compFn Tryz.prog Tryz.f63 = some (stripF A63) := by kernel_rfl
theorem t64 : compFn Tryz.prog Tryz.f64 = some (stripF A64) := by kernel_rfl
theorem t65 : compFn Tryz.prog Tryz.f65 = some (stripF A65) := by kernel_rfl
theorem t66 : compFn Tryz.prog Tryz.f66 = some (stripF A66) := by kernel_rfl
theorem t67 : compFn Tryz.prog Tryz.f67 = some (stripF A67) := by kernel_rfl
theorem t69 : compFn Tryz.prog Tryz.f69 = some (stripF A69) := by kernel_rfl
theorem t72 : compFn Tryz.prog Tryz.f72 = some (stripF A72) := by kernel_rfl
theorem t73 : compFn Tryz.prog Tryz.f73 = some (stripF A73) := by kernel_rfl
theorem t74 : compFn Tryz.prog Tryz.f74 = some (stripF A74) := by kernel_rfl
theorem t78 : compFn Tryz.prog Tryz.f78 = some (stripF A78) := by kernel_rfl
theorem t79 : compFn Tryz.prog Tryz.f79 = some (stripF A79) := by kernel_rfl
theorem t82 : compFn Tryz.prog Tryz.f82 = some (stripF A82) := by kernel_rfl
theorem t85 : compFn Tryz.prog Tryz.f85 = some (stripF A85) := by kernel_rfl
theorem t86 : compFn Tryz.prog Tryz.f86 = some (stripF A86) := by kernel_rfl
theorem t87 : compFn Tryz.prog Tryz.f87 = some (stripF A87) := by kernel_rfl
theorem t88 : compFn Tryz.prog Tryz.f88 = some (stripF A88) := by kernel_rfl
theorem t89 : compFn Tryz.prog Tryz.f89 = some (stripF A89) := by kernel_rfl
theorem t90 : compFn Tryz.prog Tryz.f90 = some (stripF A90) := by kernel_rfl
theorem t91 : compFn Tryz.prog Tryz.f91 = some (stripF A91) := by kernel_rfl
theorem t92 : compFn Tryz.prog Tryz.f92 = some (stripF A92) := by kernel_rfl
theorem t93 : compFn Tryz.prog Tryz.f93 = some (stripF A93) := by kernel_rfl
theorem t103 : compFn Tryz.prog Tryz.f103 = some (stripF A103) := by kernel_rfl
theorem t104 : compFn Tryz.prog Tryz.f104 = some (stripF A104) := by kernel_rfl
theorem t105 : compFn Tryz.prog Tryz.f105 = some (stripF A105) := by kernel_rfl
theorem t106 : compFn Tryz.prog Tryz.f106 = some (stripF A106) := by kernel_rfl
theorem t107 : compFn Tryz.prog Tryz.f107 = some (stripF A107) := by kernel_rfl
theorem t115 : compFn Tryz.prog Tryz.f115 = some (stripF A115) := by kernel_rfl
theorem t116 : compFn Tryz.prog Tryz.f116 = some (stripF A116) := by kernel_rfl
theorem t3 : compFn Tryz.prog Tryz.f3 = some (stripF D3) := by kernel_rfl
noncomputable def tbl : List (Nat × AFun) := [(3, D3), (4, C4), (7, C7), (36, C36), (43, C43), (44, C44), (5, A5), (6, A6), (8, A8), (9, A9), (10, A10), (11, A11), (12, A12), (13, A13), (14, A14), (15, A15), (16, A16), (17, A17), (18, A18), (19, A19), (20, A20), (21, A21), (22, A22), (23, A23), (24, A24), (25, A25), (26, A26), (27, A27), (28, A28), (29, A29), (32, A32), (33, A33), (34, A34), (35, A35), (37, A37), (39, A39), (40, A40), (42, A42), (45, A45), (46, A46), (47, A47), (48, A48), (49, A49), (50, A50), (52, A52), (53, A53), (55, A55), (57, A57), (60, A60), (62, A62), (63, A63), (64, A64), (65, A65), (66, A66), (67, A67), (69, A69), (72, A72), (73, A73), (74, A74), (78, A78), (79, A79), (82, A82), (85, A85), (86, A86), (87, A87), (88, A88), (89, A89), (90, A90), (91, A91), (92, A92), (93, A93), (103, A103), (104, A104), (105, A105), (106, A106), (107, A107), (115, A115), (116, A116)]
theorem tbl_ok : AllOK Tryz.prog tbl := ⟨⟨_, Tryz.func3, t3⟩, ⟨_, Tryz.func4, t4⟩, ⟨_, Tryz.func7, t7⟩, ⟨_, Tryz.func36, t36⟩, ⟨_, Tryz.func43, t43⟩, ⟨_, Tryz.func44, t44⟩, ⟨_, Tryz.func5, t5⟩, ⟨_, Tryz.func6, t6⟩, ⟨_, Tryz.func8, t8⟩, ⟨_, Tryz.func9, t9⟩, ⟨_, Tryz.func10, t10⟩, ⟨_, Tryz.func11, t11⟩, ⟨_, Tryz.func12, t12⟩, ⟨_, Tryz.func13, t13⟩, ⟨_, Tryz.func14, t14⟩, ⟨_, Tryz.func15, t15⟩, ⟨_, Tryz.func16, t16⟩, ⟨_, Tryz.func17, t17⟩, ⟨_, Tryz.func18, t18⟩, ⟨_, Tryz.func19, t19⟩, ⟨_, Tryz.func20, t20⟩, ⟨_, Tryz.func21, t21⟩, ⟨_, Tryz.func22, t22⟩, ⟨_, Tryz.func23, t23⟩, ⟨_, Tryz.func24, t24⟩, ⟨_, Tryz.func25, t25⟩, ⟨_, Tryz.func26, t26⟩, ⟨_, Tryz.func27, t27⟩, ⟨_, Tryz.func28, t28⟩, ⟨_, Tryz.func29, t29⟩, ⟨_, Tryz.func32, t32⟩, ⟨_, Tryz.func33, t33⟩, ⟨_, Tryz.func34, t34⟩, ⟨_, Tryz.func35, t35⟩, ⟨_, Tryz.func37, t37⟩, ⟨_, Tryz.func39, t39⟩, ⟨_, Tryz.func40, t40⟩, ⟨_, Tryz.func42, t42⟩, ⟨_, Tryz.func45, t45⟩, ⟨_, Tryz.func46, t46⟩, ⟨_, Tryz.func47, t47⟩, ⟨_, Tryz.func48, t48⟩, ⟨_, Tryz.func49, t49⟩, ⟨_, Tryz.func50, t50⟩, ⟨_, Tryz.func52, t52⟩, ⟨_, Tryz.func53, t53⟩, ⟨_, Tryz.func55, t55⟩, ⟨_, Tryz.func57, t57⟩, ⟨_, Tryz.func60, t60⟩, ⟨_, Tryz.func62, t62⟩, ⟨_, Tryz.func63, t63⟩, ⟨_, Tryz.func64, t64⟩, ⟨_, Tryz.func65, t65⟩, ⟨_, Tryz.func66, t66⟩, ⟨_, Tryz.func67, t67⟩, ⟨_, Tryz.func69, t69⟩, ⟨_, Tryz.func72, t72⟩, ⟨_, Tryz.func73, t73⟩, ⟨_, Tryz.func74, t74⟩, ⟨_, Tryz.func78, t78⟩, ⟨_, Tryz.func79, t79⟩, ⟨_, Tryz.func82, t82⟩, ⟨_, Tryz.func85, t85⟩, ⟨_, Tryz.func86, t86⟩, ⟨_, Tryz.func87, t87⟩, ⟨_, Tryz.func88, t88⟩, ⟨_, Tryz.func89, t89⟩, ⟨_, Tryz.func90, t90⟩, ⟨_, Tryz.func91, t91⟩, ⟨_, Tryz.func92, t92⟩, ⟨_, Tryz.func93, t93⟩, ⟨_, Tryz.func103, t103⟩, ⟨_, Tryz.func104, t104⟩, ⟨_, Tryz.func105, t105⟩, ⟨_, Tryz.func106, t106⟩, ⟨_, Tryz.func107, t107⟩, ⟨_, Tryz.func115, t115⟩, ⟨_, Tryz.func116, t116⟩, trivial⟩
noncomputable def prims : List (Nat × Prim) := [(68, pIntP 160 1), (114, idxByte), (119, noEsc)]
theorem prims_le : AllMono prims := ⟨pIntP_mono _ _, idxByte_mono, noEsc_mono, trivial⟩
noncomputable def E : Env := envP tbl prims
noncomputable def shs : List (Nat × Sh) := [(5, w5), (6, w6), (8, w8), (9, w9), (10, w10), (11, w11), (12, w12), (13, w13), (14, w14), (15, w15), (16, w16), (17, w17), (18, w18), (19, w19), (20, w20), (21, w21), (22, w22), (23, w23), (24, w24), (25, w25), (26, w26), (27, w27), (28, w28), (29, w29), (32, w32), (33, w33), (34, w34), (35, w35), (37, w37), (39, w39), (40, w40), (42, w42), (45, w45), (46, w46), (47, w47), (48, w48), (49, w49), (50, w50), (52, w52), (53, w53), (55, w55), (57, w57), (60, w60), (62, w62), (63, w63), (64, w64), (65, w65), (66, w66), (67, w67), (69, w69), (72, w72), (73, w73), (74, w74), (78, w78), (79, w79), (82, w82), (85, w85), (86, w86), (87, w87), (88, w88), (89, w89), (90, w90), (91, w91), (92, w92), (93, w93), (103, w103), (104, w104), (105, w105), (106, w106), (107, w107), (115, w115), (116, w116)]
theorem v5 : ShOK E 5 w5 := w5_ok (by kernel_rfl) (by kernel_rfl)
theorem v6 : ShOK E 6 w6 := w6_ok (by kernel_rfl) (by kernel_rfl)
theorem v8 : ShOK E 8 w8 := w8_ok (by kernel_rfl) (by kernel_rfl)
theorem v9 : ShOK E 9 w9 := w9_ok (by kernel_rfl) (by kernel_rfl)
theorem v10 : ShOK E 10 w10 := w10_ok (by kernel_rfl) (by kernel_rfl)
theorem v11 : ShOK E 11 w11 := w11_ok (by kernel_rfl) (by kernel_rfl)
theorem v12 : ShOK E 12 w12 := w12_ok (by kernel_rfl) (by kernel_rfl)
theorem v13 : ShOK E 13 w13 := w13_ok (by kernel_rfl) (by kernel_rfl)
theorem v14 : ShOK E 14 w14 := w14_ok (by kernel_rfl) (by kernel_rfl)
theorem v15 : ShOK E 15 w15 := w15_ok (by kernel_rfl) (by kernel_rfl)
theorem v16 : ShOK E 16 w16 := w16_ok (by kernel_rfl) (by kernel_rfl)
theorem v17 : ShOK E 17 w17 := w17_ok (by kernel_rfl) (by kernel_rfl)
theorem v18 : ShOK E 18 w18 := w18_ok (by kernel_rfl) (by kernel_rfl)
theorem v19 : ShOK E 19 w19 := w19_ok (by kernel_rfl) (by kernel_rfl)
theorem v20 : ShOK E 20 w20 := w20_ok (by kernel_rfl) (by kernel_rfl)
theorem v21 : ShOK E 21 w21 := w21_ok (by kernel_rfl) (by kernel_rfl)
theorem v22 : ShOK E 22 w22 := w22_ok (by kernel_rfl) (by kernel_rfl)
theorem v23 : ShOK E 23 w23 := w23_ok (by kernel_rfl) (by kernel_rfl)
theorem v24 : ShOK E 24 w24 := w24_ok (by kernel_rfl) (by kernel_rfl)
theorem v25 : ShOK E 25 w25 := w25_ok (by kernel_rfl) (by kernel_rfl)
theorem v26 : ShOK E 26 w26 := w26_ok (by kernel_rfl) (by kernel_rfl)
theorem v27 : ShOK E 27 w27 := w27_ok (by kernel_rfl) (by kernel_rfl)
theorem v28 : ShOK E 28 w28 := w28_ok (by kernel_rfl) (by kernel_rfl)
theorem v29 : ShOK E 29 w29 := w29_ok (by kernel_rfl) (by kernel_rfl)
theorem v32 : ShOK E 32 w32 := w32_ok (by kernel_rfl) (by kernel_rfl)
theorem v33 : ShOK E 33 w33 := w33_ok (by kernel_rfl) (by kernel_rfl)
theorem v34 : ShOK E 34 w34 := w34_ok (by kernel_rfl) (by kernel_rfl)
theorem v35 : ShOK E 35 w35 := w35_ok (by kernel_rfl) (by kernel_rfl)
theorem v37 : ShOK E 37 w37 := w37_ok (by kernel_rfl) (by kernel_rfl)
theorem v39 : ShOK E 39 w39 := w39_ok (by kernel_rfl) (by kernel_rfl)
theorem v40 : ShOK E 40 w40 := w40_ok (by kernel_rfl) (by kernel_rfl)
theorem v42 : ShOK E 42 w42 := w42_ok (by kernel_rfl) (by kernel_rfl)
theorem v45 : ShOK E 45 w45 := w45_ok (by kernel_rfl) (by kernel_rfl)
theorem v46 : ShOK E 46 w46 := w46_ok (by kernel_rfl) (by kernel_rfl)
theorem v47 : ShOK E 47 w47 := w47_ok (by kernel_rfl) (by kernel_rfl)
theorem v48 : ShOK E 48 w48 := w48_ok (by kernel_rfl) (by kernel_rfl)
theorem v49 : ShOK E 49 w49 := w49_ok (by kernel_rfl) (by kernel_rfl)
theorem v50 : ShOK E 50 w50 := w50_ok (by kernel_rfl) (by kernel_rfl)
theorem v52 : ShOK E 52 w52 := w52_ok (by kernel_rfl) (by kernel_rfl)
theorem v53 : ShOK E 53 w53 := w53_ok (by kernel_rfl) (by kernel_rfl)
theorem v55 : ShOK E 55 w55 := w55_ok (by kernel_rfl) (by kernel_rfl)
theorem v57 : ShOK E 57 w57 := w57_ok (by kernel_rfl) (by kernel_rfl)
theorem v60 : ShOK E 60 w60 := w60_ok (by kernel_rfl) (by kernel_rfl)
theorem v62 : ShOK E 62 w62 := w62_ok (by kernel_rfl) (by kernel_rfl)
theorem v63 : ShOK E 63 w63 := w63_ok (by kernel_rfl) (by kernel_rfl)
theorem v64 : ShOK E 64 w64 := w64_ok (by kernel_rfl) (by kernel_rfl)
theorem v65 : ShOK E 65 w65 := w65_ok (by kernel_rfl) (by kernel_rfl)
theorem v66 : ShOK E 66 w66 := w66_ok (by kernel_rfl) (by kernel_rfl)
theorem v67 : ShOK E 67 w67 := w67_ok (by kernel_rfl) (by kernel_rfl)
theorem v69 : ShOK E 69 w69 := w69_ok (by kernel_rfl) (by kernel_rfl)
theorem v72 : ShOK E 72 w72 := w72_ok (by kernel_rfl) (by kernel_rfl)
theorem v73 : ShOK E 73 w73 := w73_ok (by kernel_rfl) (by kernel_rfl)
theorem v74 : ShOK E 74 w74 := w74_ok (by kernel_rfl) (by kernel_rfl)
theorem v78 : ShOK E 78 w78 := w78_ok (by kernel_rfl) (by kernel_rfl)
theorem v79 : ShOK E 79 w79 := w79_ok (by kernel_rfl) (by kernel_rfl)
theorem v82 : ShOK E 82 w82 := w82_ok (by kernel_rfl) (by kernel_rfl)
theorem v85 : ShOK E 85 w85 := w85_ok (by kernel_rfl) (by kernel_rfl)
theorem v86 : ShOK E 86 w86 := w86_ok (by kernel_rfl) (by kernel_rfl)
theorem v87 : ShOK E 87 w87 := w87_ok (by kernel_rfl) (by kernel_rfl)
theorem v88 : ShOK E 88 w88 := w88_ok (by kernel_rfl) (by kernel_rfl)
theorem v89 : ShOK E 89 w89 := w89_ok (by kernel_rfl) (by kernel_rfl)
theorem v90 : ShOK E 90 w90 := w90_ok (by kernel_rfl) (by kernel_rfl)
theorem v91 : ShOK E 91 w91 := w91_ok (by kernel_rfl) (by kernel_rfl)
theorem v92 : ShOK E 92 w92 := w92_ok (by kernel_rfl) (by kernel_rfl)
theorem v93 : ShOK E 93 w93 := w93_ok (by kernel_rfl) (by kernel_rfl)
theorem v103 : ShOK E 103 w103 := w103_ok (by kernel_rfl) (by kernel_rfl)
theorem v104 : ShOK E 104 w104 := w104_ok (by kernel_rfl) (by kernel_rfl)
theorem v105 : ShOK E 105 w105 := w105_ok (by kernel_rfl) (by kernel_rfl)
theorem v106 : ShOK E 106 w106 := w106_ok (by kernel_rfl) (by kernel_rfl)
theorem v107 : ShOK E 107 w107 := w107_ok (by kernel_rfl) (by kernel_rfl)
theorem v115 : ShOK E 115 w115 := w115_ok (by kernel_rfl) (by kernel_rfl)
theorem v116 : ShOK E 116 w116 := w116_ok (by kernel_rfl) (by kernel_rfl)
theorem shs_ok : AllSh E shs := ⟨v5, v6, v8, v9, v10, v11, v12, v13, v14, v15, v16, v17, v18, v19, v20, v21, v22, v23, v24, v25, v26, v27, v28, v29, v32, v33, v34, v35, v37, v39, v40, v42, v45, v46, v47, v48, v49, v50, v52, v53, v55, v57, v60, v62, v63, v64, v65, v66, v67, v69, v72, v73, v74, v78, v79, v82, v85, v86, v87, v88, v89, v90, v91, v92, v93, v103, v104, v105, v106, v107, v115, v116, trivial⟩
noncomputable def tabT : PT Sh := (.nd none (.nd none (.nd (some w5) (.nd (some w21) (.nd (some w85) .lf .lf .lf .lf) .lf .lf .lf) (.nd (some w37) .lf .lf .lf .lf) (.nd (some w53) .lf .lf .lf .lf) (.nd (some w69) .lf .lf .lf .lf)) (.nd (some w9) (.nd (some w25) (.nd (some w89) .lf .lf .lf .lf) .lf .lf .lf) (.nd none (.nd (some w105) .lf .lf .lf .lf) .lf .lf .lf) (.nd (some w57) .lf .lf .lf .lf) (.nd (some w73) .lf .lf .lf .lf)) (.nd (some w13) (.nd (some w29) (.nd (some w93) .lf .lf .lf .lf) .lf .lf .lf) (.nd (some w45) .lf .lf .lf .lf) .lf .lf) (.nd (some w17) (.nd (some w33) .lf .lf .lf .lf) (.nd (some w49) .lf .lf .lf .lf) (.nd (some w65) .lf .lf .lf .lf) .lf)) (.nd none (.nd (some w6) (.nd (some w22) (.nd (some w86) .lf .lf .lf .lf) .lf .lf .lf) .lf .lf .lf) (.nd (some w10) (.nd (some w26) (.nd (some w90) .lf .lf .lf .lf) .lf .lf .lf) (.nd (some w42) (.nd (some w106) .lf .lf .lf .lf) .lf .lf .lf) .lf (.nd (some w74) .lf .lf .lf .lf)) (.nd (some w14) .lf (.nd (some w46) .lf .lf .lf .lf) (.nd (some w62) .lf .lf .lf .lf) (.nd (some w78) .lf .lf .lf .lf)) (.nd (some w18) (.nd (some w34) .lf .lf .lf .lf) (.nd (some w50) .lf .lf .lf .lf) (.nd (some w66) .lf .lf .lf .lf) (.nd (some w82) .lf .lf .lf .lf))) (.nd none (.nd none (.nd (some w23) (.nd (some w87) .lf .lf .lf .lf) .lf .lf .lf) (.nd (some w39) (.nd (some w103) .lf .lf .lf .lf) .lf .lf .lf) (.nd (some w55) .lf .lf .lf .lf) .lf) (.nd (some w11) (.nd (some w27) (.nd (some w91) .lf .lf .lf .lf) .lf .lf .lf) (.nd none (.nd (some w107) .lf .lf .lf .lf) .lf .lf .lf) .lf .lf) (.nd (some w15) .lf (.nd (some w47) .lf .lf .lf .lf) (.nd (some w63) .lf .lf .lf .lf) (.nd (some w79) .lf .lf .lf .lf)) (.nd (some w19) (.nd (some w35) .lf .lf .lf .lf) (.nd none (.nd (some w115) .lf .lf .lf .lf) .lf .lf .lf) (.nd (some w67) .lf .lf .lf .lf) .lf)) (.nd none (.nd (some w8) (.nd (some w24) (.nd (some w88) .lf .lf .lf .lf) .lf .lf .lf) (.nd (some w40) (.nd (some w104) .lf .lf .lf .lf) .lf .lf .lf) .lf (.nd (some w72) .lf .lf .lf .lf)) (.nd (some w12) (.nd (some w28) (.nd (some w92) .lf .lf .lf .lf) .lf .lf .lf) .lf (.nd (some w60) .lf .lf .lf .lf) .lf) (.nd (some w16) (.nd (some w32) .lf .lf .lf .lf) (.nd (some w48) .lf .lf .lf .lf) (.nd (some w64) .lf .lf .lf .lf) .lf) (.nd (some w20) .lf (.nd (some w52) (.nd (some w116) .lf .lf .lf .lf) .lf .lf .lf) .lf .lf)))
theorem tabT_eq : tabT = tabL shs := by kernel_rfl
noncomputable def tab (k : Nat) : Option Sh := tabT.get k
theorem tab_ok : ∀ k s, tab k = some s → ShOK E k s := by
  unfold tab
  rw [tabT_eq]
  exact tabL_ok shs_ok
end Go.Proofs.YtgmdelacokkenaaGreatDoor
