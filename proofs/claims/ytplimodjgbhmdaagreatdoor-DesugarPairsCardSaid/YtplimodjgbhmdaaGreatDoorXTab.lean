/-
  The functions that the law enters (printed by wip/tools/tab3.py).
-/
import Derived.Test.YtplimodjgbhmdaaGreatDoorXW0
import Derived.Test.YtplimodjgbhmdaaGreatDoorAbRun
import Derived.Test.YtplimodjgbhmdaaGreatDoorAbInt
import Derived.Test.YtplimodjgbhmdaaGreatDoorProg
import Derived.KernelRfl
namespace Go.Proofs.YtplimodjgbhmdaaGreatDoor
open Go.Ab
set_option maxRecDepth 100000

def C5 : AFun := { np := 1, res := [(2, some (false, 1)), (3, some (false, 1))], body := .seq (.reg [{ dst := some 2, op := AOp.alloc [AV.nilSlc], grd := none }, { dst := some 3, op := AOp.alloc [AV.int (IntKind.i64) 0], grd := none }]) (.seq (.reg [{ dst := some 6, op := AOp.mkfn 9 [] [Opd.t 2, Opd.t 3], grd := none }, { dst := none, op := AOp.dfr (Opd.t 6) [], grd := none }]) (.seq (.reg [{ dst := some 7, op := AOp.mv (Opd.t 0), grd := none }, { dst := some 8, op := AOp.call (Opd.c (AV.fn (AFn.func 11) [] [])) [Opd.t 7, Opd.c (AV.int (IntKind.i64) 1)], grd := none }, { dst := some 9, op := AOp.call (Opd.c (AV.fn (AFn.func 10) [] [])) [Opd.t 8], grd := none }]) (.seq (.seq (.reg [{ dst := some 10, op := AOp.mv (Opd.t 0), grd := none }, { dst := some 11, op := AOp.call (Opd.c (AV.fn (AFn.func 12) [] [])) [Opd.t 10], grd := none }, { dst := some 12, op := AOp.len 1 (Opd.t 11), grd := none }, { dst := some 13, op := AOp.mv (Opd.c (AV.int (IntKind.i64) 0)), grd := none }]) (.block 0 (.loop (.seq (.reg [{ dst := some 14, op := AOp.bin (BinOp.lss) (Opd.t 13) (Opd.t 12), grd := none }]) (.seq (.cond (.t 14) (.skip) (.exit 0)) (.seq (.block 1 (.seq (.reg [{ dst := some 15, op := AOp.iadr 1 (Opd.t 11) (Opd.t 13), grd := none }, { dst := some 16, op := AOp.load false 1 (Opd.t 15), grd := none }, { dst := some 5, op := AOp.mv (Opd.t 16), grd := none }]) (.dreg [{ dst := some 17, op := AOp.load false 1 (Opd.t 2), grd := none }, { dst := some 18, op := AOp.mv (Opd.t 5), grd := none }] [({ dst := some 19, op := AOp.call (Opd.c (AV.fn (AFn.func 13) [] [])) [Opd.t 18], grd := none }, [{ dst := some 17, op := AOp.load false 1 (Opd.t 2), grd := none }], []), ({ dst := some 20, op := AOp.bslice 1 1 [AV.nilSlc] [(0, Opd.t 19)], grd := none }, [{ dst := some 17, op := AOp.load false 1 (Opd.t 2), grd := none }], []), ({ dst := some 21, op := AOp.app 1 24 (Opd.t 17) (Opd.t 20), grd := none }, [], []), ({ dst := none, op := AOp.store 1 (Opd.t 2) (Opd.t 21), grd := none }, [], [])]))) (.reg [{ dst := some 22, op := AOp.bin (BinOp.add) (Opd.t 13) (Opd.c (AV.int (IntKind.i64) 1)), grd := none }, { dst := some 13, op := AOp.mv (Opd.t 22), grd := none }]))))))) (.seq (.reg [{ dst := some 23, op := AOp.load false 1 (Opd.t 2), grd := none }, { dst := none, op := AOp.store 1 (Opd.t 2) (Opd.t 23), grd := none }, { dst := none, op := AOp.store 1 (Opd.t 3) (Opd.c (AV.int (IntKind.i64) 0)), grd := none }]) (.ret))))) }
theorem t5 : compFn Tryz.prog Tryz.f5 = some (stripF C5) := by kernel_rfl
def C9 : AFun := { np := 2, res := [], body := .seq (.reg [{ dst := some 5, op := AOp.rcv, grd := none }, { dst := some 2, op := AOp.mv (Opd.t 5), grd := none }]) (.seq (.reg [{ dst := some 6, op := AOp.mv (Opd.t 2), grd := none }, { dst := some 7, op := AOp.eq true (EqK.ifn) (Opd.t 6) (Opd.c (AV.nilIf)), grd := none }]) (.cond (.t 7) (.seq (.seq (.reg [{ dst := some 9, op := AOp.mv (Opd.t 2), grd := none }, { dst := some 10, op := AOp.tas 32 true (AV.agg []) (Opd.t 9), grd := none }, { dst := some 8, op := AOp.mv (Opd.t 10), grd := none }, { dst := some 11, op := AOp.ext (Opd.t 8) 0, grd := none }, { dst := some 12, op := AOp.ext (Opd.t 8) 1, grd := none }, { dst := some 3, op := AOp.alloc [], grd := none }, { dst := none, op := AOp.store 0 (Opd.t 3) (Opd.t 11), grd := none }, { dst := some 4, op := AOp.mv (Opd.t 12), grd := none }]) (.seq (.reg [{ dst := some 13, op := AOp.mv (Opd.t 4), grd := none }, { dst := some 14, op := AOp.not (Opd.t 13), grd := none }]) (.cond (.t 14) (.reg [{ dst := some 15, op := AOp.mv (Opd.t 2), grd := none }, { dst := none, op := AOp.pnc (Opd.t 15), grd := none }]) (.skip)))) (.reg [{ dst := none, op := AOp.store 1 (Opd.t 0) (Opd.c (AV.nilSlc)), grd := none }, { dst := none, op := AOp.store 1 (Opd.t 1) (Opd.c (AV.int (IntKind.i64) 1)), grd := none }])) (.skip))) }
theorem t9 : compFn Tryz.prog Tryz.f9 = some (stripF C9) := by kernel_rfl
def C42 : AFun := { np := 3, res := [(6, some (false, 1)), (7, some (false, 1))], body := .seq (.reg [{ dst := some 6, op := AOp.alloc [AV.int (IntKind.i64) 0], grd := none }, { dst := some 7, op := AOp.alloc [AV.int (IntKind.i64) 0], grd := none }]) (.seq (.reg [{ dst := some 9, op := AOp.mkfn 51 [] [Opd.t 6, Opd.t 7], grd := none }, { dst := none, op := AOp.dfr (Opd.t 9) [], grd := none }]) (.seq (.reg [{ dst := some 10, op := AOp.mv (Opd.t 0), grd := none }, { dst := some 11, op := AOp.mv (Opd.t 1), grd := none }, { dst := some 12, op := AOp.call (Opd.c (AV.fn (AFn.func 52) [] [])) [], grd := none }, { dst := some 13, op := AOp.build [AV.nilSlc, AV.int (IntKind.i64) 0, AV.int (IntKind.i64) 0, AV.int (IntKind.i64) 0, AV.nilMap] [(0, 1, Opd.t 10), (2, 1, Opd.t 11), (4, 1, Opd.t 12)], grd := none }, { dst := some 14, op := AOp.box 5 (Opd.t 13), grd := none }, { dst := some 8, op := AOp.mv (Opd.t 14), grd := none }]) (.seq (.reg [{ dst := some 15, op := AOp.mv (Opd.t 2), grd := none }, { dst := some 16, op := AOp.mv (Opd.t 8), grd := none }, { dst := some 17, op := AOp.call (Opd.t 15) [Opd.t 16], grd := none }]) (.seq (.dreg [{ dst := some 18, op := AOp.mv (Opd.t 8), grd := none }, { dst := some 19, op := AOp.mv (Opd.t 8), grd := none }, { dst := some 20, op := AOp.nilck (Opd.t 19), grd := none }, { dst := some 21, op := AOp.fadr 1 (Opd.t 20), grd := none }, { dst := some 22, op := AOp.load false 1 (Opd.t 21), grd := none }, { dst := some 23, op := AOp.mv (Opd.t 8), grd := none }, { dst := some 24, op := AOp.nilck (Opd.t 23), grd := none }, { dst := some 25, op := AOp.fadr 0 (Opd.t 24), grd := none }, { dst := some 26, op := AOp.load false 1 (Opd.t 25), grd := none }, { dst := some 27, op := AOp.len 1 (Opd.t 26), grd := none }, { dst := some 28, op := AOp.bin (BinOp.eql) (Opd.t 22) (Opd.t 27), grd := none }] [({ dst := some 29, op := AOp.call (Opd.c (AV.fn (AFn.func 53) [] [])) [Opd.t 18, Opd.t 28], grd := none }, [], [])]) (.seq (.reg [{ dst := none, op := AOp.store 1 (Opd.t 6) (Opd.c (AV.int (IntKind.i64) 0)), grd := none }, { dst := none, op := AOp.store 1 (Opd.t 7) (Opd.c (AV.int (IntKind.i64) 0)), grd := none }]) (.ret)))))) }
theorem t42 : compFn Tryz.prog Tryz.f42 = some (stripF C42) := by kernel_rfl
def C50 : AFun := { np := 1, res := [(2, some (false, 1)), (3, some (false, 1)), (4, some (false, 1))], body := .seq (.reg [{ dst := some 2, op := AOp.alloc [AV.nilSlc], grd := none }, { dst := some 3, op := AOp.alloc [AV.int (IntKind.i64) 0], grd := none }, { dst := some 4, op := AOp.alloc [AV.int (IntKind.i64) 0], grd := none }]) (.seq (.reg [{ dst := some 8, op := AOp.mv (Opd.t 0), grd := none }, { dst := some 9, op := AOp.build [AV.str [], AV.int (IntKind.i64) 0, AV.bool false] [(0, 1, Opd.t 8)], grd := none }, { dst := some 10, op := AOp.box 3 (Opd.t 9), grd := none }, { dst := some 5, op := AOp.mv (Opd.t 10), grd := none }]) (.seq (.reg [{ dst := some 6, op := AOp.alloc [AV.nilSlc], grd := none }]) (.seq (.seq (.reg [{ dst := some 11, op := AOp.mv (Opd.t 5), grd := none }, { dst := some 12, op := AOp.call (Opd.c (AV.fn (AFn.func 68) [] [])) [Opd.t 11], grd := none }]) (.block 0 (.rf (.t 12) [13] (.reg [{ dst := some 7, op := AOp.alloc [AV.int (IntKind.i64) 0, AV.str [], AV.int (IntKind.i64) 0, AV.int (IntKind.i64) 0], grd := none }, { dst := none, op := AOp.store 4 (Opd.t 7) (Opd.t 13), grd := none }]) (.block 1 (.seq (.seq (.reg [{ dst := some 14, op := AOp.load false 1 (Opd.t 6), grd := none }, { dst := some 15, op := AOp.len 1 (Opd.t 14), grd := none }, { dst := some 16, op := AOp.bin (BinOp.geq) (Opd.t 15) (Opd.c (AV.int (IntKind.i64) 4096)), grd := none }]) (.cond (.t 16) (.seq (.dreg [{ dst := some 17, op := AOp.fadr 2 (Opd.t 7), grd := none }, { dst := some 18, op := AOp.load false 1 (Opd.t 17), grd := none }] [({ dst := none, op := AOp.store 1 (Opd.t 2) (Opd.c (AV.nilSlc)), grd := none }, [{ dst := some 18, op := AOp.load false 1 (Opd.t 17), grd := none }], []), ({ dst := none, op := AOp.store 1 (Opd.t 3) (Opd.t 18), grd := none }, [], []), ({ dst := none, op := AOp.store 1 (Opd.t 4) (Opd.c (AV.int (IntKind.i64) 20)), grd := none }, [], [])]) (.ret)) (.skip))) (.reg [{ dst := some 19, op := AOp.load false 1 (Opd.t 6), grd := none }, { dst := some 20, op := AOp.load true 4 (Opd.t 7), grd := none }, { dst := some 21, op := AOp.bslice 1 4 [AV.int (IntKind.i64) 0, AV.str [], AV.int (IntKind.i64) 0, AV.int (IntKind.i64) 0] [(0, Opd.t 20)], grd := none }, { dst := some 22, op := AOp.app 4 40 (Opd.t 19) (Opd.t 21), grd := none }, { dst := none, op := AOp.store 1 (Opd.t 6) (Opd.t 22), grd := none }])))))) (.seq (.seq (.reg [{ dst := some 23, op := AOp.mv (Opd.t 5), grd := none }, { dst := some 24, op := AOp.nilck (Opd.t 23), grd := none }, { dst := some 25, op := AOp.fadr 2 (Opd.t 24), grd := none }, { dst := some 26, op := AOp.load false 1 (Opd.t 25), grd := none }]) (.cond (.t 26) (.seq (.dreg [{ dst := some 27, op := AOp.mv (Opd.t 5), grd := none }, { dst := some 28, op := AOp.nilck (Opd.t 27), grd := none }, { dst := some 29, op := AOp.fadr 1 (Opd.t 28), grd := none }, { dst := some 30, op := AOp.load false 1 (Opd.t 29), grd := none }] [({ dst := none, op := AOp.store 1 (Opd.t 2) (Opd.c (AV.nilSlc)), grd := none }, [{ dst := some 30, op := AOp.load false 1 (Opd.t 29), grd := none }], []), ({ dst := none, op := AOp.store 1 (Opd.t 3) (Opd.t 30), grd := none }, [], []), ({ dst := none, op := AOp.store 1 (Opd.t 4) (Opd.c (AV.int (IntKind.i64) 20)), grd := none }, [], [])]) (.ret)) (.skip))) (.seq (.reg [{ dst := some 31, op := AOp.load false 1 (Opd.t 6), grd := none }, { dst := none, op := AOp.store 1 (Opd.t 2) (Opd.t 31), grd := none }, { dst := none, op := AOp.store 1 (Opd.t 3) (Opd.c (AV.int (IntKind.i64) 0)), grd := none }, { dst := none, op := AOp.store 1 (Opd.t 4) (Opd.c (AV.int (IntKind.i64) 0)), grd := none }]) (.ret)))))) }
theorem t50 : compFn Tryz.prog Tryz.f50 = some (stripF C50) := by kernel_rfl
def C51 : AFun := { np := 2, res := [], body := .seq (.reg [{ dst := some 5, op := AOp.rcv, grd := none }, { dst := some 2, op := AOp.mv (Opd.t 5), grd := none }]) (.seq (.reg [{ dst := some 6, op := AOp.mv (Opd.t 2), grd := none }, { dst := some 7, op := AOp.eq true (EqK.ifn) (Opd.t 6) (Opd.c (AV.nilIf)), grd := none }]) (.cond (.t 7) (.seq (.reg [{ dst := some 9, op := AOp.mv (Opd.t 2), grd := none }, { dst := some 10, op := AOp.tas 108 true (AV.agg [AV.int (IntKind.i64) 0]) (Opd.t 9), grd := none }, { dst := some 8, op := AOp.mv (Opd.t 10), grd := none }, { dst := some 11, op := AOp.ext (Opd.t 8) 0, grd := none }, { dst := some 12, op := AOp.ext (Opd.t 8) 1, grd := none }, { dst := some 3, op := AOp.alloc [AV.int (IntKind.i64) 0], grd := none }, { dst := none, op := AOp.store 1 (Opd.t 3) (Opd.t 11), grd := none }, { dst := some 4, op := AOp.mv (Opd.t 12), grd := none }]) (.seq (.seq (.reg [{ dst := some 13, op := AOp.mv (Opd.t 4), grd := none }, { dst := some 14, op := AOp.not (Opd.t 13), grd := none }]) (.cond (.t 14) (.reg [{ dst := some 15, op := AOp.mv (Opd.t 2), grd := none }, { dst := none, op := AOp.pnc (Opd.t 15), grd := none }]) (.skip))) (.reg [{ dst := some 16, op := AOp.fadr 0 (Opd.t 3), grd := none }, { dst := some 17, op := AOp.load false 1 (Opd.t 16), grd := none }, { dst := none, op := AOp.store 1 (Opd.t 0) (Opd.t 17), grd := none }, { dst := none, op := AOp.store 1 (Opd.t 1) (Opd.c (AV.int (IntKind.i64) 20)), grd := none }]))) (.skip))) }
theorem t51 : compFn Tryz.prog Tryz.f51 = some (stripF C51) := by kernel_rfl
theorem t3 : compFn Tryz.prog Tryz.f3 = some (stripF A3) := by kernel_rfl
theorem t6 : compFn Tryz.prog Tryz.f6 = some (stripF A6) := by kernel_rfl
theorem t7 : compFn Tryz.prog Tryz.f7 = some (stripF A7) := by kernel_rfl
theorem t8 : compFn Tryz.prog Tryz.f8 = some (stripF A8) := by kernel_rfl
theorem t10 : compFn Tryz.prog Tryz.f10 = some (stripF A10) := by kernel_rfl
theorem t11 : compFn Tryz.prog Tryz.f11 = some (stripF A11) := by kernel_rfl
theorem t12 : compFn Tryz.prog Tryz.f12 = some (stripF A12) := by kernel_rfl
theorem t13 : compFn Tryz.prog Tryz.f13 = some (stripF A13) := by kernel_rfl
theorem t14 : compFn Tryz.prog Tryz.f14 = some (stripF A14) := by kernel_rfl
theorem t15 : compFn Tryz.prog Tryz.f15 = some (stripF A15) := by kernel_rfl
theorem t16 : compFn Tryz.prog Tryz.f16 = some (stripF A16) := by kernel_rfl
theorem t17 : compFn Tryz.prog Tryz.f17 = some (stripF A17) := by kernel_rfl
theorem t18 : compFn Tryz.prog Tryz.f18 = some (stripF A18) := by kernel_rfl
theorem t19 : compFn Tryz.prog Tryz.f19 = some (stripF A19) := by kernel_rfl
theorem t20 : compFn Tryz.prog Tryz.f20 = some (stripF A20) := by kernel_rfl
theorem t21 : compFn Tryz.prog Tryz.f21 = some (stripF A21) := by kernel_rfl
theorem t22 : compFn Tryz.prog Tryz.f22 = some (stripF A22) := by kernel_rfl
theorem t23 : compFn Tryz.prog Tryz.f23 = some (stripF A23) := by kernel_rfl
theorem t24 : compFn Tryz.prog Tryz.f24 = some (stripF A24) := by kernel_rfl
theorem t25 : compFn Tryz.prog Tryz.f25 = some (stripF A25) := by kernel_rfl
theorem t26 : compFn Tryz.prog Tryz.f26 = some (stripF A26) := by kernel_rfl
theorem t27 : compFn Tryz.prog Tryz.f27 = some (stripF A27) := by kernel_rfl
theorem t28 : compFn Tryz.prog Tryz.f28 = some (stripF A28) := by kernel_rfl
theorem t29 : compFn Tryz.prog Tryz.f29 = some (stripF A29) := by kernel_rfl
theorem t30 : compFn Tryz.prog Tryz.f30 = some (stripF A30) := by kernel_rfl
theorem t31 : compFn Tryz.prog Tryz.f31 = some (stripF A31) := by kernel_rfl
theorem t32 : compFn Tryz.prog Tryz.f32 = some (stripF A32) := by kernel_rfl
theorem t33 : compFn Tryz.prog Tryz.f33 = some (stripF A33) := by kernel_rfl
theorem t34 : compFn Tryz.prog Tryz.f34 = some (stripF A34) := by kernel_rfl
theorem t35 : compFn Tryz.prog Tryz.f35 = some (stripF A35) := by kernel_rfl
theorem t36 : compFn Tryz.prog Tryz.f36 = some (stripF A36) := by kernel_rfl
theorem t37 : compFn Tryz.prog Tryz.f37 = some (stripF A37) := by kernel_rfl
theorem t38 : compFn Tryz.prog Tryz.f38 = some (stripF A38) := by kernel_rfl
theorem t39 : compFn Tryz.prog Tryz.f39 = some (stripF A39) := by kernel_rfl
theorem t40 : compFn Tryz.prog Tryz.f40 = some (stripF A40) := by kernel_rfl
theorem t41 : compFn Tryz.prog Tryz.f41 = some (stripF A41) := by kernel_rfl
theorem t43 : compFn Tryz.prog Tryz.f43 = some (stripF A43) := by kernel_rfl
theorem t45 : compFn Tryz.prog Tryz.f45 = some (stripF A45) := by kernel_rfl
theorem t46 : compFn Tryz.prog Tryz.f46 = some (stripF A46) := by kernel_rfl
theorem t48 : compFn Tryz.prog Tryz.f48 = some (stripF A48) := by kernel_rfl
theorem t49 : compFn Tryz.prog Tryz.f49 = some (stripF A49) := by kernel_rfl
theorem t52 : compFn Tryz.prog Tryz.f52 = some (stripF A52) := by kernel_rfl
theorem t53 : compFn Tryz.prog Tryz.f53 = some (stripF A53) := by kernel_rfl
theorem t54 : compFn Tryz.prog Tryz.f54 = some (stripF A54) := by kernel_rfl
theorem t55 : compFn Tryz.prog Tryz.f55 = some (stripF A55) := by kernel_rfl
theorem t56 : compFn Tryz.prog Tryz.f56 = some (stripF A56) := by kernel_rfl
theorem t57 : compFn Tryz.prog Tryz.f57 = some (stripF A57) := by kernel_rfl
theorem t59 : compFn Tryz.prog Tryz.f59 = some (stripF A59) := by kernel_rfl
theorem t60 : compFn Tryz.prog Tryz.f60 = some (stripF A60) := by kernel_rfl
theorem t62 : compFn Tryz.prog Tryz.f62 = some (stripF A62) := by kernel_rfl
theorem t64 : compFn Tryz.prog Tryz.f64 = some (stripF A64) := by kernel_rfl
theorem t66 : compFn Tryz.prog Tryz.f66 = some (stripF A66) := by kernel_rfl
theorem t67 : compFn Tryz.prog Tryz.f67 = some (stripF A67) := by kernel_rfl
theorem t68 : compFn Tryz.prog Tryz.f68 = some (stripF A68) := by kernel_rfl
theorem t70 : compFn Tryz.prog Tryz.f70 = some (stripF A70) := by kernel_rfl
theorem t71 : compFn Tryz.prog Tryz.f71 = some (stripF A71) := by kernel_rfl
theorem t72 : compFn Tryz.prog Tryz.f72 = some (stripF A72) := by kernel_rfl
theorem t73 : compFn Tryz.prog Tryz.f73 = some (stripF A73) := by kernel_rfl
theorem t74 : compFn Tryz.prog Tryz.f74 = some (stripF A74) := by kernel_rfl
theorem t75 : compFn Tryz.prog Tryz.f75 = some (stripF A75) := by kernel_rfl
theorem t77 : compFn Tryz.prog Tryz.f77 = some (stripF A77) := by kernel_rfl
theorem t79 : compFn Tryz.prog Tryz.f79 = some (stripF A79) := by kernel_rfl
theorem t80 : compFn Tryz.prog Tryz.f80 = some (stripF A80) := by kernel_rfl
theorem t81 : compFn Tryz.prog Tryz.f81 = some (stripF A81) := by kernel_rfl
theorem t82 : compFn Tryz.prog Tryz.f82 = some (stripF A82) := by kernel_rfl
theorem t85 : compFn Tryz.prog Tryz.f85 = some (stripF A85) := by kernel_rfl
theorem t86 : compFn Tryz.prog Tryz.f86 = some (stripF A86) := by kernel_rfl
theorem t87 : compFn Tryz.prog Tryz.f87 = some (stripF A87) := by kernel_rfl
theorem t88 : compFn Tryz.prog Tryz.f88 = some (stripF A88) := by kernel_rfl
theorem t90 : compFn Tryz.prog Tryz.f90 = some (stripF A90) := by kernel_rfl
theorem t92 : compFn Tryz.prog Tryz.f92 = some (stripF A92) := by kernel_rfl
theorem t93 : compFn Tryz.prog Tryz.f93 = some (stripF A93) := by kernel_rfl
theorem t94 : compFn Tryz.prog Tryz.f94 = some (stripF A94) := by kernel_rfl
theorem t95 : compFn Tryz.prog Tryz.f95 = some (stripF A95) := by kernel_rfl
theorem t96 : compFn Tryz.prog Tryz.f96 = some (stripF A96) := by kernel_rfl
theorem t97 : compFn Tryz.prog Tryz.f97 = some (stripF A97) := by kernel_rfl
theorem t98 : compFn Tryz.prog Tryz.f98 = some (stripF A98) := by kernel_rfl
theorem t99 : compFn Tryz.prog Tryz.f99 = some (stripF A99) := by kernel_rfl
theorem t100 : compFn Tryz.prog Tryz.f100 = some (stripF A100) := by kernel_rfl
theorem t101 : compFn Tryz.prog Tryz.f101 = some (stripF A101) := by kernel_rfl
theorem t108 : compFn Tryz.prog Tryz.f108 = some (stripF A108) := by kernel_rfl
theorem t109 : compFn Tryz.prog Tryz.f109 = some (stripF A109) := by kernel_rfl
theorem t110 : compFn Tryz.prog Tryz.f110 = some (stripF A110) := by kernel_rfl
theorem t111 : compFn Tryz.prog Tryz.f111 = some (stripF A111) := by kernel_rfl
theorem t112 : compFn Tryz.prog Tryz.f112 = some (stripF A112) := by kernel_rfl
theorem t113 : compFn Tryz.prog Tryz.f113 = some (stripF A113) := by kernel_rfl
theorem t114 : compFn Tryz.prog Tryz.f114 = some (stripF A114) := by kernel_rfl
theorem t115 : compFn Tryz.prog Tryz.f115 = some (stripF A115) := by kernel_rfl
theorem t121 : compFn Tryz.prog Tryz.f121 = some (stripF A121) := by kernel_rfl
theorem t123 : compFn Tryz.prog Tryz.f123 = some (stripF A123) := by kernel_rfl
theorem t124 : compFn Tryz.prog Tryz.f124 = some (stripF A124) := by kernel_rfl
theorem t126 : compFn Tryz.prog Tryz.f126 = some (stripF A126) := by kernel_rfl
theorem t129 : compFn Tryz.prog Tryz.f129 = some (stripF A129) := by kernel_rfl
noncomputable def tbl : List (Nat × AFun) := [(5, C5), (9, C9), (42, C42), (50, C50), (51, C51), (3, A3), (6, A6), (7, A7), (8, A8), (10, A10), (11, A11), (12, A12), (13, A13), (14, A14), (15, A15), (16, A16), (17, A17), (18, A18), (19, A19), (20, A20), (21, A21), (22, A22), (23, A23), (24, A24), (25, A25), (26, A26), (27, A27), (28, A28), (29, A29), (30, A30), (31, A31), (32, A32), (33, A33), (34, A34), (35, A35), (36, A36), (37, A37), (38, A38), (39, A39), (40, A40), (41, A41), (43, A43), (45, A45), (46, A46), (48, A48), (49, A49), (52, A52), (53, A53), (54, A54), (55, A55), (56, A56), (57, A57), (59, A59), (60, A60), (62, A62), (64, A64), (66, A66), (67, A67), (68, A68), (70, A70), (71, A71), (72, A72), (73, A73), (74, A74), (75, A75), (77, A77), (79, A79), (80, A80), (81, A81), (82, A82), (85, A85), (86, A86), (87, A87), (88, A88), (90, A90), (92, A92), (93, A93), (94, A94), (95, A95), (96, A96), (97, A97), (98, A98), (99, A99), (100, A100), (101, A101), (108, A108), (109, A109), (110, A110), (111, A111), (112, A112), (113, A113), (114, A114), (115, A115), (121, A121), (123, A123), (124, A124), (126, A126), (129, A129)]
theorem tbl_ok : AllOK Tryz.prog tbl := ⟨⟨_, Tryz.func5, t5⟩, ⟨_, Tryz.func9, t9⟩, ⟨_, Tryz.func42, t42⟩, ⟨_, Tryz.func50, t50⟩, ⟨_, Tryz.func51, t51⟩, ⟨_, Tryz.func3, t3⟩, ⟨_, Tryz.func6, t6⟩, ⟨_, Tryz.func7, t7⟩, ⟨_, Tryz.func8, t8⟩, ⟨_, Tryz.func10, t10⟩, ⟨_, Tryz.func11, t11⟩, ⟨_, Tryz.func12, t12⟩, ⟨_, Tryz.func13, t13⟩, ⟨_, Tryz.func14, t14⟩, ⟨_, Tryz.func15, t15⟩, ⟨_, Tryz.func16, t16⟩, ⟨_, Tryz.func17, t17⟩, ⟨_, Tryz.func18, t18⟩, ⟨_, Tryz.func19, t19⟩, ⟨_, Tryz.func20, t20⟩, ⟨_, Tryz.func21, t21⟩, ⟨_, Tryz.func22, t22⟩, ⟨_, Tryz.func23, t23⟩, ⟨_, Tryz.func24, t24⟩, ⟨_, Tryz.func25, t25⟩, ⟨_, Tryz.func26, t26⟩, ⟨_, Tryz.func27, t27⟩, ⟨_, Tryz.func28, t28⟩, ⟨_, Tryz.func29, t29⟩, ⟨_, Tryz.func30, t30⟩, ⟨_, Tryz.func31, t31⟩, ⟨_, Tryz.func32, t32⟩, ⟨_, Tryz.func33, t33⟩, ⟨_, Tryz.func34, t34⟩, ⟨_, Tryz.func35, t35⟩, ⟨_, Tryz.func36, t36⟩, ⟨_, Tryz.func37, t37⟩, ⟨_, Tryz.func38, t38⟩, ⟨_, Tryz.func39, t39⟩, ⟨_, Tryz.func40, t40⟩, ⟨_, Tryz.func41, t41⟩, ⟨_, Tryz.func43, t43⟩, ⟨_, Tryz.func45, t45⟩, ⟨_, Tryz.func46, t46⟩, ⟨_, Tryz.func48, t48⟩, ⟨_, Tryz.func49, t49⟩, ⟨_, Tryz.func52, t52⟩, ⟨_, Tryz.func53, t53⟩, ⟨_, Tryz.func54, t54⟩, ⟨_, Tryz.func55, t55⟩, ⟨_, Tryz.func56, t56⟩, ⟨_, Tryz.func57, t57⟩, ⟨_, Tryz.func59, t59⟩, ⟨_, Tryz.func60, t60⟩, ⟨_, Tryz.func62, t62⟩, ⟨_, Tryz.func64, t64⟩, ⟨_, Tryz.func66, t66⟩, ⟨_, Tryz.func67, t67⟩, ⟨_, Tryz.func68, t68⟩, ⟨_, Tryz.func70, t70⟩, ⟨_, Tryz.func71, t71⟩, ⟨_, Tryz.func72, t72⟩, ⟨_, Tryz.func73, t73⟩, ⟨_, Tryz.func74, t74⟩, ⟨_, Tryz.func75, t75⟩, ⟨_, Tryz.func77, t77⟩, ⟨_, Tryz.func79, t79⟩, ⟨_, Tryz.func80, t80⟩, ⟨_, Tryz.func81, t81⟩, ⟨_, Tryz.func82, t82⟩, ⟨_, Tryz.func85, t85⟩, ⟨_, Tryz.func86, t86⟩, ⟨_, Tryz.func87, t87⟩, ⟨_, Tryz.func88, t88⟩, ⟨_, Tryz.func90, t90⟩, ⟨_, Tryz.func92, t92⟩, ⟨_, Tryz.func93, t93⟩, ⟨_, Tryz.func94, t94⟩, ⟨_, Tryz.func95, t95⟩, ⟨_, Tryz.func96, t96⟩, ⟨_, Tryz.func97, t97⟩, ⟨_, Tryz.func98, t98⟩, ⟨_, Tryz.func99, t99⟩, ⟨_, Tryz.func100, t100⟩, ⟨_, Tryz.func101, t101⟩, ⟨_, Tryz.func108, t108⟩, ⟨_, Tryz.func109, t109⟩, ⟨_, Tryz.func110, t110⟩, ⟨_, Tryz.func111, t111⟩, ⟨_, Tryz.func112, t112⟩, ⟨_, Tryz.func113, t113⟩, ⟨_, Tryz.func114, t114⟩, ⟨_, Tryz.func115, t115⟩, ⟨_, Tryz.func121, t121⟩, ⟨_, Tryz.func123, t123⟩, ⟨_, Tryz.func124, t124⟩, ⟨_, Tryz.func126, t126⟩, ⟨_, Tryz.func129, t129⟩, trivial⟩
noncomputable def prims : List (Nat × Prim) := [(76, pIntP 167 1), (122, idxByte), (127, noEsc)]
theorem prims_le : AllMono prims := ⟨pIntP_mono _ _, idxByte_mono, noEsc_mono, trivial⟩
noncomputable def E : Env := envP tbl prims
noncomputable def shs : List (Nat × Sh) := [(3, w3), (6, w6), (7, w7), (8, w8), (10, w10), (11, w11), (12, w12), (13, w13), (14, w14), (15, w15), (16, w16), (17, w17), (18, w18), (19, w19), (20, w20), (21, w21), (22, w22), (23, w23), (24, w24), (25, w25), (26, w26), (27, w27), (28, w28), (29, w29), (30, w30), (31, w31), (32, w32), (33, w33), (34, w34), (35, w35), (36, w36), (37, w37), (38, w38), (39, w39), (40, w40), (41, w41), (43, w43), (45, w45), (46, w46), (48, w48), (49, w49), (52, w52), (53, w53), (54, w54), (55, w55), (56, w56), (57, w57), (59, w59), (60, w60), (62, w62), (64, w64), (66, w66), (67, w67), (68, w68), (70, w70), (71, w71), (72, w72), (73, w73), (74, w74), (75, w75), (77, w77), (79, w79), (80, w80), (81, w81), (82, w82), (85, w85), (86, w86), (87, w87), (88, w88), (90, w90), (92, w92), (93, w93), (94, w94), (95, w95), (96, w96), (97, w97), (98, w98), (99, w99), (100, w100), (101, w101), (108, w108), (109, w109), (110, w110), (111, w111), (112, w112), (113, w113), (114, w114), (115, w115), (121, w121), (123, w123), (124, w124), (126, w126), (129, w129)]
theorem v3 : ShOK E 3 w3 := w3_ok (by kernel_rfl) (by kernel_rfl)
theorem v6 : ShOK E 6 w6 := w6_ok (by kernel_rfl) (by kernel_rfl)
theorem v7 : ShOK E 7 w7 := w7_ok (by kernel_rfl) (by kernel_rfl)
theorem v8 : ShOK E 8 w8 := w8_ok (by kernel_rfl) (by kernel_rfl)
theorem v10 : ShOK E 10 w10 := w10_ok (by kernel_rfl) (by kernel_rfl)
theorem v11 : ShOK E 11 w11 := w11_ok (by kernel_rfl) (by kernel_rfl)
theorem v12 : ShOK E 12 w12 := w12_ok (by kernel_rfl) (by kernel_rfl)
theorem v13 : ShOK E 13 w13 := w13_ok (by kernel_rfl) (by kernel_rfl)
theorem v14 : ShOK E 14 w14 := w14_ok (by kernel_rfl) (by kernel_rfl)
theorem v15 : ShOK E 15 w15 := w15_ok (by kernel_rfl) (by kernel_rfl)
theorem v16 : ShOK E 16 w16 := w16_ok (by kernel_rfl) (by kernel_rfl)
theorem v17 : ShOK E 17 w17 := w17_ok (by kernel_rfl) (by kernel_rfl)
theorem v18 : ShOK E 18 w18 := w18_ok (by kernel_rfl) (by kernel_rfl)
theorem v19 : ShOK E 19 w19 := w19_ok (by kernel_rfl) (by kernel_rfl)
theorem v20 : ShOK E 20 w20 := w20_ok (by kernel_rfl) (by kernel_rfl)
theorem v21 : ShOK E 21 w21 := w21_ok (by kernel_rfl) (by kernel_rfl)
theorem v22 : ShOK E 22 w22 := w22_ok (by kernel_rfl) (by kernel_rfl)
theorem v23 : ShOK E 23 w23 := w23_ok (by kernel_rfl) (by kernel_rfl)
theorem v24 : ShOK E 24 w24 := w24_ok (by kernel_rfl) (by kernel_rfl)
theorem v25 : ShOK E 25 w25 := w25_ok (by kernel_rfl) (by kernel_rfl)
theorem v26 : ShOK E 26 w26 := w26_ok (by kernel_rfl) (by kernel_rfl)
theorem v27 : ShOK E 27 w27 := w27_ok (by kernel_rfl) (by kernel_rfl)
theorem v28 : ShOK E 28 w28 := w28_ok (by kernel_rfl) (by kernel_rfl)
theorem v29 : ShOK E 29 w29 := w29_ok (by kernel_rfl) (by kernel_rfl)
theorem v30 : ShOK E 30 w30 := w30_ok (by kernel_rfl) (by kernel_rfl)
theorem v31 : ShOK E 31 w31 := w31_ok (by kernel_rfl) (by kernel_rfl)
theorem v32 : ShOK E 32 w32 := w32_ok (by kernel_rfl) (by kernel_rfl)
theorem v33 : ShOK E 33 w33 := w33_ok (by kernel_rfl) (by kernel_rfl)
theorem v34 : ShOK E 34 w34 := w34_ok (by kernel_rfl) (by kernel_rfl)
theorem v35 : ShOK E 35 w35 := w35_ok (by kernel_rfl) (by kernel_rfl)
theorem v36 : ShOK E 36 w36 := w36_ok (by kernel_rfl) (by kernel_rfl)
theorem v37 : ShOK E 37 w37 := w37_ok (by kernel_rfl) (by kernel_rfl)
theorem v38 : ShOK E 38 w38 := w38_ok (by kernel_rfl) (by kernel_rfl)
theorem v39 : ShOK E 39 w39 := w39_ok (by kernel_rfl) (by kernel_rfl)
theorem v40 : ShOK E 40 w40 := w40_ok (by kernel_rfl) (by kernel_rfl)
theorem v41 : ShOK E 41 w41 := w41_ok (by kernel_rfl) (by kernel_rfl)
theorem v43 : ShOK E 43 w43 := w43_ok (by kernel_rfl) (by kernel_rfl)
theorem v45 : ShOK E 45 w45 := w45_ok (by kernel_rfl) (by kernel_rfl)
theorem v46 : ShOK E 46 w46 := w46_ok (by kernel_rfl) (by kernel_rfl)
theorem v48 : ShOK E 48 w48 := w48_ok (by kernel_rfl) (by kernel_rfl)
theorem v49 : ShOK E 49 w49 := w49_ok (by kernel_rfl) (by kernel_rfl)
theorem v52 : ShOK E 52 w52 := w52_ok (by kernel_rfl) (by kernel_rfl)
theorem v53 : ShOK E 53 w53 := w53_ok (by kernel_rfl) (by kernel_rfl)
theorem v54 : ShOK E 54 w54 := w54_ok (by kernel_rfl) (by kernel_rfl)
theorem v55 : ShOK E 55 w55 := w55_ok (by kernel_rfl) (by kernel_rfl)
theorem v56 : ShOK E 56 w56 := w56_ok (by kernel_rfl) (by kernel_rfl)
theorem v57 : ShOK E 57 w57 := w57_ok (by kernel_rfl) (by kernel_rfl)
theorem v59 : ShOK E 59 w59 := w59_ok (by kernel_rfl) (by kernel_rfl)
theorem v60 : ShOK E 60 w60 := w60_ok (by kernel_rfl) (by kernel_rfl)
theorem v62 : ShOK E 62 w62 := w62_ok (by kernel_rfl) (by kernel_rfl)
theorem v64 : ShOK E 64 w64 := w64_ok (by kernel_rfl) (by kernel_rfl)
theorem v66 : ShOK E 66 w66 := w66_ok (by kernel_rfl) (by kernel_rfl)
theorem v67 : ShOK E 67 w67 := w67_ok (by kernel_rfl) (by kernel_rfl)
theorem v68 : ShOK E 68 w68 := w68_ok (by kernel_rfl) (by kernel_rfl)
theorem v70 : ShOK E 70 w70 := w70_ok (by kernel_rfl) (by kernel_rfl)
theorem v71 : ShOK E 71 w71 := w71_ok (by kernel_rfl) (by kernel_rfl)
theorem v72 : ShOK E 72 w72 := w72_ok (by kernel_rfl) (by kernel_rfl)
theorem v73 : ShOK E 73 w73 := w73_ok (by kernel_rfl) (by kernel_rfl)
theorem v74 : ShOK E 74 w74 := w74_ok (by kernel_rfl) (by kernel_rfl)
theorem v75 : ShOK E 75 w75 := w75_ok (by kernel_rfl) (by kernel_rfl)
theorem v77 : ShOK E 77 w77 := w77_ok (by kernel_rfl) (by kernel_rfl)
theorem v79 : ShOK E 79 w79 := w79_ok (by kernel_rfl) (by kernel_rfl)
theorem v80 : ShOK E 80 w80 := w80_ok (by kernel_rfl) (by kernel_rfl)
theorem v81 : ShOK E 81 w81 := w81_ok (by kernel_rfl) (by kernel_rfl)
theorem v82 : ShOK E 82 w82 := w82_ok (by kernel_rfl) (by kernel_rfl)
theorem v85 : ShOK E 85 w85 := w85_ok (by kernel_rfl) (by kernel_rfl)
theorem v86 : ShOK E 86 w86 := w86_ok (by kernel_rfl) (by kernel_rfl)
theorem v87 : ShOK E 87 w87 := w87_ok (by kernel_rfl) (by kernel_rfl)
theorem v88 : ShOK E 88 w88 := w88_ok (by kernel_rfl) (by kernel_rfl)
theorem v90 : ShOK E 90 w90 := w90_ok (by kernel_rfl) (by kernel_rfl)
theorem v92 : ShOK E 92 w92 := w92_ok (by kernel_rfl) (by kernel_rfl)
theorem v93 : ShOK E 93 w93 := w93_ok (by kernel_rfl) (by kernel_rfl)
theorem v94 : ShOK E 94 w94 := w94_ok (by kernel_rfl) (by kernel_rfl)
theorem v95 : ShOK E 95 w95 := w95_ok (by kernel_rfl) (by kernel_rfl)
theorem v96 : ShOK E 96 w96 := w96_ok (by kernel_rfl) (by kernel_rfl)
theorem v97 : ShOK E 97 w97 := w97_ok (by kernel_rfl) (by kernel_rfl)
theorem v98 : ShOK E 98 w98 := w98_ok (by kernel_rfl) (by kernel_rfl)
theorem v99 : ShOK E 99 w99 := w99_ok (by kernel_rfl) (by kernel_rfl)
theorem v100 : ShOK E 100 w100 := w100_ok (by kernel_rfl) (by kernel_rfl)
theorem v101 : ShOK E 101 w101 := w101_ok (by kernel_rfl) (by kernel_rfl)
theorem v108 : ShOK E 108 w108 := w108_ok (by kernel_rfl) (by kernel_rfl)
theorem v109 : ShOK E 109 w109 := w109_ok (by kernel_rfl) (by kernel_rfl)
theorem v110 : ShOK E 110 w110 := w110_ok (by kernel_rfl) (by kernel_rfl)
theorem v111 : ShOK E 111 w111 := w111_ok (by kernel_rfl) (by kernel_rfl)
theorem v112 : ShOK E 112 w112 := w112_ok (by kernel_rfl) (by kernel_rfl)
theorem v113 : ShOK E 113 w113 := w113_ok (by kernel_rfl) (by kernel_rfl)
theorem v114 : ShOK E 114 w114 := w114_ok (by kernel_rfl) (by kernel_rfl)
theorem v115 : ShOK E 115 w115 := w115_ok (by kernel_rfl) (by kernel_rfl)
theorem v121 : ShOK E 121 w121 := w121_ok (by kernel_rfl) (by kernel_rfl)
theorem v123 : ShOK E 123 w123 := w123_ok (by kernel_rfl) (by kernel_rfl)
theorem v124 : ShOK E 124 w124 := w124_ok (by kernel_rfl) (by kernel_rfl)
theorem v126 : ShOK E 126 w126 := w126_ok (by kernel_rfl) (by kernel_rfl)
theorem v129 : ShOK E 129 w129 := w129_ok (by kernel_rfl) (by kernel_rfl)
theorem shs_ok : AllSh E shs := ⟨v3, v6, v7, v8, v10, v11, v12, v13, v14, v15, v16, v17, v18, v19, v20, v21, v22, v23, v24, v25, v26, v27, v28, v29, v30, v31, v32, v33, v34, v35, v36, v37, v38, v39, v40, v41, v43, v45, v46, v48, v49, v52, v53, v54, v55, v56, v57, v59, v60, v62, v64, v66, v67, v68, v70, v71, v72, v73, v74, v75, v77, v79, v80, v81, v82, v85, v86, v87, v88, v90, v92, v93, v94, v95, v96, v97, v98, v99, v100, v101, v108, v109, v110, v111, v112, v113, v114, v115, v121, v123, v124, v126, v129, trivial⟩
noncomputable def tabT : PT Sh := (.nd none (.nd none (.nd none (.nd (some w21) (.nd (some w85) .lf .lf .lf .lf) .lf .lf .lf) (.nd (some w37) (.nd (some w101) .lf .lf .lf .lf) .lf .lf .lf) (.nd (some w53) .lf .lf .lf .lf) .lf) (.nd none (.nd (some w25) .lf .lf .lf .lf) (.nd (some w41) .lf .lf .lf .lf) (.nd (some w57) (.nd (some w121) .lf .lf .lf .lf) .lf .lf .lf) (.nd (some w73) .lf .lf .lf .lf)) (.nd (some w13) (.nd (some w29) (.nd (some w93) .lf .lf .lf .lf) .lf .lf .lf) (.nd (some w45) (.nd (some w109) .lf .lf .lf .lf) .lf .lf .lf) .lf (.nd (some w77) .lf .lf .lf .lf)) (.nd (some w17) (.nd (some w33) (.nd (some w97) .lf .lf .lf .lf) .lf .lf .lf) (.nd (some w49) (.nd (some w113) .lf .lf .lf .lf) .lf .lf .lf) (.nd none (.nd (some w129) .lf .lf .lf .lf) .lf .lf .lf) (.nd (some w81) .lf .lf .lf .lf))) (.nd none (.nd (some w6) (.nd (some w22) (.nd (some w86) .lf .lf .lf .lf) .lf .lf .lf) (.nd (some w38) .lf .lf .lf .lf) (.nd (some w54) .lf .lf .lf .lf) (.nd (some w70) .lf .lf .lf .lf)) (.nd (some w10) (.nd (some w26) (.nd (some w90) .lf .lf .lf .lf) .lf .lf .lf) .lf .lf (.nd (some w74) .lf .lf .lf .lf)) (.nd (some w14) (.nd (some w30) (.nd (some w94) .lf .lf .lf .lf) .lf .lf .lf) (.nd (some w46) (.nd (some w110) .lf .lf .lf .lf) .lf .lf .lf) (.nd (some w62) (.nd (some w126) .lf .lf .lf .lf) .lf .lf .lf) .lf) (.nd (some w18) (.nd (some w34) (.nd (some w98) .lf .lf .lf .lf) .lf .lf .lf) (.nd none (.nd (some w114) .lf .lf .lf .lf) .lf .lf .lf) (.nd (some w66) .lf .lf .lf .lf) (.nd (some w82) .lf .lf .lf .lf))) (.nd (some w3) (.nd (some w7) (.nd (some w23) (.nd (some w87) .lf .lf .lf .lf) .lf .lf .lf) (.nd (some w39) .lf .lf .lf .lf) (.nd (some w55) .lf .lf .lf .lf) (.nd (some w71) .lf .lf .lf .lf)) (.nd (some w11) (.nd (some w27) .lf .lf .lf .lf) (.nd (some w43) .lf .lf .lf .lf) (.nd (some w59) (.nd (some w123) .lf .lf .lf .lf) .lf .lf .lf) (.nd (some w75) .lf .lf .lf .lf)) (.nd (some w15) (.nd (some w31) (.nd (some w95) .lf .lf .lf .lf) .lf .lf .lf) (.nd none (.nd (some w111) .lf .lf .lf .lf) .lf .lf .lf) .lf (.nd (some w79) .lf .lf .lf .lf)) (.nd (some w19) (.nd (some w35) (.nd (some w99) .lf .lf .lf .lf) .lf .lf .lf) (.nd none (.nd (some w115) .lf .lf .lf .lf) .lf .lf .lf) (.nd (some w67) .lf .lf .lf .lf) .lf)) (.nd none (.nd (some w8) (.nd (some w24) (.nd (some w88) .lf .lf .lf .lf) .lf .lf .lf) (.nd (some w40) .lf .lf .lf .lf) (.nd (some w56) .lf .lf .lf .lf) (.nd (some w72) .lf .lf .lf .lf)) (.nd (some w12) (.nd (some w28) (.nd (some w92) .lf .lf .lf .lf) .lf .lf .lf) (.nd none (.nd (some w108) .lf .lf .lf .lf) .lf .lf .lf) (.nd (some w60) (.nd (some w124) .lf .lf .lf .lf) .lf .lf .lf) .lf) (.nd (some w16) (.nd (some w32) (.nd (some w96) .lf .lf .lf .lf) .lf .lf .lf) (.nd (some w48) (.nd (some w112) .lf .lf .lf .lf) .lf .lf .lf) (.nd (some w64) .lf .lf .lf .lf) (.nd (some w80) .lf .lf .lf .lf)) (.nd (some w20) (.nd (some w36) (.nd (some w100) .lf .lf .lf .lf) .lf .lf .lf) (.nd (some w52) .lf .lf .lf .lf) (.nd (some w68) .lf .lf .lf .lf) .lf)))
theorem tabT_eq : tabT = tabL shs := by kernel_rfl
noncomputable def tab (k : Nat) : Option Sh := tabT.get k
theorem tab_ok : ∀ k s, tab k = some s → ShOK E k s := by
  unfold tab
  rw [tabT_eq]
  exact tabL_ok shs_ok
end Go.Proofs.YtplimodjgbhmdaaGreatDoor
