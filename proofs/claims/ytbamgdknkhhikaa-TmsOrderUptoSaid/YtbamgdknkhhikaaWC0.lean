/-
  The code of the functions, as the abstract machine's (printed by wip/tools/gen.py).
-/
import Derived.Test.YtbamgdknkhhikaaAbSim
namespace Go.Proofs.Ytbamgdknkhhikaa
open Go.Ab
set_option linter.unusedVariables false

def c7_22 : ACode := .ret
set_option maxRecDepth 100000 in
def c7_21 : ACode := .reg [{ dst := some 22, op := AOp.mv (Opd.t 3), grd := none }, { dst := some 23, op := AOp.bin (BinOp.eql) (Opd.t 22) (Opd.c (AV.int (IntKind.i64) 0)), grd := none }, { dst := some 24, op := AOp.mv (Opd.t 23), grd := none }, { dst := some 25, op := AOp.mv (Opd.t 4), grd := some (24, true) }, { dst := some 26, op := AOp.bin (BinOp.eql) (Opd.t 25) (Opd.c (AV.int (IntKind.i64) 0)), grd := some (24, true) }, { dst := some 27, op := AOp.pick (Opd.t 24) (Opd.t 26) (Opd.c (AV.bool false)), grd := none }, { dst := some 28, op := AOp.mv (Opd.t 27), grd := none }, { dst := some 29, op := AOp.mv (Opd.t 5), grd := some (28, true) }, { dst := some 30, op := AOp.bin (BinOp.eql) (Opd.t 29) (Opd.c (AV.int (IntKind.i64) 1)), grd := some (28, true) }, { dst := some 31, op := AOp.pick (Opd.t 28) (Opd.t 30) (Opd.c (AV.bool false)), grd := none }, { dst := some 32, op := AOp.mv (Opd.t 31), grd := none }, { dst := some 33, op := AOp.mv (Opd.t 1), grd := some (32, true) }, { dst := some 34, op := AOp.load true 2 (Opd.t 2), grd := some (32, true) }, { dst := some 35, op := AOp.call (Opd.c (AV.fn (AFn.func 24) [] [])) [Opd.t 33, Opd.t 34], grd := some (32, true) }, { dst := some 36, op := AOp.bin (BinOp.eql) (Opd.t 35) (Opd.c (AV.int (IntKind.i64) 1)), grd := some (32, true) }, { dst := some 37, op := AOp.pick (Opd.t 32) (Opd.t 36) (Opd.c (AV.bool false)), grd := none }, { dst := some 38, op := AOp.mv (Opd.t 37), grd := none }, { dst := some 39, op := AOp.mv (Opd.t 1), grd := some (38, true) }, { dst := some 40, op := AOp.call (Opd.c (AV.fn (AFn.func 23) [] [])) [Opd.t 39], grd := some (38, true) }, { dst := some 41, op := AOp.bin (BinOp.eql) (Opd.t 40) (Opd.c (AV.int (IntKind.i64) 1)), grd := some (38, true) }, { dst := some 42, op := AOp.pick (Opd.t 38) (Opd.t 41) (Opd.c (AV.bool false)), grd := none }, { dst := some 43, op := AOp.mv (Opd.t 42), grd := none }, { dst := some 44, op := AOp.mv (Opd.t 1), grd := some (43, true) }, { dst := some 45, op := AOp.call (Opd.c (AV.fn (AFn.func 21) [] [])) [Opd.t 44], grd := some (43, true) }, { dst := some 46, op := AOp.len 1 (Opd.t 45), grd := some (43, true) }, { dst := some 47, op := AOp.bin (BinOp.eql) (Opd.t 46) (Opd.c (AV.int (IntKind.i64) 1)), grd := some (43, true) }, { dst := some 48, op := AOp.pick (Opd.t 43) (Opd.t 47) (Opd.c (AV.bool false)), grd := none }, { dst := some 49, op := AOp.mv (Opd.t 48), grd := none }, { dst := some 50, op := AOp.mv (Opd.t 1), grd := some (49, true) }, { dst := some 51, op := AOp.load true 2 (Opd.t 2), grd := some (49, true) }, { dst := some 52, op := AOp.call (Opd.c (AV.fn (AFn.func 19) [] [])) [Opd.t 50, Opd.t 51], grd := some (49, true) }, { dst := some 53, op := AOp.bin (BinOp.eql) (Opd.t 52) (Opd.c (AV.int (IntKind.i64) 1)), grd := some (49, true) }, { dst := some 54, op := AOp.pick (Opd.t 49) (Opd.t 53) (Opd.c (AV.bool false)), grd := none }, { dst := some 55, op := AOp.mv (Opd.t 54), grd := none }, { dst := some 56, op := AOp.mv (Opd.t 1), grd := some (55, true) }, { dst := some 57, op := AOp.call (Opd.c (AV.fn (AFn.func 21) [] [])) [Opd.t 56], grd := some (55, true) }, { dst := some 58, op := AOp.len 1 (Opd.t 57), grd := some (55, true) }, { dst := some 59, op := AOp.bin (BinOp.eql) (Opd.t 58) (Opd.c (AV.int (IntKind.i64) 0)), grd := some (55, true) }, { dst := some 60, op := AOp.pick (Opd.t 55) (Opd.t 59) (Opd.c (AV.bool false)), grd := none }, { dst := some 0, op := AOp.mv (Opd.t 60), grd := none }]
def c7_20 : ACode := .seq c7_21 c7_22
def c7_19 : ACode := .reg [{ dst := some 20, op := AOp.mv (Opd.t 1), grd := none }, { dst := some 21, op := AOp.call (Opd.c (AV.fn (AFn.func 13) [] [])) [Opd.t 20, Opd.c (AV.fn (AFn.func 33) [] [])], grd := none }, { dst := some 5, op := AOp.mv (Opd.t 21), grd := none }]
def c7_18 : ACode := .seq c7_19 c7_20
def c7_17 : ACode := .reg [{ dst := some 16, op := AOp.mv (Opd.t 1), grd := none }, { dst := some 17, op := AOp.load true 2 (Opd.t 2), grd := none }, { dst := some 18, op := AOp.build [AV.int (IntKind.i64) 0, AV.nilSlc, AV.nilSlc] [(0, 1, Opd.c (AV.int (IntKind.i64) 2))], grd := none }, { dst := some 19, op := AOp.call (Opd.c (AV.fn (AFn.func 10) [] [])) [Opd.t 16, Opd.t 17, Opd.t 18], grd := none }, { dst := some 4, op := AOp.mv (Opd.t 19), grd := none }]
def c7_16 : ACode := .seq c7_17 c7_18
def c7_15 : ACode := .reg [{ dst := some 12, op := AOp.mv (Opd.t 1), grd := none }, { dst := some 13, op := AOp.load true 2 (Opd.t 2), grd := none }, { dst := some 14, op := AOp.build [AV.int (IntKind.i64) 0, AV.nilSlc, AV.nilSlc] [(0, 1, Opd.c (AV.int (IntKind.i64) 1))], grd := none }, { dst := some 15, op := AOp.call (Opd.c (AV.fn (AFn.func 10) [] [])) [Opd.t 12, Opd.t 13, Opd.t 14], grd := none }, { dst := some 3, op := AOp.mv (Opd.t 15), grd := none }]
def c7_14 : ACode := .seq c7_15 c7_16
def c7_13 : ACode := .reg [{ dst := some 9, op := AOp.build [AV.int (IntKind.i64) 0, AV.bool false, AV.int (IntKind.i64) 0, AV.str [], AV.nilSlc] [(0, 1, Opd.c (AV.int (IntKind.i64) 2)), (2, 1, Opd.c (AV.int (IntKind.i64) 1))], grd := none }, { dst := some 10, op := AOp.bslice 1 5 [AV.int (IntKind.i64) 0, AV.bool false, AV.int (IntKind.i64) 0, AV.str [], AV.nilSlc] [(0, Opd.t 9)], grd := none }, { dst := some 11, op := AOp.build [AV.str [], AV.nilSlc] [(0, 1, Opd.c (AV.str [65])), (1, 1, Opd.t 10)], grd := none }, { dst := some 2, op := AOp.alloc [AV.str [], AV.nilSlc], grd := none }, { dst := none, op := AOp.store 2 (Opd.t 2) (Opd.t 11), grd := none }]
def c7_12 : ACode := .seq c7_13 c7_14
def c7_11 : ACode := .skip
def c7_10 : ACode := .ret
def c7_9 : ACode := .reg [{ dst := some 0, op := AOp.mv (Opd.c (AV.bool false)), grd := none }]
def c7_8 : ACode := .seq c7_9 c7_10
def c7_7 : ACode := .cond (.t 8) c7_8 c7_11
def c7_6 : ACode := .reg [{ dst := some 7, op := AOp.mv (Opd.t 1), grd := none }, { dst := some 8, op := AOp.eq false (EqK.ptr) (Opd.t 7) (Opd.c (AV.nilPtr)), grd := none }]
def c7_5 : ACode := .seq c7_6 c7_7
def c7_4 : ACode := .seq c7_5 c7_12
def c7_3 : ACode := .reg [{ dst := some 6, op := AOp.call (Opd.c (AV.fn (AFn.func 8) [] [])) [], grd := none }, { dst := some 1, op := AOp.mv (Opd.t 6), grd := none }]
def c7_2 : ACode := .seq c7_3 c7_4
def c7_1 : ACode := .reg [{ dst := some 0, op := AOp.mv (Opd.c (AV.bool false)), grd := none }]
def c7_0 : ACode := .seq c7_1 c7_2
def A7 : AFun := { np := 0, res := [(0, none)], body := c7_0 }

def c13_69 : ACode := .ret
def c13_68 : ACode := .reg [{ dst := some 68, op := AOp.mv (Opd.t 7), grd := none }, { dst := some 69, op := AOp.load false 1 (Opd.t 2), grd := none }, { dst := some 70, op := AOp.nilck (Opd.t 69), grd := none }, { dst := some 71, op := AOp.fadr 3 (Opd.t 70), grd := none }, { dst := some 72, op := AOp.load false 1 (Opd.t 71), grd := none }, { dst := some 73, op := AOp.bin (BinOp.sub) (Opd.t 68) (Opd.t 72), grd := none }, { dst := some 4, op := AOp.mv (Opd.t 73), grd := none }]
def c13_67 : ACode := .seq c13_68 c13_69
def c13_66 : ACode := .reg [{ dst := some 67, op := AOp.bin (BinOp.add) (Opd.t 36) (Opd.c (AV.int (IntKind.i64) 1)), grd := none }, { dst := some 36, op := AOp.mv (Opd.t 67), grd := none }]
def c13_65 : ACode := .skip
def c13_64 : ACode := .reg [{ dst := some 63, op := AOp.load false 1 (Opd.t 2), grd := none }, { dst := some 64, op := AOp.load true 2 (Opd.t 11), grd := none }, { dst := some 65, op := AOp.load true 2 (Opd.t 9), grd := none }, { dst := some 66, op := AOp.call (Opd.c (AV.fn (AFn.func 48) [] [])) [Opd.t 63, Opd.t 64, Opd.t 65], grd := none }]
def c13_63 : ACode := .reg [{ dst := some 61, op := AOp.ent (Opd.t 58), grd := none }, { dst := some 62, op := AOp.ext (Opd.t 61) 0, grd := none }, { dst := some 11, op := AOp.alloc [AV.str [], AV.str []], grd := none }, { dst := none, op := AOp.store 2 (Opd.t 11) (Opd.t 62), grd := none }]
def c13_62 : ACode := .seq c13_63 c13_64
def c13_61 : ACode := .block 5 c13_62
def c13_60 : ACode := .exit 4
def c13_59 : ACode := .skip
def c13_58 : ACode := .cond (.t 60) c13_59 c13_60
def c13_57 : ACode := .seq c13_58 c13_61
def c13_56 : ACode := .reg [{ dst := some 59, op := AOp.nxt (Opd.t 58), grd := none }, { dst := some 60, op := AOp.ext (Opd.t 59) 0, grd := none }]
def c13_55 : ACode := .seq c13_56 c13_57
def c13_54 : ACode := .loop c13_55
def c13_53 : ACode := .block 4 c13_54
def c13_52 : ACode := .reg [{ dst := some 54, op := AOp.mv (Opd.t 10), grd := none }, { dst := some 55, op := AOp.nilck (Opd.t 54), grd := none }, { dst := some 56, op := AOp.fadr 4 (Opd.t 55), grd := none }, { dst := some 57, op := AOp.load false 1 (Opd.t 56), grd := none }, { dst := some 58, op := AOp.rng (Opd.t 57), grd := none }]
def c13_51 : ACode := .seq c13_52 c13_53
def c13_50 : ACode := .cond (.t 53) c13_51 c13_65
def c13_49 : ACode := .reg [{ dst := some 46, op := AOp.mv (Opd.t 1), grd := none }, { dst := some 47, op := AOp.mv (Opd.t 10), grd := none }, { dst := some 48, op := AOp.nilck (Opd.t 47), grd := none }, { dst := some 49, op := AOp.fadr 0 (Opd.t 48), grd := none }, { dst := some 50, op := AOp.load true 3 (Opd.t 49), grd := none }, { dst := some 51, op := AOp.call (Opd.c (AV.fn (AFn.func 41) [] [])) [Opd.t 50], grd := none }, { dst := some 52, op := AOp.call (Opd.t 46) [Opd.t 51], grd := none }, { dst := some 53, op := AOp.not (Opd.t 52), grd := none }]
def c13_48 : ACode := .seq c13_49 c13_50
def c13_47 : ACode := .dreg [{ dst := some 40, op := AOp.load false 1 (Opd.t 2), grd := none }, { dst := some 41, op := AOp.nilck (Opd.t 40), grd := none }, { dst := some 42, op := AOp.fadr 1 (Opd.t 41), grd := none }, { dst := some 43, op := AOp.load false 1 (Opd.t 42), grd := none }, { dst := some 44, op := AOp.load true 2 (Opd.t 9), grd := none }, { dst := some 45, op := AOp.look (KK.st [K0.int, K0.str]) false (AV.nilPtr) (Opd.t 43) (Opd.t 44), grd := none }, { dst := some 10, op := AOp.mv (Opd.t 45), grd := none }] []
def c13_46 : ACode := .seq c13_47 c13_48
def c13_45 : ACode := .reg [{ dst := some 38, op := AOp.iadr 2 (Opd.t 34) (Opd.t 36), grd := none }, { dst := some 39, op := AOp.load true 2 (Opd.t 38), grd := none }, { dst := some 9, op := AOp.alloc [AV.int (IntKind.i64) 0, AV.str []], grd := none }, { dst := none, op := AOp.store 2 (Opd.t 9) (Opd.t 39), grd := none }]
def c13_44 : ACode := .seq c13_45 c13_46
def c13_43 : ACode := .block 3 c13_44
def c13_42 : ACode := .seq c13_43 c13_66
def c13_41 : ACode := .exit 2
def c13_40 : ACode := .skip
def c13_39 : ACode := .cond (.t 37) c13_40 c13_41
def c13_38 : ACode := .seq c13_39 c13_42
def c13_37 : ACode := .reg [{ dst := some 37, op := AOp.bin (BinOp.lss) (Opd.t 36) (Opd.t 35), grd := none }]
def c13_36 : ACode := .seq c13_37 c13_38
def c13_35 : ACode := .loop c13_36
def c13_34 : ACode := .block 2 c13_35
def c13_33 : ACode := .reg [{ dst := some 34, op := AOp.mv (Opd.t 5), grd := none }, { dst := some 35, op := AOp.len 1 (Opd.t 34), grd := none }, { dst := some 36, op := AOp.mv (Opd.c (AV.int (IntKind.i64) 0)), grd := none }]
def c13_32 : ACode := .seq c13_33 c13_34
def c13_31 : ACode := .seq c13_32 c13_67
def c13_30 : ACode := .reg [{ dst := some 30, op := AOp.load false 1 (Opd.t 2), grd := none }, { dst := some 31, op := AOp.nilck (Opd.t 30), grd := none }, { dst := some 32, op := AOp.fadr 3 (Opd.t 31), grd := none }, { dst := some 33, op := AOp.load false 1 (Opd.t 32), grd := none }, { dst := some 7, op := AOp.mv (Opd.t 33), grd := none }]
def c13_29 : ACode := .seq c13_30 c13_31
def c13_28 : ACode := .reg [{ dst := some 27, op := AOp.mv (Opd.t 5), grd := none }, { dst := some 28, op := AOp.mkfn 47 [] [Opd.t 2], grd := none }, { dst := some 29, op := AOp.call (Opd.c (AV.fn (AFn.func 46) [] [])) [Opd.t 27, Opd.t 28], grd := none }]
def c13_27 : ACode := .seq c13_28 c13_29
def c13_26 : ACode := .reg [{ dst := some 23, op := AOp.mv (Opd.t 5), grd := none }, { dst := some 24, op := AOp.load true 2 (Opd.t 6), grd := none }, { dst := some 25, op := AOp.bslice 1 2 [AV.int (IntKind.i64) 0, AV.str []] [(0, Opd.t 24)], grd := none }, { dst := some 26, op := AOp.app 2 24 (Opd.t 23) (Opd.t 25), grd := none }, { dst := some 5, op := AOp.mv (Opd.t 26), grd := none }]
def c13_25 : ACode := .reg [{ dst := some 21, op := AOp.ent (Opd.t 18), grd := none }, { dst := some 22, op := AOp.ext (Opd.t 21) 0, grd := none }, { dst := some 6, op := AOp.alloc [AV.int (IntKind.i64) 0, AV.str []], grd := none }, { dst := none, op := AOp.store 2 (Opd.t 6) (Opd.t 22), grd := none }]
def c13_24 : ACode := .seq c13_25 c13_26
def c13_23 : ACode := .block 1 c13_24
def c13_22 : ACode := .exit 0
def c13_21 : ACode := .skip
def c13_20 : ACode := .cond (.t 20) c13_21 c13_22
def c13_19 : ACode := .seq c13_20 c13_23
def c13_18 : ACode := .reg [{ dst := some 19, op := AOp.nxt (Opd.t 18), grd := none }, { dst := some 20, op := AOp.ext (Opd.t 19) 0, grd := none }]
def c13_17 : ACode := .seq c13_18 c13_19
def c13_16 : ACode := .loop c13_17
def c13_15 : ACode := .block 0 c13_16
def c13_14 : ACode := .reg [{ dst := some 14, op := AOp.load false 1 (Opd.t 2), grd := none }, { dst := some 15, op := AOp.nilck (Opd.t 14), grd := none }, { dst := some 16, op := AOp.fadr 1 (Opd.t 15), grd := none }, { dst := some 17, op := AOp.load false 1 (Opd.t 16), grd := none }, { dst := some 18, op := AOp.rng (Opd.t 17), grd := none }]
def c13_13 : ACode := .seq c13_14 c13_15
def c13_12 : ACode := .seq c13_13 c13_27
def c13_11 : ACode := .reg [{ dst := some 5, op := AOp.mv (Opd.c (AV.nilSlc)), grd := none }]
def c13_10 : ACode := .seq c13_11 c13_12
def c13_9 : ACode := .skip
def c13_8 : ACode := .ret
def c13_7 : ACode := .reg [{ dst := some 4, op := AOp.mv (Opd.c (AV.int (IntKind.i64) 0)), grd := none }]
def c13_6 : ACode := .seq c13_7 c13_8
def c13_5 : ACode := .cond (.t 13) c13_6 c13_9
def c13_4 : ACode := .reg [{ dst := some 12, op := AOp.mv (Opd.t 1), grd := none }, { dst := some 13, op := AOp.eq false (EqK.fn) (Opd.t 12) (Opd.c (AV.nilFn)), grd := none }]
def c13_3 : ACode := .seq c13_4 c13_5
def c13_2 : ACode := .seq c13_3 c13_10
def c13_1 : ACode := .reg [{ dst := some 2, op := AOp.box 1 (Opd.t 0), grd := none }, { dst := some 4, op := AOp.mv (Opd.c (AV.int (IntKind.i64) 0)), grd := none }]
def c13_0 : ACode := .seq c13_1 c13_2
def A13 : AFun := { np := 2, res := [(4, none)], body := c13_0 }

def c23_4 : ACode := .ret
def c23_3 : ACode := .reg [{ dst := some 3, op := AOp.mv (Opd.t 0), grd := none }, { dst := some 4, op := AOp.nilck (Opd.t 3), grd := none }, { dst := some 5, op := AOp.fadr 3 (Opd.t 4), grd := none }, { dst := some 6, op := AOp.load false 1 (Opd.t 5), grd := none }, { dst := some 2, op := AOp.mv (Opd.t 6), grd := none }]
def c23_2 : ACode := .seq c23_3 c23_4
def c23_1 : ACode := .reg [{ dst := some 2, op := AOp.mv (Opd.c (AV.int (IntKind.i64) 0)), grd := none }]
def c23_0 : ACode := .seq c23_1 c23_2
def A23 : AFun := { np := 1, res := [(2, none)], body := c23_0 }

def c24_14 : ACode := .ret
def c24_13 : ACode := .reg [{ dst := some 20, op := AOp.mv (Opd.t 5), grd := none }, { dst := some 21, op := AOp.nilck (Opd.t 20), grd := none }, { dst := some 22, op := AOp.fadr 3 (Opd.t 21), grd := none }, { dst := some 23, op := AOp.load false 1 (Opd.t 22), grd := none }, { dst := some 24, op := AOp.len 2 (Opd.t 23), grd := none }, { dst := some 4, op := AOp.mv (Opd.t 24), grd := none }]
def c24_12 : ACode := .seq c24_13 c24_14
def c24_11 : ACode := .skip
def c24_10 : ACode := .ret
def c24_9 : ACode := .reg [{ dst := some 4, op := AOp.mv (Opd.c (AV.int (IntKind.i64) 0)), grd := none }]
def c24_8 : ACode := .seq c24_9 c24_10
def c24_7 : ACode := .cond (.t 19) c24_8 c24_11
def c24_6 : ACode := .reg [{ dst := some 13, op := AOp.mv (Opd.t 5), grd := none }, { dst := some 14, op := AOp.eq false (EqK.ptr) (Opd.t 13) (Opd.c (AV.nilPtr)), grd := none }, { dst := some 15, op := AOp.mv (Opd.t 14), grd := none }, { dst := some 16, op := AOp.fadr 1 (Opd.t 3), grd := some (15, false) }, { dst := some 17, op := AOp.load false 1 (Opd.t 16), grd := some (15, false) }, { dst := some 18, op := AOp.call (Opd.c (AV.fn (AFn.func 35) [] [])) [Opd.t 17], grd := some (15, false) }, { dst := some 19, op := AOp.pick (Opd.t 15) (Opd.c (AV.bool true)) (Opd.t 18), grd := none }]
def c24_5 : ACode := .seq c24_6 c24_7
def c24_4 : ACode := .seq c24_5 c24_12
def c24_3 : ACode := .dreg [{ dst := some 6, op := AOp.mv (Opd.t 0), grd := none }, { dst := some 7, op := AOp.nilck (Opd.t 6), grd := none }, { dst := some 8, op := AOp.fadr 0 (Opd.t 7), grd := none }, { dst := some 9, op := AOp.load false 1 (Opd.t 8), grd := none }, { dst := some 10, op := AOp.load true 2 (Opd.t 3), grd := none }] [({ dst := some 11, op := AOp.call (Opd.c (AV.fn (AFn.func 38) [] [])) [Opd.t 10], grd := none }, [{ dst := some 9, op := AOp.load false 1 (Opd.t 8), grd := none }], [{ dst := some 12, op := AOp.look (KK.st [K0.str, K0.str]) false (AV.nilPtr) (Opd.t 9) (Opd.t 11), grd := none }, { dst := some 5, op := AOp.mv (Opd.t 12), grd := none }])]
def c24_2 : ACode := .seq c24_3 c24_4
def c24_1 : ACode := .reg [{ dst := some 3, op := AOp.box 2 (Opd.t 1), grd := none }, { dst := some 4, op := AOp.mv (Opd.c (AV.int (IntKind.i64) 0)), grd := none }]
def c24_0 : ACode := .seq c24_1 c24_2
def A24 : AFun := { np := 2, res := [(4, none)], body := c24_0 }

def c33_4 : ACode := .ret
def c33_3 : ACode := .reg [{ dst := some 3, op := AOp.fadr 0 (Opd.t 1), grd := none }, { dst := some 4, op := AOp.load false 1 (Opd.t 3), grd := none }, { dst := some 5, op := AOp.bin (BinOp.eql) (Opd.t 4) (Opd.c (AV.int (IntKind.i64) 2)), grd := none }, { dst := some 2, op := AOp.mv (Opd.t 5), grd := none }]
def c33_2 : ACode := .seq c33_3 c33_4
def c33_1 : ACode := .reg [{ dst := some 1, op := AOp.box 3 (Opd.t 0), grd := none }, { dst := some 2, op := AOp.mv (Opd.c (AV.bool false)), grd := none }]
def c33_0 : ACode := .seq c33_1 c33_2
def A33 : AFun := { np := 1, res := [(2, none)], body := c33_0 }

def c46_2 : ACode := .reg [{ dst := some 7, op := AOp.mv (Opd.t 0), grd := none }, { dst := some 8, op := AOp.mv (Opd.t 4), grd := none }, { dst := some 9, op := AOp.mv (Opd.t 4), grd := none }, { dst := some 10, op := AOp.conv (IntKind.u64) (Opd.t 9), grd := none }, { dst := some 11, op := AOp.call (Opd.c (AV.fn (AFn.func 64) [] [])) [Opd.t 10], grd := none }, { dst := some 12, op := AOp.mv (Opd.t 1), grd := none }, { dst := some 13, op := AOp.call (Opd.c (AV.fn (AFn.func 63) [] [])) [Opd.t 7, Opd.c (AV.int (IntKind.i64) 0), Opd.t 8, Opd.t 11, Opd.t 12], grd := none }]
def c46_1 : ACode := .reg [{ dst := some 5, op := AOp.mv (Opd.t 0), grd := none }, { dst := some 6, op := AOp.len 1 (Opd.t 5), grd := none }, { dst := some 4, op := AOp.mv (Opd.t 6), grd := none }]
def c46_0 : ACode := .seq c46_1 c46_2
def A46 : AFun := { np := 2, res := [], body := c46_0 }

def c47_4 : ACode := .ret
def c47_3 : ACode := .dreg [{ dst := some 6, op := AOp.load false 1 (Opd.t 2), grd := none }, { dst := some 7, op := AOp.nilck (Opd.t 6), grd := none }, { dst := some 8, op := AOp.fadr 1 (Opd.t 7), grd := none }, { dst := some 9, op := AOp.load false 1 (Opd.t 8), grd := none }, { dst := some 10, op := AOp.load true 2 (Opd.t 3), grd := none }, { dst := some 11, op := AOp.look (KK.st [K0.int, K0.str]) false (AV.nilPtr) (Opd.t 9) (Opd.t 10), grd := none }, { dst := some 12, op := AOp.nilck (Opd.t 11), grd := none }, { dst := some 13, op := AOp.fadr 3 (Opd.t 12), grd := none }, { dst := some 14, op := AOp.load false 1 (Opd.t 13), grd := none }, { dst := some 15, op := AOp.load false 1 (Opd.t 2), grd := none }, { dst := some 16, op := AOp.nilck (Opd.t 15), grd := none }, { dst := some 17, op := AOp.fadr 1 (Opd.t 16), grd := none }, { dst := some 18, op := AOp.load false 1 (Opd.t 17), grd := none }, { dst := some 19, op := AOp.load true 2 (Opd.t 4), grd := none }, { dst := some 20, op := AOp.look (KK.st [K0.int, K0.str]) false (AV.nilPtr) (Opd.t 18) (Opd.t 19), grd := none }, { dst := some 21, op := AOp.nilck (Opd.t 20), grd := none }, { dst := some 22, op := AOp.fadr 3 (Opd.t 21), grd := none }, { dst := some 23, op := AOp.load false 1 (Opd.t 22), grd := none }, { dst := some 24, op := AOp.bin (BinOp.sub) (Opd.t 14) (Opd.t 23), grd := none }, { dst := some 5, op := AOp.mv (Opd.t 24), grd := none }] []
def c47_2 : ACode := .seq c47_3 c47_4
def c47_1 : ACode := .reg [{ dst := some 3, op := AOp.box 2 (Opd.t 0), grd := none }, { dst := some 4, op := AOp.box 2 (Opd.t 1), grd := none }, { dst := some 5, op := AOp.mv (Opd.c (AV.int (IntKind.i64) 0)), grd := none }]
def c47_0 : ACode := .seq c47_1 c47_2
def A47 : AFun := { np := 3, res := [(5, none)], body := c47_0 }

def c51_2 : ACode := .reg [{ dst := some 7, op := AOp.mv (Opd.t 0), grd := none }, { dst := some 8, op := AOp.mv (Opd.t 4), grd := none }, { dst := some 9, op := AOp.mv (Opd.t 4), grd := none }, { dst := some 10, op := AOp.conv (IntKind.u64) (Opd.t 9), grd := none }, { dst := some 11, op := AOp.call (Opd.c (AV.fn (AFn.func 64) [] [])) [Opd.t 10], grd := none }, { dst := some 12, op := AOp.mv (Opd.t 1), grd := none }, { dst := some 13, op := AOp.call (Opd.c (AV.fn (AFn.func 65) [] [])) [Opd.t 7, Opd.c (AV.int (IntKind.i64) 0), Opd.t 8, Opd.t 11, Opd.t 12], grd := none }]
def c51_1 : ACode := .reg [{ dst := some 5, op := AOp.mv (Opd.t 0), grd := none }, { dst := some 6, op := AOp.len 1 (Opd.t 5), grd := none }, { dst := some 4, op := AOp.mv (Opd.t 6), grd := none }]
def c51_0 : ACode := .seq c51_1 c51_2
def A51 : AFun := { np := 2, res := [], body := c51_0 }

def c63_85 : ACode := .reg [{ dst := some 147, op := AOp.mv (Opd.t 16), grd := none }, { dst := some 2, op := AOp.mv (Opd.t 147), grd := none }]
def c63_84 : ACode := .reg [{ dst := some 140, op := AOp.mv (Opd.t 0), grd := none }, { dst := some 141, op := AOp.mv (Opd.t 16), grd := none }, { dst := some 142, op := AOp.bin (BinOp.add) (Opd.t 141) (Opd.c (AV.int (IntKind.i64) 1)), grd := none }, { dst := some 143, op := AOp.mv (Opd.t 2), grd := none }, { dst := some 144, op := AOp.mv (Opd.t 3), grd := none }, { dst := some 145, op := AOp.mv (Opd.t 4), grd := none }, { dst := some 146, op := AOp.call (Opd.c (AV.fn (AFn.func 63) [] [])) [Opd.t 140, Opd.t 142, Opd.t 143, Opd.t 144, Opd.t 145], grd := none }]
def c63_83 : ACode := .seq c63_84 c63_85
def c63_82 : ACode := .reg [{ dst := some 137, op := AOp.mv (Opd.t 19), grd := none }, { dst := some 138, op := AOp.mv (Opd.t 20), grd := none }, { dst := some 139, op := AOp.bin (BinOp.geq) (Opd.t 137) (Opd.t 138), grd := none }, { dst := some 10, op := AOp.mv (Opd.t 139), grd := none }]
def c63_81 : ACode := .seq c63_82 c63_83
def c63_80 : ACode := .reg [{ dst := some 135, op := AOp.mv (Opd.t 16), grd := none }, { dst := some 136, op := AOp.bin (BinOp.add) (Opd.t 135) (Opd.c (AV.int (IntKind.i64) 1)), grd := none }, { dst := some 1, op := AOp.mv (Opd.t 136), grd := none }]
def c63_79 : ACode := .reg [{ dst := some 129, op := AOp.mv (Opd.t 0), grd := none }, { dst := some 130, op := AOp.mv (Opd.t 1), grd := none }, { dst := some 131, op := AOp.mv (Opd.t 16), grd := none }, { dst := some 132, op := AOp.mv (Opd.t 3), grd := none }, { dst := some 133, op := AOp.mv (Opd.t 4), grd := none }, { dst := some 134, op := AOp.call (Opd.c (AV.fn (AFn.func 63) [] [])) [Opd.t 129, Opd.t 130, Opd.t 131, Opd.t 132, Opd.t 133], grd := none }]
def c63_78 : ACode := .seq c63_79 c63_80
def c63_77 : ACode := .reg [{ dst := some 126, op := AOp.mv (Opd.t 18), grd := none }, { dst := some 127, op := AOp.mv (Opd.t 20), grd := none }, { dst := some 128, op := AOp.bin (BinOp.geq) (Opd.t 126) (Opd.t 127), grd := none }, { dst := some 10, op := AOp.mv (Opd.t 128), grd := none }]
def c63_76 : ACode := .seq c63_77 c63_78
def c63_75 : ACode := .cond (.t 125) c63_76 c63_81
def c63_74 : ACode := .reg [{ dst := some 123, op := AOp.mv (Opd.t 18), grd := none }, { dst := some 124, op := AOp.mv (Opd.t 19), grd := none }, { dst := some 125, op := AOp.bin (BinOp.lss) (Opd.t 123) (Opd.t 124), grd := none }]
def c63_73 : ACode := .seq c63_74 c63_75
def c63_72 : ACode := .reg [{ dst := some 121, op := AOp.mv (Opd.t 12), grd := none }, { dst := some 122, op := AOp.bin (BinOp.quo) (Opd.t 121) (Opd.c (AV.int (IntKind.i64) 8)), grd := none }, { dst := some 20, op := AOp.mv (Opd.t 122), grd := none }]
def c63_71 : ACode := .seq c63_72 c63_73
def c63_70 : ACode := .reg [{ dst := some 115, op := AOp.mv (Opd.t 16), grd := none }, { dst := some 116, op := AOp.mv (Opd.t 1), grd := none }, { dst := some 117, op := AOp.bin (BinOp.sub) (Opd.t 115) (Opd.t 116), grd := none }, { dst := some 118, op := AOp.mv (Opd.t 2), grd := none }, { dst := some 119, op := AOp.mv (Opd.t 16), grd := none }, { dst := some 120, op := AOp.bin (BinOp.sub) (Opd.t 118) (Opd.t 119), grd := none }, { dst := some 18, op := AOp.mv (Opd.t 117), grd := none }, { dst := some 19, op := AOp.mv (Opd.t 120), grd := none }]
def c63_69 : ACode := .seq c63_70 c63_71
def c63_68 : ACode := .reg [{ dst := some 114, op := AOp.mv (Opd.t 17), grd := none }, { dst := some 11, op := AOp.mv (Opd.t 114), grd := none }]
def c63_67 : ACode := .seq c63_68 c63_69
def c63_66 : ACode := .reg [{ dst := some 106, op := AOp.mv (Opd.t 0), grd := none }, { dst := some 107, op := AOp.mv (Opd.t 1), grd := none }, { dst := some 108, op := AOp.mv (Opd.t 2), grd := none }, { dst := some 109, op := AOp.mv (Opd.t 13), grd := none }, { dst := some 110, op := AOp.mv (Opd.t 4), grd := none }, { dst := some 111, op := AOp.call (Opd.c (AV.fn (AFn.func 77) [] [])) [Opd.t 106, Opd.t 107, Opd.t 108, Opd.t 109, Opd.t 110], grd := none }, { dst := some 105, op := AOp.mv (Opd.t 111), grd := none }, { dst := some 112, op := AOp.ext (Opd.t 105) 0, grd := none }, { dst := some 113, op := AOp.ext (Opd.t 105) 1, grd := none }, { dst := some 16, op := AOp.mv (Opd.t 112), grd := none }, { dst := some 17, op := AOp.mv (Opd.t 113), grd := none }]
def c63_65 : ACode := .seq c63_66 c63_67
def c63_64 : ACode := .skip
def c63_63 : ACode := .exit 1
def c63_62 : ACode := .reg [{ dst := some 104, op := AOp.mv (Opd.t 15), grd := none }, { dst := some 1, op := AOp.mv (Opd.t 104), grd := none }]
def c63_61 : ACode := .seq c63_62 c63_63
def c63_60 : ACode := .reg [{ dst := some 98, op := AOp.mv (Opd.t 0), grd := none }, { dst := some 99, op := AOp.mv (Opd.t 1), grd := none }, { dst := some 100, op := AOp.mv (Opd.t 2), grd := none }, { dst := some 101, op := AOp.mv (Opd.t 13), grd := none }, { dst := some 102, op := AOp.mv (Opd.t 4), grd := none }, { dst := some 103, op := AOp.call (Opd.c (AV.fn (AFn.func 76) [] [])) [Opd.t 98, Opd.t 99, Opd.t 100, Opd.t 101, Opd.t 102], grd := none }, { dst := some 15, op := AOp.mv (Opd.t 103), grd := none }]
def c63_59 : ACode := .seq c63_60 c63_61
def c63_58 : ACode := .cond (.t 97) c63_59 c63_64
def c63_57 : ACode := .dreg [{ dst := some 81, op := AOp.mv (Opd.t 1), grd := none }, { dst := some 82, op := AOp.bin (BinOp.gtr) (Opd.t 81) (Opd.c (AV.int (IntKind.i64) 0)), grd := none }, { dst := some 83, op := AOp.mv (Opd.t 82), grd := none }, { dst := some 84, op := AOp.mv (Opd.t 4), grd := some (83, true) }, { dst := some 85, op := AOp.mv (Opd.t 0), grd := some (83, true) }, { dst := some 86, op := AOp.mv (Opd.t 1), grd := some (83, true) }, { dst := some 87, op := AOp.bin (BinOp.sub) (Opd.t 86) (Opd.c (AV.int (IntKind.i64) 1)), grd := some (83, true) }, { dst := some 88, op := AOp.iadr 2 (Opd.t 85) (Opd.t 87), grd := some (83, true) }, { dst := some 89, op := AOp.load true 2 (Opd.t 88), grd := some (83, true) }, { dst := some 90, op := AOp.mv (Opd.t 0), grd := some (83, true) }, { dst := some 91, op := AOp.mv (Opd.t 13), grd := some (83, true) }, { dst := some 92, op := AOp.iadr 2 (Opd.t 90) (Opd.t 91), grd := some (83, true) }, { dst := some 93, op := AOp.load true 2 (Opd.t 92), grd := some (83, true) }] [({ dst := some 94, op := AOp.call (Opd.t 84) [Opd.t 89, Opd.t 93], grd := some (83, true) }, [], [{ dst := some 95, op := AOp.bin (BinOp.lss) (Opd.t 94) (Opd.c (AV.int (IntKind.i64) 0)), grd := some (83, true) }, { dst := some 96, op := AOp.not (Opd.t 95), grd := some (83, true) }, { dst := some 97, op := AOp.pick (Opd.t 83) (Opd.t 96) (Opd.c (AV.bool false)), grd := none }])]
def c63_56 : ACode := .seq c63_57 c63_58
def c63_55 : ACode := .seq c63_56 c63_65
def c63_54 : ACode := .skip
def c63_53 : ACode := .skip
def c63_52 : ACode := .ret
def c63_51 : ACode := .cond (.t 80) c63_52 c63_53
def c63_50 : ACode := .reg [{ dst := some 76, op := AOp.mv (Opd.t 0), grd := none }, { dst := some 77, op := AOp.mv (Opd.t 1), grd := none }, { dst := some 78, op := AOp.mv (Opd.t 2), grd := none }, { dst := some 79, op := AOp.mv (Opd.t 4), grd := none }, { dst := some 80, op := AOp.call (Opd.c (AV.fn (AFn.func 75) [] [])) [Opd.t 76, Opd.t 77, Opd.t 78, Opd.t 79], grd := none }]
def c63_49 : ACode := .seq c63_50 c63_51
def c63_48 : ACode := .cond (.t 75) c63_49 c63_54
def c63_47 : ACode := .reg [{ dst := some 68, op := AOp.mv (Opd.t 10), grd := none }, { dst := some 69, op := AOp.mv (Opd.t 68), grd := none }, { dst := some 70, op := AOp.mv (Opd.t 11), grd := some (69, true) }, { dst := some 71, op := AOp.pick (Opd.t 69) (Opd.t 70) (Opd.c (AV.bool false)), grd := none }, { dst := some 72, op := AOp.mv (Opd.t 71), grd := none }, { dst := some 73, op := AOp.mv (Opd.t 14), grd := some (72, true) }, { dst := some 74, op := AOp.bin (BinOp.eql) (Opd.t 73) (Opd.c (AV.int (IntKind.i64) 1)), grd := some (72, true) }, { dst := some 75, op := AOp.pick (Opd.t 72) (Opd.t 74) (Opd.c (AV.bool false)), grd := none }]
def c63_46 : ACode := .seq c63_47 c63_48
def c63_45 : ACode := .seq c63_46 c63_55
def c63_44 : ACode := .skip
def c63_43 : ACode := .reg [{ dst := some 14, op := AOp.mv (Opd.c (AV.int (IntKind.i64) 1)), grd := none }]
def c63_42 : ACode := .reg [{ dst := some 62, op := AOp.mv (Opd.t 2), grd := none }, { dst := some 63, op := AOp.bin (BinOp.sub) (Opd.t 62) (Opd.c (AV.int (IntKind.i64) 1)), grd := none }, { dst := some 64, op := AOp.mv (Opd.t 13), grd := none }, { dst := some 65, op := AOp.mv (Opd.t 1), grd := none }, { dst := some 66, op := AOp.bin (BinOp.sub) (Opd.t 64) (Opd.t 65), grd := none }, { dst := some 67, op := AOp.bin (BinOp.sub) (Opd.t 63) (Opd.t 66), grd := none }, { dst := some 13, op := AOp.mv (Opd.t 67), grd := none }]
def c63_41 : ACode := .seq c63_42 c63_43
def c63_40 : ACode := .reg [{ dst := some 57, op := AOp.mv (Opd.t 0), grd := none }, { dst := some 58, op := AOp.mv (Opd.t 1), grd := none }, { dst := some 59, op := AOp.mv (Opd.t 2), grd := none }, { dst := some 60, op := AOp.mv (Opd.t 4), grd := none }, { dst := some 61, op := AOp.call (Opd.c (AV.fn (AFn.func 74) [] [])) [Opd.t 57, Opd.t 58, Opd.t 59, Opd.t 60], grd := none }]
def c63_39 : ACode := .seq c63_40 c63_41
def c63_38 : ACode := .cond (.t 56) c63_39 c63_44
def c63_37 : ACode := .reg [{ dst := some 55, op := AOp.mv (Opd.t 14), grd := none }, { dst := some 56, op := AOp.bin (BinOp.eql) (Opd.t 55) (Opd.c (AV.int (IntKind.i64) 2)), grd := none }]
def c63_36 : ACode := .seq c63_37 c63_38
def c63_35 : ACode := .seq c63_36 c63_45
def c63_34 : ACode := .reg [{ dst := some 48, op := AOp.mv (Opd.t 0), grd := none }, { dst := some 49, op := AOp.mv (Opd.t 1), grd := none }, { dst := some 50, op := AOp.mv (Opd.t 2), grd := none }, { dst := some 51, op := AOp.mv (Opd.t 4), grd := none }, { dst := some 52, op := AOp.call (Opd.c (AV.fn (AFn.func 73) [] [])) [Opd.t 48, Opd.t 49, Opd.t 50, Opd.t 51], grd := none }, { dst := some 47, op := AOp.mv (Opd.t 52), grd := none }, { dst := some 53, op := AOp.ext (Opd.t 47) 0, grd := none }, { dst := some 54, op := AOp.ext (Opd.t 47) 1, grd := none }, { dst := some 13, op := AOp.mv (Opd.t 53), grd := none }, { dst := some 14, op := AOp.mv (Opd.t 54), grd := none }]
def c63_33 : ACode := .seq c63_34 c63_35
def c63_32 : ACode := .skip
def c63_31 : ACode := .reg [{ dst := some 45, op := AOp.mv (Opd.t 3), grd := none }, { dst := some 46, op := AOp.bin (BinOp.sub) (Opd.t 45) (Opd.c (AV.int (IntKind.i64) 1)), grd := none }, { dst := some 3, op := AOp.mv (Opd.t 46), grd := none }]
def c63_30 : ACode := .reg [{ dst := some 40, op := AOp.mv (Opd.t 0), grd := none }, { dst := some 41, op := AOp.mv (Opd.t 1), grd := none }, { dst := some 42, op := AOp.mv (Opd.t 2), grd := none }, { dst := some 43, op := AOp.mv (Opd.t 4), grd := none }, { dst := some 44, op := AOp.call (Opd.c (AV.fn (AFn.func 72) [] [])) [Opd.t 40, Opd.t 41, Opd.t 42, Opd.t 43], grd := none }]
def c63_29 : ACode := .seq c63_30 c63_31
def c63_28 : ACode := .cond (.t 39) c63_29 c63_32
def c63_27 : ACode := .reg [{ dst := some 38, op := AOp.mv (Opd.t 10), grd := none }, { dst := some 39, op := AOp.not (Opd.t 38), grd := none }]
def c63_26 : ACode := .seq c63_27 c63_28
def c63_25 : ACode := .seq c63_26 c63_33
def c63_24 : ACode := .skip
def c63_23 : ACode := .ret
def c63_22 : ACode := .reg [{ dst := some 33, op := AOp.mv (Opd.t 0), grd := none }, { dst := some 34, op := AOp.mv (Opd.t 1), grd := none }, { dst := some 35, op := AOp.mv (Opd.t 2), grd := none }, { dst := some 36, op := AOp.mv (Opd.t 4), grd := none }, { dst := some 37, op := AOp.call (Opd.c (AV.fn (AFn.func 71) [] [])) [Opd.t 33, Opd.t 34, Opd.t 35, Opd.t 36], grd := none }]
def c63_21 : ACode := .seq c63_22 c63_23
def c63_20 : ACode := .cond (.t 32) c63_21 c63_24
def c63_19 : ACode := .reg [{ dst := some 31, op := AOp.mv (Opd.t 3), grd := none }, { dst := some 32, op := AOp.bin (BinOp.eql) (Opd.t 31) (Opd.c (AV.int (IntKind.i64) 0)), grd := none }]
def c63_18 : ACode := .seq c63_19 c63_20
def c63_17 : ACode := .seq c63_18 c63_25
def c63_16 : ACode := .skip
def c63_15 : ACode := .ret
def c63_14 : ACode := .reg [{ dst := some 26, op := AOp.mv (Opd.t 0), grd := none }, { dst := some 27, op := AOp.mv (Opd.t 1), grd := none }, { dst := some 28, op := AOp.mv (Opd.t 2), grd := none }, { dst := some 29, op := AOp.mv (Opd.t 4), grd := none }, { dst := some 30, op := AOp.call (Opd.c (AV.fn (AFn.func 70) [] [])) [Opd.t 26, Opd.t 27, Opd.t 28, Opd.t 29], grd := none }]
def c63_13 : ACode := .seq c63_14 c63_15
def c63_12 : ACode := .cond (.t 25) c63_13 c63_16
def c63_11 : ACode := .reg [{ dst := some 24, op := AOp.mv (Opd.t 12), grd := none }, { dst := some 25, op := AOp.bin (BinOp.leq) (Opd.t 24) (Opd.c (AV.int (IntKind.i64) 12)), grd := none }]
def c63_10 : ACode := .seq c63_11 c63_12
def c63_9 : ACode := .seq c63_10 c63_17
def c63_8 : ACode := .reg [{ dst := some 21, op := AOp.mv (Opd.t 2), grd := none }, { dst := some 22, op := AOp.mv (Opd.t 1), grd := none }, { dst := some 23, op := AOp.bin (BinOp.sub) (Opd.t 21) (Opd.t 22), grd := none }, { dst := some 12, op := AOp.mv (Opd.t 23), grd := none }]
def c63_7 : ACode := .seq c63_8 c63_9
def c63_6 : ACode := .block 1 c63_7
def c63_5 : ACode := .loop c63_6
def c63_4 : ACode := .block 0 c63_5
def c63_3 : ACode := .reg [{ dst := some 11, op := AOp.mv (Opd.c (AV.bool true)), grd := none }]
def c63_2 : ACode := .seq c63_3 c63_4
def c63_1 : ACode := .reg [{ dst := some 10, op := AOp.mv (Opd.c (AV.bool true)), grd := none }]
def c63_0 : ACode := .seq c63_1 c63_2
def A63 : AFun := { np := 5, res := [], body := c63_0 }

def c64_10 : ACode := .ret
def c64_9 : ACode := .reg [{ dst := some 6, op := AOp.mv (Opd.t 0), grd := none }, { dst := some 7, op := AOp.call (Opd.c (AV.fn (AFn.func 79) [] [])) [Opd.t 6], grd := none }, { dst := some 2, op := AOp.mv (Opd.t 7), grd := none }]
def c64_8 : ACode := .seq c64_9 c64_10
def c64_7 : ACode := .skip
def c64_6 : ACode := .ret
def c64_5 : ACode := .reg [{ dst := some 3, op := AOp.mv (Opd.t 0), grd := none }, { dst := some 4, op := AOp.conv (IntKind.u32) (Opd.t 3), grd := none }, { dst := some 5, op := AOp.call (Opd.c (AV.fn (AFn.func 78) [] [])) [Opd.t 4], grd := none }, { dst := some 2, op := AOp.mv (Opd.t 5), grd := none }]
def c64_4 : ACode := .seq c64_5 c64_6
def c64_3 : ACode := .cond (.c (AV.bool false)) c64_4 c64_7
def c64_2 : ACode := .seq c64_3 c64_8
def c64_1 : ACode := .reg [{ dst := some 2, op := AOp.mv (Opd.c (AV.int (IntKind.i64) 0)), grd := none }]
def c64_0 : ACode := .seq c64_1 c64_2
def A64 : AFun := { np := 1, res := [(2, none)], body := c64_0 }

def c65_85 : ACode := .reg [{ dst := some 147, op := AOp.mv (Opd.t 16), grd := none }, { dst := some 2, op := AOp.mv (Opd.t 147), grd := none }]
def c65_84 : ACode := .reg [{ dst := some 140, op := AOp.mv (Opd.t 0), grd := none }, { dst := some 141, op := AOp.mv (Opd.t 16), grd := none }, { dst := some 142, op := AOp.bin (BinOp.add) (Opd.t 141) (Opd.c (AV.int (IntKind.i64) 1)), grd := none }, { dst := some 143, op := AOp.mv (Opd.t 2), grd := none }, { dst := some 144, op := AOp.mv (Opd.t 3), grd := none }, { dst := some 145, op := AOp.mv (Opd.t 4), grd := none }, { dst := some 146, op := AOp.call (Opd.c (AV.fn (AFn.func 65) [] [])) [Opd.t 140, Opd.t 142, Opd.t 143, Opd.t 144, Opd.t 145], grd := none }]
def c65_83 : ACode := .seq c65_84 c65_85
def c65_82 : ACode := .reg [{ dst := some 137, op := AOp.mv (Opd.t 19), grd := none }, { dst := some 138, op := AOp.mv (Opd.t 20), grd := none }, { dst := some 139, op := AOp.bin (BinOp.geq) (Opd.t 137) (Opd.t 138), grd := none }, { dst := some 10, op := AOp.mv (Opd.t 139), grd := none }]
def c65_81 : ACode := .seq c65_82 c65_83
def c65_80 : ACode := .reg [{ dst := some 135, op := AOp.mv (Opd.t 16), grd := none }, { dst := some 136, op := AOp.bin (BinOp.add) (Opd.t 135) (Opd.c (AV.int (IntKind.i64) 1)), grd := none }, { dst := some 1, op := AOp.mv (Opd.t 136), grd := none }]
def c65_79 : ACode := .reg [{ dst := some 129, op := AOp.mv (Opd.t 0), grd := none }, { dst := some 130, op := AOp.mv (Opd.t 1), grd := none }, { dst := some 131, op := AOp.mv (Opd.t 16), grd := none }, { dst := some 132, op := AOp.mv (Opd.t 3), grd := none }, { dst := some 133, op := AOp.mv (Opd.t 4), grd := none }, { dst := some 134, op := AOp.call (Opd.c (AV.fn (AFn.func 65) [] [])) [Opd.t 129, Opd.t 130, Opd.t 131, Opd.t 132, Opd.t 133], grd := none }]
def c65_78 : ACode := .seq c65_79 c65_80
def c65_77 : ACode := .reg [{ dst := some 126, op := AOp.mv (Opd.t 18), grd := none }, { dst := some 127, op := AOp.mv (Opd.t 20), grd := none }, { dst := some 128, op := AOp.bin (BinOp.geq) (Opd.t 126) (Opd.t 127), grd := none }, { dst := some 10, op := AOp.mv (Opd.t 128), grd := none }]
def c65_76 : ACode := .seq c65_77 c65_78
def c65_75 : ACode := .cond (.t 125) c65_76 c65_81
def c65_74 : ACode := .reg [{ dst := some 123, op := AOp.mv (Opd.t 18), grd := none }, { dst := some 124, op := AOp.mv (Opd.t 19), grd := none }, { dst := some 125, op := AOp.bin (BinOp.lss) (Opd.t 123) (Opd.t 124), grd := none }]
def c65_73 : ACode := .seq c65_74 c65_75
def c65_72 : ACode := .reg [{ dst := some 121, op := AOp.mv (Opd.t 12), grd := none }, { dst := some 122, op := AOp.bin (BinOp.quo) (Opd.t 121) (Opd.c (AV.int (IntKind.i64) 8)), grd := none }, { dst := some 20, op := AOp.mv (Opd.t 122), grd := none }]
def c65_71 : ACode := .seq c65_72 c65_73
def c65_70 : ACode := .reg [{ dst := some 115, op := AOp.mv (Opd.t 16), grd := none }, { dst := some 116, op := AOp.mv (Opd.t 1), grd := none }, { dst := some 117, op := AOp.bin (BinOp.sub) (Opd.t 115) (Opd.t 116), grd := none }, { dst := some 118, op := AOp.mv (Opd.t 2), grd := none }, { dst := some 119, op := AOp.mv (Opd.t 16), grd := none }, { dst := some 120, op := AOp.bin (BinOp.sub) (Opd.t 118) (Opd.t 119), grd := none }, { dst := some 18, op := AOp.mv (Opd.t 117), grd := none }, { dst := some 19, op := AOp.mv (Opd.t 120), grd := none }]
def c65_69 : ACode := .seq c65_70 c65_71
def c65_68 : ACode := .reg [{ dst := some 114, op := AOp.mv (Opd.t 17), grd := none }, { dst := some 11, op := AOp.mv (Opd.t 114), grd := none }]
def c65_67 : ACode := .seq c65_68 c65_69
def c65_66 : ACode := .reg [{ dst := some 106, op := AOp.mv (Opd.t 0), grd := none }, { dst := some 107, op := AOp.mv (Opd.t 1), grd := none }, { dst := some 108, op := AOp.mv (Opd.t 2), grd := none }, { dst := some 109, op := AOp.mv (Opd.t 13), grd := none }, { dst := some 110, op := AOp.mv (Opd.t 4), grd := none }, { dst := some 111, op := AOp.call (Opd.c (AV.fn (AFn.func 87) [] [])) [Opd.t 106, Opd.t 107, Opd.t 108, Opd.t 109, Opd.t 110], grd := none }, { dst := some 105, op := AOp.mv (Opd.t 111), grd := none }, { dst := some 112, op := AOp.ext (Opd.t 105) 0, grd := none }, { dst := some 113, op := AOp.ext (Opd.t 105) 1, grd := none }, { dst := some 16, op := AOp.mv (Opd.t 112), grd := none }, { dst := some 17, op := AOp.mv (Opd.t 113), grd := none }]
def c65_65 : ACode := .seq c65_66 c65_67
def c65_64 : ACode := .skip
def c65_63 : ACode := .exit 1
def c65_62 : ACode := .reg [{ dst := some 104, op := AOp.mv (Opd.t 15), grd := none }, { dst := some 1, op := AOp.mv (Opd.t 104), grd := none }]
def c65_61 : ACode := .seq c65_62 c65_63
def c65_60 : ACode := .reg [{ dst := some 98, op := AOp.mv (Opd.t 0), grd := none }, { dst := some 99, op := AOp.mv (Opd.t 1), grd := none }, { dst := some 100, op := AOp.mv (Opd.t 2), grd := none }, { dst := some 101, op := AOp.mv (Opd.t 13), grd := none }, { dst := some 102, op := AOp.mv (Opd.t 4), grd := none }, { dst := some 103, op := AOp.call (Opd.c (AV.fn (AFn.func 86) [] [])) [Opd.t 98, Opd.t 99, Opd.t 100, Opd.t 101, Opd.t 102], grd := none }, { dst := some 15, op := AOp.mv (Opd.t 103), grd := none }]
def c65_59 : ACode := .seq c65_60 c65_61
def c65_58 : ACode := .cond (.t 97) c65_59 c65_64
def c65_57 : ACode := .dreg [{ dst := some 81, op := AOp.mv (Opd.t 1), grd := none }, { dst := some 82, op := AOp.bin (BinOp.gtr) (Opd.t 81) (Opd.c (AV.int (IntKind.i64) 0)), grd := none }, { dst := some 83, op := AOp.mv (Opd.t 82), grd := none }, { dst := some 84, op := AOp.mv (Opd.t 4), grd := some (83, true) }, { dst := some 85, op := AOp.mv (Opd.t 0), grd := some (83, true) }, { dst := some 86, op := AOp.mv (Opd.t 1), grd := some (83, true) }, { dst := some 87, op := AOp.bin (BinOp.sub) (Opd.t 86) (Opd.c (AV.int (IntKind.i64) 1)), grd := some (83, true) }, { dst := some 88, op := AOp.iadr 1 (Opd.t 85) (Opd.t 87), grd := some (83, true) }, { dst := some 89, op := AOp.load false 1 (Opd.t 88), grd := some (83, true) }, { dst := some 90, op := AOp.mv (Opd.t 0), grd := some (83, true) }, { dst := some 91, op := AOp.mv (Opd.t 13), grd := some (83, true) }, { dst := some 92, op := AOp.iadr 1 (Opd.t 90) (Opd.t 91), grd := some (83, true) }, { dst := some 93, op := AOp.load false 1 (Opd.t 92), grd := some (83, true) }] [({ dst := some 94, op := AOp.call (Opd.t 84) [Opd.t 89, Opd.t 93], grd := some (83, true) }, [], [{ dst := some 95, op := AOp.bin (BinOp.lss) (Opd.t 94) (Opd.c (AV.int (IntKind.i64) 0)), grd := some (83, true) }, { dst := some 96, op := AOp.not (Opd.t 95), grd := some (83, true) }, { dst := some 97, op := AOp.pick (Opd.t 83) (Opd.t 96) (Opd.c (AV.bool false)), grd := none }])]
def c65_56 : ACode := .seq c65_57 c65_58
def c65_55 : ACode := .seq c65_56 c65_65
def c65_54 : ACode := .skip
def c65_53 : ACode := .skip
def c65_52 : ACode := .ret
def c65_51 : ACode := .cond (.t 80) c65_52 c65_53
def c65_50 : ACode := .reg [{ dst := some 76, op := AOp.mv (Opd.t 0), grd := none }, { dst := some 77, op := AOp.mv (Opd.t 1), grd := none }, { dst := some 78, op := AOp.mv (Opd.t 2), grd := none }, { dst := some 79, op := AOp.mv (Opd.t 4), grd := none }, { dst := some 80, op := AOp.call (Opd.c (AV.fn (AFn.func 85) [] [])) [Opd.t 76, Opd.t 77, Opd.t 78, Opd.t 79], grd := none }]
def c65_49 : ACode := .seq c65_50 c65_51
def c65_48 : ACode := .cond (.t 75) c65_49 c65_54
def c65_47 : ACode := .reg [{ dst := some 68, op := AOp.mv (Opd.t 10), grd := none }, { dst := some 69, op := AOp.mv (Opd.t 68), grd := none }, { dst := some 70, op := AOp.mv (Opd.t 11), grd := some (69, true) }, { dst := some 71, op := AOp.pick (Opd.t 69) (Opd.t 70) (Opd.c (AV.bool false)), grd := none }, { dst := some 72, op := AOp.mv (Opd.t 71), grd := none }, { dst := some 73, op := AOp.mv (Opd.t 14), grd := some (72, true) }, { dst := some 74, op := AOp.bin (BinOp.eql) (Opd.t 73) (Opd.c (AV.int (IntKind.i64) 1)), grd := some (72, true) }, { dst := some 75, op := AOp.pick (Opd.t 72) (Opd.t 74) (Opd.c (AV.bool false)), grd := none }]
def c65_46 : ACode := .seq c65_47 c65_48
def c65_45 : ACode := .seq c65_46 c65_55
def c65_44 : ACode := .skip
def c65_43 : ACode := .reg [{ dst := some 14, op := AOp.mv (Opd.c (AV.int (IntKind.i64) 1)), grd := none }]
def c65_42 : ACode := .reg [{ dst := some 62, op := AOp.mv (Opd.t 2), grd := none }, { dst := some 63, op := AOp.bin (BinOp.sub) (Opd.t 62) (Opd.c (AV.int (IntKind.i64) 1)), grd := none }, { dst := some 64, op := AOp.mv (Opd.t 13), grd := none }, { dst := some 65, op := AOp.mv (Opd.t 1), grd := none }, { dst := some 66, op := AOp.bin (BinOp.sub) (Opd.t 64) (Opd.t 65), grd := none }, { dst := some 67, op := AOp.bin (BinOp.sub) (Opd.t 63) (Opd.t 66), grd := none }, { dst := some 13, op := AOp.mv (Opd.t 67), grd := none }]
def c65_41 : ACode := .seq c65_42 c65_43
def c65_40 : ACode := .reg [{ dst := some 57, op := AOp.mv (Opd.t 0), grd := none }, { dst := some 58, op := AOp.mv (Opd.t 1), grd := none }, { dst := some 59, op := AOp.mv (Opd.t 2), grd := none }, { dst := some 60, op := AOp.mv (Opd.t 4), grd := none }, { dst := some 61, op := AOp.call (Opd.c (AV.fn (AFn.func 84) [] [])) [Opd.t 57, Opd.t 58, Opd.t 59, Opd.t 60], grd := none }]
def c65_39 : ACode := .seq c65_40 c65_41
def c65_38 : ACode := .cond (.t 56) c65_39 c65_44
def c65_37 : ACode := .reg [{ dst := some 55, op := AOp.mv (Opd.t 14), grd := none }, { dst := some 56, op := AOp.bin (BinOp.eql) (Opd.t 55) (Opd.c (AV.int (IntKind.i64) 2)), grd := none }]
def c65_36 : ACode := .seq c65_37 c65_38
def c65_35 : ACode := .seq c65_36 c65_45
def c65_34 : ACode := .reg [{ dst := some 48, op := AOp.mv (Opd.t 0), grd := none }, { dst := some 49, op := AOp.mv (Opd.t 1), grd := none }, { dst := some 50, op := AOp.mv (Opd.t 2), grd := none }, { dst := some 51, op := AOp.mv (Opd.t 4), grd := none }, { dst := some 52, op := AOp.call (Opd.c (AV.fn (AFn.func 83) [] [])) [Opd.t 48, Opd.t 49, Opd.t 50, Opd.t 51], grd := none }, { dst := some 47, op := AOp.mv (Opd.t 52), grd := none }, { dst := some 53, op := AOp.ext (Opd.t 47) 0, grd := none }, { dst := some 54, op := AOp.ext (Opd.t 47) 1, grd := none }, { dst := some 13, op := AOp.mv (Opd.t 53), grd := none }, { dst := some 14, op := AOp.mv (Opd.t 54), grd := none }]
def c65_33 : ACode := .seq c65_34 c65_35
def c65_32 : ACode := .skip
def c65_31 : ACode := .reg [{ dst := some 45, op := AOp.mv (Opd.t 3), grd := none }, { dst := some 46, op := AOp.bin (BinOp.sub) (Opd.t 45) (Opd.c (AV.int (IntKind.i64) 1)), grd := none }, { dst := some 3, op := AOp.mv (Opd.t 46), grd := none }]
def c65_30 : ACode := .reg [{ dst := some 40, op := AOp.mv (Opd.t 0), grd := none }, { dst := some 41, op := AOp.mv (Opd.t 1), grd := none }, { dst := some 42, op := AOp.mv (Opd.t 2), grd := none }, { dst := some 43, op := AOp.mv (Opd.t 4), grd := none }, { dst := some 44, op := AOp.call (Opd.c (AV.fn (AFn.func 82) [] [])) [Opd.t 40, Opd.t 41, Opd.t 42, Opd.t 43], grd := none }]
def c65_29 : ACode := .seq c65_30 c65_31
def c65_28 : ACode := .cond (.t 39) c65_29 c65_32
def c65_27 : ACode := .reg [{ dst := some 38, op := AOp.mv (Opd.t 10), grd := none }, { dst := some 39, op := AOp.not (Opd.t 38), grd := none }]
def c65_26 : ACode := .seq c65_27 c65_28
def c65_25 : ACode := .seq c65_26 c65_33
def c65_24 : ACode := .skip
def c65_23 : ACode := .ret
def c65_22 : ACode := .reg [{ dst := some 33, op := AOp.mv (Opd.t 0), grd := none }, { dst := some 34, op := AOp.mv (Opd.t 1), grd := none }, { dst := some 35, op := AOp.mv (Opd.t 2), grd := none }, { dst := some 36, op := AOp.mv (Opd.t 4), grd := none }, { dst := some 37, op := AOp.call (Opd.c (AV.fn (AFn.func 81) [] [])) [Opd.t 33, Opd.t 34, Opd.t 35, Opd.t 36], grd := none }]
def c65_21 : ACode := .seq c65_22 c65_23
def c65_20 : ACode := .cond (.t 32) c65_21 c65_24
def c65_19 : ACode := .reg [{ dst := some 31, op := AOp.mv (Opd.t 3), grd := none }, { dst := some 32, op := AOp.bin (BinOp.eql) (Opd.t 31) (Opd.c (AV.int (IntKind.i64) 0)), grd := none }]
def c65_18 : ACode := .seq c65_19 c65_20
def c65_17 : ACode := .seq c65_18 c65_25
def c65_16 : ACode := .skip
def c65_15 : ACode := .ret
def c65_14 : ACode := .reg [{ dst := some 26, op := AOp.mv (Opd.t 0), grd := none }, { dst := some 27, op := AOp.mv (Opd.t 1), grd := none }, { dst := some 28, op := AOp.mv (Opd.t 2), grd := none }, { dst := some 29, op := AOp.mv (Opd.t 4), grd := none }, { dst := some 30, op := AOp.call (Opd.c (AV.fn (AFn.func 80) [] [])) [Opd.t 26, Opd.t 27, Opd.t 28, Opd.t 29], grd := none }]
def c65_13 : ACode := .seq c65_14 c65_15
def c65_12 : ACode := .cond (.t 25) c65_13 c65_16
def c65_11 : ACode := .reg [{ dst := some 24, op := AOp.mv (Opd.t 12), grd := none }, { dst := some 25, op := AOp.bin (BinOp.leq) (Opd.t 24) (Opd.c (AV.int (IntKind.i64) 12)), grd := none }]
def c65_10 : ACode := .seq c65_11 c65_12
def c65_9 : ACode := .seq c65_10 c65_17
def c65_8 : ACode := .reg [{ dst := some 21, op := AOp.mv (Opd.t 2), grd := none }, { dst := some 22, op := AOp.mv (Opd.t 1), grd := none }, { dst := some 23, op := AOp.bin (BinOp.sub) (Opd.t 21) (Opd.t 22), grd := none }, { dst := some 12, op := AOp.mv (Opd.t 23), grd := none }]
def c65_7 : ACode := .seq c65_8 c65_9
def c65_6 : ACode := .block 1 c65_7
def c65_5 : ACode := .loop c65_6
def c65_4 : ACode := .block 0 c65_5
def c65_3 : ACode := .reg [{ dst := some 11, op := AOp.mv (Opd.c (AV.bool true)), grd := none }]
def c65_2 : ACode := .seq c65_3 c65_4
def c65_1 : ACode := .reg [{ dst := some 10, op := AOp.mv (Opd.c (AV.bool true)), grd := none }]
def c65_0 : ACode := .seq c65_1 c65_2
def A65 : AFun := { np := 5, res := [], body := c65_0 }

def c70_26 : ACode := .reg [{ dst := some 15, op := AOp.mv (Opd.t 8), grd := none }, { dst := some 16, op := AOp.bin (BinOp.add) (Opd.t 15) (Opd.c (AV.int (IntKind.i64) 1)), grd := none }, { dst := some 8, op := AOp.mv (Opd.t 16), grd := none }]
def c70_25 : ACode := .reg [{ dst := some 35, op := AOp.mv (Opd.t 9), grd := none }, { dst := some 36, op := AOp.bin (BinOp.sub) (Opd.t 35) (Opd.c (AV.int (IntKind.i64) 1)), grd := none }, { dst := some 9, op := AOp.mv (Opd.t 36), grd := none }]
def c70_24 : ACode := .dreg [{ dst := some 37, op := AOp.mv (Opd.t 0), grd := none }, { dst := some 38, op := AOp.mv (Opd.t 9), grd := none }, { dst := some 39, op := AOp.mv (Opd.t 0), grd := none }, { dst := some 40, op := AOp.mv (Opd.t 9), grd := none }, { dst := some 41, op := AOp.bin (BinOp.sub) (Opd.t 40) (Opd.c (AV.int (IntKind.i64) 1)), grd := none }, { dst := some 42, op := AOp.mv (Opd.t 0), grd := none }, { dst := some 43, op := AOp.mv (Opd.t 9), grd := none }, { dst := some 44, op := AOp.bin (BinOp.sub) (Opd.t 43) (Opd.c (AV.int (IntKind.i64) 1)), grd := none }, { dst := some 45, op := AOp.iadr 2 (Opd.t 42) (Opd.t 44), grd := none }, { dst := some 46, op := AOp.load true 2 (Opd.t 45), grd := none }, { dst := some 47, op := AOp.mv (Opd.t 0), grd := none }, { dst := some 48, op := AOp.mv (Opd.t 9), grd := none }, { dst := some 49, op := AOp.iadr 2 (Opd.t 47) (Opd.t 48), grd := none }, { dst := some 50, op := AOp.load true 2 (Opd.t 49), grd := none }, { dst := some 51, op := AOp.iadr 2 (Opd.t 37) (Opd.t 38), grd := none }] [({ dst := none, op := AOp.store 2 (Opd.t 51) (Opd.t 46), grd := none }, [], [{ dst := some 52, op := AOp.iadr 2 (Opd.t 39) (Opd.t 41), grd := none }]), ({ dst := none, op := AOp.store 2 (Opd.t 52) (Opd.t 50), grd := none }, [], [])]
def c70_23 : ACode := .block 3 c70_24
def c70_22 : ACode := .seq c70_23 c70_25
def c70_21 : ACode := .exit 2
def c70_20 : ACode := .skip
def c70_19 : ACode := .cond (.t 34) c70_20 c70_21
def c70_18 : ACode := .dreg [{ dst := some 18, op := AOp.mv (Opd.t 9), grd := none }, { dst := some 19, op := AOp.mv (Opd.t 1), grd := none }, { dst := some 20, op := AOp.bin (BinOp.gtr) (Opd.t 18) (Opd.t 19), grd := none }, { dst := some 21, op := AOp.mv (Opd.t 20), grd := none }, { dst := some 22, op := AOp.mv (Opd.t 3), grd := some (21, true) }, { dst := some 23, op := AOp.mv (Opd.t 0), grd := some (21, true) }, { dst := some 24, op := AOp.mv (Opd.t 9), grd := some (21, true) }, { dst := some 25, op := AOp.iadr 2 (Opd.t 23) (Opd.t 24), grd := some (21, true) }, { dst := some 26, op := AOp.load true 2 (Opd.t 25), grd := some (21, true) }, { dst := some 27, op := AOp.mv (Opd.t 0), grd := some (21, true) }, { dst := some 28, op := AOp.mv (Opd.t 9), grd := some (21, true) }, { dst := some 29, op := AOp.bin (BinOp.sub) (Opd.t 28) (Opd.c (AV.int (IntKind.i64) 1)), grd := some (21, true) }, { dst := some 30, op := AOp.iadr 2 (Opd.t 27) (Opd.t 29), grd := some (21, true) }, { dst := some 31, op := AOp.load true 2 (Opd.t 30), grd := some (21, true) }] [({ dst := some 32, op := AOp.call (Opd.t 22) [Opd.t 26, Opd.t 31], grd := some (21, true) }, [], [{ dst := some 33, op := AOp.bin (BinOp.lss) (Opd.t 32) (Opd.c (AV.int (IntKind.i64) 0)), grd := some (21, true) }, { dst := some 34, op := AOp.pick (Opd.t 21) (Opd.t 33) (Opd.c (AV.bool false)), grd := none }])]
def c70_17 : ACode := .seq c70_18 c70_19
def c70_16 : ACode := .seq c70_17 c70_22
def c70_15 : ACode := .loop c70_16
def c70_14 : ACode := .block 2 c70_15
def c70_13 : ACode := .reg [{ dst := some 17, op := AOp.mv (Opd.t 8), grd := none }, { dst := some 9, op := AOp.mv (Opd.t 17), grd := none }]
def c70_12 : ACode := .seq c70_13 c70_14
def c70_11 : ACode := .block 1 c70_12
def c70_10 : ACode := .seq c70_11 c70_26
def c70_9 : ACode := .exit 0
def c70_8 : ACode := .skip
def c70_7 : ACode := .cond (.t 14) c70_8 c70_9
def c70_6 : ACode := .reg [{ dst := some 12, op := AOp.mv (Opd.t 8), grd := none }, { dst := some 13, op := AOp.mv (Opd.t 2), grd := none }, { dst := some 14, op := AOp.bin (BinOp.lss) (Opd.t 12) (Opd.t 13), grd := none }]
def c70_5 : ACode := .seq c70_6 c70_7
def c70_4 : ACode := .seq c70_5 c70_10
def c70_3 : ACode := .loop c70_4
def c70_2 : ACode := .block 0 c70_3
def c70_1 : ACode := .reg [{ dst := some 10, op := AOp.mv (Opd.t 1), grd := none }, { dst := some 11, op := AOp.bin (BinOp.add) (Opd.t 10) (Opd.c (AV.int (IntKind.i64) 1)), grd := none }, { dst := some 8, op := AOp.mv (Opd.t 11), grd := none }]
def c70_0 : ACode := .seq c70_1 c70_2
def A70 : AFun := { np := 4, res := [], body := c70_0 }

def c78_20 : ACode := .ret
def c78_19 : ACode := .reg [{ dst := some 13, op := AOp.mv (Opd.t 2), grd := none }, { dst := some 14, op := AOp.mv (Opd.t 0), grd := none }, { dst := some 15, op := AOp.conv (IntKind.u8) (Opd.t 14), grd := none }, { dst := some 16, op := AOp.idxs (Opd.c (AV.str [0, 1, 2, 2, 3, 3, 3, 3, 4, 4, 4, 4, 4, 4, 4, 4, 5, 5, 5, 5, 5, 5, 5, 5, 5, 5, 5, 5, 5, 5, 5, 5, 6, 6, 6, 6, 6, 6, 6, 6, 6, 6, 6, 6, 6, 6, 6, 6, 6, 6, 6, 6, 6, 6, 6, 6, 6, 6, 6, 6, 6, 6, 6, 6, 7, 7, 7, 7, 7, 7, 7, 7, 7, 7, 7, 7, 7, 7, 7, 7, 7, 7, 7, 7, 7, 7, 7, 7, 7, 7, 7, 7, 7, 7, 7, 7, 7, 7, 7, 7, 7, 7, 7, 7, 7, 7, 7, 7, 7, 7, 7, 7, 7, 7, 7, 7, 7, 7, 7, 7, 7, 7, 7, 7, 7, 7, 7, 7, 8, 8, 8, 8, 8, 8, 8, 8, 8, 8, 8, 8, 8, 8, 8, 8, 8, 8, 8, 8, 8, 8, 8, 8, 8, 8, 8, 8, 8, 8, 8, 8, 8, 8, 8, 8, 8, 8, 8, 8, 8, 8, 8, 8, 8, 8, 8, 8, 8, 8, 8, 8, 8, 8, 8, 8, 8, 8, 8, 8, 8, 8, 8, 8, 8, 8, 8, 8, 8, 8, 8, 8, 8, 8, 8, 8, 8, 8, 8, 8, 8, 8, 8, 8, 8, 8, 8, 8, 8, 8, 8, 8, 8, 8, 8, 8, 8, 8, 8, 8, 8, 8, 8, 8, 8, 8, 8, 8, 8, 8, 8, 8, 8, 8, 8, 8, 8, 8, 8, 8, 8, 8, 8, 8, 8, 8, 8, 8])) (Opd.t 15), grd := none }, { dst := some 17, op := AOp.conv (IntKind.i64) (Opd.t 16), grd := none }, { dst := some 18, op := AOp.bin (BinOp.add) (Opd.t 13) (Opd.t 17), grd := none }, { dst := some 2, op := AOp.mv (Opd.t 18), grd := none }]
def c78_18 : ACode := .seq c78_19 c78_20
def c78_17 : ACode := .skip
def c78_16 : ACode := .reg [{ dst := some 11, op := AOp.mv (Opd.t 2), grd := none }, { dst := some 12, op := AOp.bin (BinOp.add) (Opd.t 11) (Opd.c (AV.int (IntKind.i64) 8)), grd := none }, { dst := some 2, op := AOp.mv (Opd.t 12), grd := none }]
def c78_15 : ACode := .reg [{ dst := some 9, op := AOp.mv (Opd.t 0), grd := none }, { dst := some 10, op := AOp.bin (BinOp.shr) (Opd.t 9) (Opd.c (AV.int (IntKind.u64) 8)), grd := none }, { dst := some 0, op := AOp.mv (Opd.t 10), grd := none }]
def c78_14 : ACode := .seq c78_15 c78_16
def c78_13 : ACode := .cond (.t 8) c78_14 c78_17
def c78_12 : ACode := .reg [{ dst := some 7, op := AOp.mv (Opd.t 0), grd := none }, { dst := some 8, op := AOp.bin (BinOp.geq) (Opd.t 7) (Opd.c (AV.int (IntKind.u32) 256)), grd := none }]
def c78_11 : ACode := .seq c78_12 c78_13
def c78_10 : ACode := .seq c78_11 c78_18
def c78_9 : ACode := .skip
def c78_8 : ACode := .reg [{ dst := some 2, op := AOp.mv (Opd.c (AV.int (IntKind.i64) 16)), grd := none }]
def c78_7 : ACode := .reg [{ dst := some 5, op := AOp.mv (Opd.t 0), grd := none }, { dst := some 6, op := AOp.bin (BinOp.shr) (Opd.t 5) (Opd.c (AV.int (IntKind.u64) 16)), grd := none }, { dst := some 0, op := AOp.mv (Opd.t 6), grd := none }]
def c78_6 : ACode := .seq c78_7 c78_8
def c78_5 : ACode := .cond (.t 4) c78_6 c78_9
def c78_4 : ACode := .reg [{ dst := some 3, op := AOp.mv (Opd.t 0), grd := none }, { dst := some 4, op := AOp.bin (BinOp.geq) (Opd.t 3) (Opd.c (AV.int (IntKind.u32) 65536)), grd := none }]
def c78_3 : ACode := .seq c78_4 c78_5
def c78_2 : ACode := .seq c78_3 c78_10
def c78_1 : ACode := .reg [{ dst := some 2, op := AOp.mv (Opd.c (AV.int (IntKind.i64) 0)), grd := none }]
def c78_0 : ACode := .seq c78_1 c78_2
def A78 : AFun := { np := 1, res := [(2, none)], body := c78_0 }

def c79_28 : ACode := .ret
def c79_27 : ACode := .reg [{ dst := some 19, op := AOp.mv (Opd.t 2), grd := none }, { dst := some 20, op := AOp.mv (Opd.t 0), grd := none }, { dst := some 21, op := AOp.conv (IntKind.u8) (Opd.t 20), grd := none }, { dst := some 22, op := AOp.idxs (Opd.c (AV.str [0, 1, 2, 2, 3, 3, 3, 3, 4, 4, 4, 4, 4, 4, 4, 4, 5, 5, 5, 5, 5, 5, 5, 5, 5, 5, 5, 5, 5, 5, 5, 5, 6, 6, 6, 6, 6, 6, 6, 6, 6, 6, 6, 6, 6, 6, 6, 6, 6, 6, 6, 6, 6, 6, 6, 6, 6, 6, 6, 6, 6, 6, 6, 6, 7, 7, 7, 7, 7, 7, 7, 7, 7, 7, 7, 7, 7, 7, 7, 7, 7, 7, 7, 7, 7, 7, 7, 7, 7, 7, 7, 7, 7, 7, 7, 7, 7, 7, 7, 7, 7, 7, 7, 7, 7, 7, 7, 7, 7, 7, 7, 7, 7, 7, 7, 7, 7, 7, 7, 7, 7, 7, 7, 7, 7, 7, 7, 7, 8, 8, 8, 8, 8, 8, 8, 8, 8, 8, 8, 8, 8, 8, 8, 8, 8, 8, 8, 8, 8, 8, 8, 8, 8, 8, 8, 8, 8, 8, 8, 8, 8, 8, 8, 8, 8, 8, 8, 8, 8, 8, 8, 8, 8, 8, 8, 8, 8, 8, 8, 8, 8, 8, 8, 8, 8, 8, 8, 8, 8, 8, 8, 8, 8, 8, 8, 8, 8, 8, 8, 8, 8, 8, 8, 8, 8, 8, 8, 8, 8, 8, 8, 8, 8, 8, 8, 8, 8, 8, 8, 8, 8, 8, 8, 8, 8, 8, 8, 8, 8, 8, 8, 8, 8, 8, 8, 8, 8, 8, 8, 8, 8, 8, 8, 8, 8, 8, 8, 8, 8, 8, 8, 8, 8, 8, 8, 8])) (Opd.t 21), grd := none }, { dst := some 23, op := AOp.conv (IntKind.i64) (Opd.t 22), grd := none }, { dst := some 24, op := AOp.bin (BinOp.add) (Opd.t 19) (Opd.t 23), grd := none }, { dst := some 2, op := AOp.mv (Opd.t 24), grd := none }]
def c79_26 : ACode := .seq c79_27 c79_28
def c79_25 : ACode := .skip
def c79_24 : ACode := .reg [{ dst := some 17, op := AOp.mv (Opd.t 2), grd := none }, { dst := some 18, op := AOp.bin (BinOp.add) (Opd.t 17) (Opd.c (AV.int (IntKind.i64) 8)), grd := none }, { dst := some 2, op := AOp.mv (Opd.t 18), grd := none }]
def c79_23 : ACode := .reg [{ dst := some 15, op := AOp.mv (Opd.t 0), grd := none }, { dst := some 16, op := AOp.bin (BinOp.shr) (Opd.t 15) (Opd.c (AV.int (IntKind.u64) 8)), grd := none }, { dst := some 0, op := AOp.mv (Opd.t 16), grd := none }]
def c79_22 : ACode := .seq c79_23 c79_24
def c79_21 : ACode := .cond (.t 14) c79_22 c79_25
def c79_20 : ACode := .reg [{ dst := some 13, op := AOp.mv (Opd.t 0), grd := none }, { dst := some 14, op := AOp.bin (BinOp.geq) (Opd.t 13) (Opd.c (AV.int (IntKind.u64) 256)), grd := none }]
def c79_19 : ACode := .seq c79_20 c79_21
def c79_18 : ACode := .seq c79_19 c79_26
def c79_17 : ACode := .skip
def c79_16 : ACode := .reg [{ dst := some 11, op := AOp.mv (Opd.t 2), grd := none }, { dst := some 12, op := AOp.bin (BinOp.add) (Opd.t 11) (Opd.c (AV.int (IntKind.i64) 16)), grd := none }, { dst := some 2, op := AOp.mv (Opd.t 12), grd := none }]
def c79_15 : ACode := .reg [{ dst := some 9, op := AOp.mv (Opd.t 0), grd := none }, { dst := some 10, op := AOp.bin (BinOp.shr) (Opd.t 9) (Opd.c (AV.int (IntKind.u64) 16)), grd := none }, { dst := some 0, op := AOp.mv (Opd.t 10), grd := none }]
def c79_14 : ACode := .seq c79_15 c79_16
def c79_13 : ACode := .cond (.t 8) c79_14 c79_17
def c79_12 : ACode := .reg [{ dst := some 7, op := AOp.mv (Opd.t 0), grd := none }, { dst := some 8, op := AOp.bin (BinOp.geq) (Opd.t 7) (Opd.c (AV.int (IntKind.u64) 65536)), grd := none }]
def c79_11 : ACode := .seq c79_12 c79_13
def c79_10 : ACode := .seq c79_11 c79_18
def c79_9 : ACode := .skip
def c79_8 : ACode := .reg [{ dst := some 2, op := AOp.mv (Opd.c (AV.int (IntKind.i64) 32)), grd := none }]
def c79_7 : ACode := .reg [{ dst := some 5, op := AOp.mv (Opd.t 0), grd := none }, { dst := some 6, op := AOp.bin (BinOp.shr) (Opd.t 5) (Opd.c (AV.int (IntKind.u64) 32)), grd := none }, { dst := some 0, op := AOp.mv (Opd.t 6), grd := none }]
def c79_6 : ACode := .seq c79_7 c79_8
def c79_5 : ACode := .cond (.t 4) c79_6 c79_9
def c79_4 : ACode := .reg [{ dst := some 3, op := AOp.mv (Opd.t 0), grd := none }, { dst := some 4, op := AOp.bin (BinOp.geq) (Opd.t 3) (Opd.c (AV.int (IntKind.u64) 4294967296)), grd := none }]
def c79_3 : ACode := .seq c79_4 c79_5
def c79_2 : ACode := .seq c79_3 c79_10
def c79_1 : ACode := .reg [{ dst := some 2, op := AOp.mv (Opd.c (AV.int (IntKind.i64) 0)), grd := none }]
def c79_0 : ACode := .seq c79_1 c79_2
def A79 : AFun := { np := 1, res := [(2, none)], body := c79_0 }

def c80_26 : ACode := .reg [{ dst := some 15, op := AOp.mv (Opd.t 8), grd := none }, { dst := some 16, op := AOp.bin (BinOp.add) (Opd.t 15) (Opd.c (AV.int (IntKind.i64) 1)), grd := none }, { dst := some 8, op := AOp.mv (Opd.t 16), grd := none }]
def c80_25 : ACode := .reg [{ dst := some 35, op := AOp.mv (Opd.t 9), grd := none }, { dst := some 36, op := AOp.bin (BinOp.sub) (Opd.t 35) (Opd.c (AV.int (IntKind.i64) 1)), grd := none }, { dst := some 9, op := AOp.mv (Opd.t 36), grd := none }]
def c80_24 : ACode := .dreg [{ dst := some 37, op := AOp.mv (Opd.t 0), grd := none }, { dst := some 38, op := AOp.mv (Opd.t 9), grd := none }, { dst := some 39, op := AOp.mv (Opd.t 0), grd := none }, { dst := some 40, op := AOp.mv (Opd.t 9), grd := none }, { dst := some 41, op := AOp.bin (BinOp.sub) (Opd.t 40) (Opd.c (AV.int (IntKind.i64) 1)), grd := none }, { dst := some 42, op := AOp.mv (Opd.t 0), grd := none }, { dst := some 43, op := AOp.mv (Opd.t 9), grd := none }, { dst := some 44, op := AOp.bin (BinOp.sub) (Opd.t 43) (Opd.c (AV.int (IntKind.i64) 1)), grd := none }, { dst := some 45, op := AOp.iadr 1 (Opd.t 42) (Opd.t 44), grd := none }, { dst := some 46, op := AOp.load false 1 (Opd.t 45), grd := none }, { dst := some 47, op := AOp.mv (Opd.t 0), grd := none }, { dst := some 48, op := AOp.mv (Opd.t 9), grd := none }, { dst := some 49, op := AOp.iadr 1 (Opd.t 47) (Opd.t 48), grd := none }, { dst := some 50, op := AOp.load false 1 (Opd.t 49), grd := none }, { dst := some 51, op := AOp.iadr 1 (Opd.t 37) (Opd.t 38), grd := none }] [({ dst := none, op := AOp.store 1 (Opd.t 51) (Opd.t 46), grd := none }, [], [{ dst := some 52, op := AOp.iadr 1 (Opd.t 39) (Opd.t 41), grd := none }]), ({ dst := none, op := AOp.store 1 (Opd.t 52) (Opd.t 50), grd := none }, [], [])]
def c80_23 : ACode := .block 3 c80_24
def c80_22 : ACode := .seq c80_23 c80_25
def c80_21 : ACode := .exit 2
def c80_20 : ACode := .skip
def c80_19 : ACode := .cond (.t 34) c80_20 c80_21
def c80_18 : ACode := .dreg [{ dst := some 18, op := AOp.mv (Opd.t 9), grd := none }, { dst := some 19, op := AOp.mv (Opd.t 1), grd := none }, { dst := some 20, op := AOp.bin (BinOp.gtr) (Opd.t 18) (Opd.t 19), grd := none }, { dst := some 21, op := AOp.mv (Opd.t 20), grd := none }, { dst := some 22, op := AOp.mv (Opd.t 3), grd := some (21, true) }, { dst := some 23, op := AOp.mv (Opd.t 0), grd := some (21, true) }, { dst := some 24, op := AOp.mv (Opd.t 9), grd := some (21, true) }, { dst := some 25, op := AOp.iadr 1 (Opd.t 23) (Opd.t 24), grd := some (21, true) }, { dst := some 26, op := AOp.load false 1 (Opd.t 25), grd := some (21, true) }, { dst := some 27, op := AOp.mv (Opd.t 0), grd := some (21, true) }, { dst := some 28, op := AOp.mv (Opd.t 9), grd := some (21, true) }, { dst := some 29, op := AOp.bin (BinOp.sub) (Opd.t 28) (Opd.c (AV.int (IntKind.i64) 1)), grd := some (21, true) }, { dst := some 30, op := AOp.iadr 1 (Opd.t 27) (Opd.t 29), grd := some (21, true) }, { dst := some 31, op := AOp.load false 1 (Opd.t 30), grd := some (21, true) }] [({ dst := some 32, op := AOp.call (Opd.t 22) [Opd.t 26, Opd.t 31], grd := some (21, true) }, [], [{ dst := some 33, op := AOp.bin (BinOp.lss) (Opd.t 32) (Opd.c (AV.int (IntKind.i64) 0)), grd := some (21, true) }, { dst := some 34, op := AOp.pick (Opd.t 21) (Opd.t 33) (Opd.c (AV.bool false)), grd := none }])]
def c80_17 : ACode := .seq c80_18 c80_19
def c80_16 : ACode := .seq c80_17 c80_22
def c80_15 : ACode := .loop c80_16
def c80_14 : ACode := .block 2 c80_15
def c80_13 : ACode := .reg [{ dst := some 17, op := AOp.mv (Opd.t 8), grd := none }, { dst := some 9, op := AOp.mv (Opd.t 17), grd := none }]
def c80_12 : ACode := .seq c80_13 c80_14
def c80_11 : ACode := .block 1 c80_12
def c80_10 : ACode := .seq c80_11 c80_26
def c80_9 : ACode := .exit 0
def c80_8 : ACode := .skip
def c80_7 : ACode := .cond (.t 14) c80_8 c80_9
def c80_6 : ACode := .reg [{ dst := some 12, op := AOp.mv (Opd.t 8), grd := none }, { dst := some 13, op := AOp.mv (Opd.t 2), grd := none }, { dst := some 14, op := AOp.bin (BinOp.lss) (Opd.t 12) (Opd.t 13), grd := none }]
def c80_5 : ACode := .seq c80_6 c80_7
def c80_4 : ACode := .seq c80_5 c80_10
def c80_3 : ACode := .loop c80_4
def c80_2 : ACode := .block 0 c80_3
def c80_1 : ACode := .reg [{ dst := some 10, op := AOp.mv (Opd.t 1), grd := none }, { dst := some 11, op := AOp.bin (BinOp.add) (Opd.t 10) (Opd.c (AV.int (IntKind.i64) 1)), grd := none }, { dst := some 8, op := AOp.mv (Opd.t 11), grd := none }]
def c80_0 : ACode := .seq c80_1 c80_2
def A80 : AFun := { np := 4, res := [], body := c80_0 }

end Go.Proofs.Ytbamgdknkhhikaa
