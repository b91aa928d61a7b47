/-
  The code of the functions, as the abstract machine's (printed by wip/tools/gen.py).
-/
import Derived.Test.YtjdpdjmmbajglaaAbSim
namespace Go.Proofs.Ytjdpdjmmbajglaa
open Go.Ab
set_option linter.unusedVariables false

def c7_58 : ACode := .ret
def c7_57 : ACode := .reg [{ dst := some 118, op := AOp.call (Opd.c (AV.fn (AFn.func 9) [] [])) [], grd := none }, { dst := some 2, op := AOp.mv (Opd.t 118), grd := none }]
def c7_56 : ACode := .seq c7_57 c7_58
def c7_55 : ACode := .reg [{ dst := some 48, op := AOp.mv (Opd.t 6), grd := none }, { dst := some 49, op := AOp.bin (BinOp.add) (Opd.t 48) (Opd.c (AV.int (IntKind.i64) 1)), grd := none }, { dst := some 6, op := AOp.mv (Opd.t 49), grd := none }]
def c7_54 : ACode := .reg [{ dst := some 59, op := AOp.mv (Opd.t 7), grd := none }, { dst := some 60, op := AOp.bin (BinOp.add) (Opd.t 59) (Opd.c (AV.int (IntKind.i64) 1)), grd := none }, { dst := some 7, op := AOp.mv (Opd.t 60), grd := none }]
def c7_53 : ACode := .skip
def c7_52 : ACode := .ret
def c7_51 : ACode := .reg [{ dst := some 2, op := AOp.mv (Opd.c (AV.bool false)), grd := none }]
def c7_50 : ACode := .seq c7_51 c7_52
def c7_49 : ACode := .cond (.t 117) c7_50 c7_53
set_option maxRecDepth 100000 in
def c7_48 : ACode := .dreg [{ dst := some 61, op := AOp.mv (Opd.t 3), grd := none }, { dst := some 62, op := AOp.fadr 1 (Opd.t 1), grd := none }, { dst := some 63, op := AOp.load false 1 (Opd.t 62), grd := none }, { dst := some 64, op := AOp.mv (Opd.t 6), grd := none }, { dst := some 65, op := AOp.iadr 3 (Opd.t 63) (Opd.t 64), grd := none }, { dst := some 66, op := AOp.load true 3 (Opd.t 65), grd := none }, { dst := some 67, op := AOp.fadr 2 (Opd.t 1), grd := none }, { dst := some 68, op := AOp.load false 1 (Opd.t 67), grd := none }, { dst := some 69, op := AOp.mv (Opd.t 7), grd := none }, { dst := some 70, op := AOp.iadr 5 (Opd.t 68) (Opd.t 69), grd := none }, { dst := some 71, op := AOp.load true 5 (Opd.t 70), grd := none }, { dst := some 72, op := AOp.mv (Opd.t 5), grd := none }, { dst := some 74, op := AOp.fadr 0 (Opd.t 1), grd := none }, { dst := some 75, op := AOp.load false 1 (Opd.t 74), grd := none }, { dst := some 76, op := AOp.fadr 1 (Opd.t 1), grd := none }, { dst := some 77, op := AOp.load false 1 (Opd.t 76), grd := none }, { dst := some 78, op := AOp.mv (Opd.t 6), grd := none }, { dst := some 79, op := AOp.iadr 3 (Opd.t 77) (Opd.t 78), grd := none }, { dst := some 80, op := AOp.load true 3 (Opd.t 79), grd := none }, { dst := some 81, op := AOp.fadr 2 (Opd.t 1), grd := none }, { dst := some 82, op := AOp.load false 1 (Opd.t 81), grd := none }, { dst := some 83, op := AOp.mv (Opd.t 7), grd := none }, { dst := some 84, op := AOp.iadr 5 (Opd.t 82) (Opd.t 83), grd := none }, { dst := some 85, op := AOp.load true 5 (Opd.t 84), grd := none }, { dst := some 86, op := AOp.fadr 3 (Opd.t 1), grd := none }, { dst := some 87, op := AOp.load false 1 (Opd.t 86), grd := none }] [({ dst := some 73, op := AOp.call (Opd.c (AV.fn (AFn.func 27) [] [])) [Opd.t 61, Opd.t 66, Opd.t 71, Opd.t 72], grd := none }, [{ dst := some 75, op := AOp.load false 1 (Opd.t 74), grd := none }, { dst := some 77, op := AOp.load false 1 (Opd.t 76), grd := none }, { dst := some 79, op := AOp.iadr 3 (Opd.t 77) (Opd.t 78), grd := none }, { dst := some 80, op := AOp.load true 3 (Opd.t 79), grd := none }, { dst := some 82, op := AOp.load false 1 (Opd.t 81), grd := none }, { dst := some 84, op := AOp.iadr 5 (Opd.t 82) (Opd.t 83), grd := none }, { dst := some 85, op := AOp.load true 5 (Opd.t 84), grd := none }, { dst := some 87, op := AOp.load false 1 (Opd.t 86), grd := none }], []), ({ dst := some 88, op := AOp.call (Opd.c (AV.fn (AFn.func 28) [] [])) [Opd.t 75, Opd.t 80, Opd.t 85, Opd.t 87], grd := none }, [], [{ dst := some 89, op := AOp.eq true (EqK.bool) (Opd.t 73) (Opd.t 88), grd := none }, { dst := some 90, op := AOp.mv (Opd.t 89), grd := none }, { dst := some 91, op := AOp.mv (Opd.t 3), grd := some (90, false) }, { dst := some 92, op := AOp.fadr 1 (Opd.t 1), grd := some (90, false) }, { dst := some 93, op := AOp.load false 1 (Opd.t 92), grd := some (90, false) }, { dst := some 94, op := AOp.mv (Opd.t 6), grd := some (90, false) }, { dst := some 95, op := AOp.iadr 3 (Opd.t 93) (Opd.t 94), grd := some (90, false) }, { dst := some 96, op := AOp.load true 3 (Opd.t 95), grd := some (90, false) }, { dst := some 97, op := AOp.fadr 2 (Opd.t 1), grd := some (90, false) }, { dst := some 98, op := AOp.load false 1 (Opd.t 97), grd := some (90, false) }, { dst := some 99, op := AOp.mv (Opd.t 7), grd := some (90, false) }, { dst := some 100, op := AOp.iadr 5 (Opd.t 98) (Opd.t 99), grd := some (90, false) }, { dst := some 101, op := AOp.load true 5 (Opd.t 100), grd := some (90, false) }, { dst := some 103, op := AOp.fadr 0 (Opd.t 1), grd := some (90, false) }, { dst := some 104, op := AOp.load false 1 (Opd.t 103), grd := some (90, false) }, { dst := some 105, op := AOp.fadr 1 (Opd.t 1), grd := some (90, false) }, { dst := some 106, op := AOp.load false 1 (Opd.t 105), grd := some (90, false) }, { dst := some 107, op := AOp.mv (Opd.t 6), grd := some (90, false) }, { dst := some 108, op := AOp.iadr 3 (Opd.t 106) (Opd.t 107), grd := some (90, false) }, { dst := some 109, op := AOp.load true 3 (Opd.t 108), grd := some (90, false) }, { dst := some 110, op := AOp.fadr 2 (Opd.t 1), grd := some (90, false) }, { dst := some 111, op := AOp.load false 1 (Opd.t 110), grd := some (90, false) }, { dst := some 112, op := AOp.mv (Opd.t 7), grd := some (90, false) }, { dst := some 113, op := AOp.iadr 5 (Opd.t 111) (Opd.t 112), grd := some (90, false) }, { dst := some 114, op := AOp.load true 5 (Opd.t 113), grd := some (90, false) }]), ({ dst := some 102, op := AOp.call (Opd.c (AV.fn (AFn.func 27) [] [])) [Opd.t 91, Opd.t 96, Opd.t 101, Opd.c (AV.nilFn)], grd := some (90, false) }, [{ dst := some 104, op := AOp.load false 1 (Opd.t 103), grd := some (90, false) }, { dst := some 106, op := AOp.load false 1 (Opd.t 105), grd := some (90, false) }, { dst := some 108, op := AOp.iadr 3 (Opd.t 106) (Opd.t 107), grd := some (90, false) }, { dst := some 109, op := AOp.load true 3 (Opd.t 108), grd := some (90, false) }, { dst := some 111, op := AOp.load false 1 (Opd.t 110), grd := some (90, false) }, { dst := some 113, op := AOp.iadr 5 (Opd.t 111) (Opd.t 112), grd := some (90, false) }, { dst := some 114, op := AOp.load true 5 (Opd.t 113), grd := some (90, false) }], []), ({ dst := some 115, op := AOp.call (Opd.c (AV.fn (AFn.func 28) [] [])) [Opd.t 104, Opd.t 109, Opd.t 114, Opd.c (AV.nilSlc)], grd := some (90, false) }, [], [{ dst := some 116, op := AOp.eq true (EqK.bool) (Opd.t 102) (Opd.t 115), grd := some (90, false) }, { dst := some 117, op := AOp.pick (Opd.t 90) (Opd.c (AV.bool true)) (Opd.t 116), grd := none }])]
def c7_47 : ACode := .seq c7_48 c7_49
def c7_46 : ACode := .block 3 c7_47
def c7_45 : ACode := .seq c7_46 c7_54
def c7_44 : ACode := .exit 2
def c7_43 : ACode := .skip
def c7_42 : ACode := .cond (.t 58) c7_43 c7_44
def c7_41 : ACode := .reg [{ dst := some 50, op := AOp.mv (Opd.t 7), grd := none }, { dst := some 51, op := AOp.fadr 2 (Opd.t 1), grd := none }, { dst := some 52, op := AOp.load false 1 (Opd.t 51), grd := none }, { dst := some 53, op := AOp.len 1 (Opd.t 52), grd := none }, { dst := some 54, op := AOp.bin (BinOp.lss) (Opd.t 50) (Opd.t 53), grd := none }, { dst := some 55, op := AOp.mv (Opd.t 54), grd := none }, { dst := some 56, op := AOp.mv (Opd.t 7), grd := some (55, true) }, { dst := some 57, op := AOp.bin (BinOp.lss) (Opd.t 56) (Opd.c (AV.int (IntKind.i64) 10)), grd := some (55, true) }, { dst := some 58, op := AOp.pick (Opd.t 55) (Opd.t 57) (Opd.c (AV.bool false)), grd := none }]
def c7_40 : ACode := .seq c7_41 c7_42
def c7_39 : ACode := .seq c7_40 c7_45
def c7_38 : ACode := .loop c7_39
def c7_37 : ACode := .block 2 c7_38
def c7_36 : ACode := .reg [{ dst := some 7, op := AOp.mv (Opd.c (AV.int (IntKind.i64) 0)), grd := none }]
def c7_35 : ACode := .seq c7_36 c7_37
def c7_34 : ACode := .block 1 c7_35
def c7_33 : ACode := .seq c7_34 c7_55
def c7_32 : ACode := .exit 0
def c7_31 : ACode := .skip
def c7_30 : ACode := .cond (.t 47) c7_31 c7_32
def c7_29 : ACode := .reg [{ dst := some 39, op := AOp.mv (Opd.t 6), grd := none }, { dst := some 40, op := AOp.fadr 1 (Opd.t 1), grd := none }, { dst := some 41, op := AOp.load false 1 (Opd.t 40), grd := none }, { dst := some 42, op := AOp.len 1 (Opd.t 41), grd := none }, { dst := some 43, op := AOp.bin (BinOp.lss) (Opd.t 39) (Opd.t 42), grd := none }, { dst := some 44, op := AOp.mv (Opd.t 43), grd := none }, { dst := some 45, op := AOp.mv (Opd.t 6), grd := some (44, true) }, { dst := some 46, op := AOp.bin (BinOp.lss) (Opd.t 45) (Opd.c (AV.int (IntKind.i64) 10)), grd := some (44, true) }, { dst := some 47, op := AOp.pick (Opd.t 44) (Opd.t 46) (Opd.c (AV.bool false)), grd := none }]
def c7_28 : ACode := .seq c7_29 c7_30
def c7_27 : ACode := .seq c7_28 c7_33
def c7_26 : ACode := .loop c7_27
def c7_25 : ACode := .block 0 c7_26
def c7_24 : ACode := .reg [{ dst := some 6, op := AOp.mv (Opd.c (AV.int (IntKind.i64) 0)), grd := none }]
def c7_23 : ACode := .seq c7_24 c7_25
def c7_22 : ACode := .seq c7_23 c7_56
def c7_21 : ACode := .reg [{ dst := some 38, op := AOp.mkfn 25 [] [Opd.t 1], grd := none }, { dst := some 5, op := AOp.mv (Opd.t 38), grd := none }]
def c7_20 : ACode := .seq c7_21 c7_22
def c7_19 : ACode := .skip
def c7_18 : ACode := .ret
def c7_17 : ACode := .reg [{ dst := some 37, op := AOp.call (Opd.c (AV.fn (AFn.func 9) [] [])) [], grd := none }, { dst := some 2, op := AOp.mv (Opd.t 37), grd := none }]
def c7_16 : ACode := .seq c7_17 c7_18
def c7_15 : ACode := .cond (.t 36) c7_16 c7_19
def c7_14 : ACode := .reg [{ dst := some 31, op := AOp.mv (Opd.t 4), grd := none }, { dst := some 32, op := AOp.bin (BinOp.neq) (Opd.t 31) (Opd.c (AV.int (IntKind.i64) 0)), grd := none }, { dst := some 33, op := AOp.mv (Opd.t 32), grd := none }, { dst := some 34, op := AOp.mv (Opd.t 3), grd := some (33, false) }, { dst := some 35, op := AOp.eq false (EqK.ptr) (Opd.t 34) (Opd.c (AV.nilPtr)), grd := some (33, false) }, { dst := some 36, op := AOp.pick (Opd.t 33) (Opd.c (AV.bool true)) (Opd.t 35), grd := none }]
def c7_13 : ACode := .seq c7_14 c7_15
def c7_12 : ACode := .seq c7_13 c7_20
def c7_11 : ACode := .reg [{ dst := some 26, op := AOp.fadr 0 (Opd.t 1), grd := none }, { dst := some 27, op := AOp.load false 1 (Opd.t 26), grd := none }, { dst := some 28, op := AOp.call (Opd.c (AV.fn (AFn.func 11) [] [])) [Opd.t 27], grd := none }, { dst := some 25, op := AOp.mv (Opd.t 28), grd := none }, { dst := some 29, op := AOp.ext (Opd.t 25) 0, grd := none }, { dst := some 30, op := AOp.ext (Opd.t 25) 1, grd := none }, { dst := some 3, op := AOp.mv (Opd.t 29), grd := none }, { dst := some 4, op := AOp.mv (Opd.t 30), grd := none }]
def c7_10 : ACode := .seq c7_11 c7_12
def c7_9 : ACode := .skip
def c7_8 : ACode := .ret
def c7_7 : ACode := .reg [{ dst := some 24, op := AOp.call (Opd.c (AV.fn (AFn.func 9) [] [])) [], grd := none }, { dst := some 2, op := AOp.mv (Opd.t 24), grd := none }]
def c7_6 : ACode := .seq c7_7 c7_8
def c7_5 : ACode := .cond (.t 23) c7_6 c7_9
def c7_4 : ACode := .reg [{ dst := some 8, op := AOp.fadr 0 (Opd.t 1), grd := none }, { dst := some 9, op := AOp.load false 1 (Opd.t 8), grd := none }, { dst := some 10, op := AOp.call (Opd.c (AV.fn (AFn.func 8) [] [])) [Opd.t 9], grd := none }, { dst := some 11, op := AOp.not (Opd.t 10), grd := none }, { dst := some 12, op := AOp.mv (Opd.t 11), grd := none }, { dst := some 13, op := AOp.fadr 2 (Opd.t 1), grd := some (12, false) }, { dst := some 14, op := AOp.load false 1 (Opd.t 13), grd := some (12, false) }, { dst := some 15, op := AOp.call (Opd.c (AV.fn (AFn.func 24) [] [])) [Opd.t 14], grd := some (12, false) }, { dst := some 16, op := AOp.bin (BinOp.gtr) (Opd.t 15) (Opd.c (AV.int (IntKind.i64) 1000)), grd := some (12, false) }, { dst := some 17, op := AOp.pick (Opd.t 12) (Opd.c (AV.bool true)) (Opd.t 16), grd := none }, { dst := some 18, op := AOp.mv (Opd.t 17), grd := none }, { dst := some 19, op := AOp.fadr 3 (Opd.t 1), grd := some (18, false) }, { dst := some 20, op := AOp.load false 1 (Opd.t 19), grd := some (18, false) }, { dst := some 21, op := AOp.len 1 (Opd.t 20), grd := some (18, false) }, { dst := some 22, op := AOp.bin (BinOp.gtr) (Opd.t 21) (Opd.c (AV.int (IntKind.i64) 50)), grd := some (18, false) }, { dst := some 23, op := AOp.pick (Opd.t 18) (Opd.c (AV.bool true)) (Opd.t 22), grd := none }]
def c7_3 : ACode := .seq c7_4 c7_5
def c7_2 : ACode := .seq c7_3 c7_10
def c7_1 : ACode := .reg [{ dst := some 1, op := AOp.box 4 (Opd.t 0), grd := none }, { dst := some 2, op := AOp.mv (Opd.c (AV.bool false)), grd := none }]
def c7_0 : ACode := .seq c7_1 c7_2
def A7 : AFun := { np := 1, res := [(2, none)], body := c7_0 }

def c8_21 : ACode := .ret
def c8_20 : ACode := .reg [{ dst := some 20, op := AOp.mv (Opd.t 3), grd := none }, { dst := some 21, op := AOp.bin (BinOp.leq) (Opd.t 20) (Opd.c (AV.int (IntKind.i64) 1500)), grd := none }, { dst := some 2, op := AOp.mv (Opd.t 21), grd := none }]
def c8_19 : ACode := .seq c8_20 c8_21
def c8_18 : ACode := .reg [{ dst := some 9, op := AOp.mv (Opd.t 4), grd := none }, { dst := some 10, op := AOp.bin (BinOp.add) (Opd.t 9) (Opd.c (AV.int (IntKind.i64) 1)), grd := none }, { dst := some 4, op := AOp.mv (Opd.t 10), grd := none }]
def c8_17 : ACode := .reg [{ dst := some 11, op := AOp.mv (Opd.t 3), grd := none }, { dst := some 12, op := AOp.bin (BinOp.add) (Opd.t 11) (Opd.c (AV.int (IntKind.i64) 1)), grd := none }, { dst := some 13, op := AOp.mv (Opd.t 0), grd := none }, { dst := some 14, op := AOp.mv (Opd.t 4), grd := none }, { dst := some 15, op := AOp.iadr 3 (Opd.t 13) (Opd.t 14), grd := none }, { dst := some 16, op := AOp.fadr 2 (Opd.t 15), grd := none }, { dst := some 17, op := AOp.load false 1 (Opd.t 16), grd := none }, { dst := some 18, op := AOp.len 1 (Opd.t 17), grd := none }, { dst := some 19, op := AOp.bin (BinOp.add) (Opd.t 12) (Opd.t 18), grd := none }, { dst := some 3, op := AOp.mv (Opd.t 19), grd := none }]
def c8_16 : ACode := .block 1 c8_17
def c8_15 : ACode := .seq c8_16 c8_18
def c8_14 : ACode := .exit 0
def c8_13 : ACode := .skip
def c8_12 : ACode := .cond (.t 8) c8_13 c8_14
def c8_11 : ACode := .reg [{ dst := some 5, op := AOp.mv (Opd.t 4), grd := none }, { dst := some 6, op := AOp.mv (Opd.t 0), grd := none }, { dst := some 7, op := AOp.len 1 (Opd.t 6), grd := none }, { dst := some 8, op := AOp.bin (BinOp.lss) (Opd.t 5) (Opd.t 7), grd := none }]
def c8_10 : ACode := .seq c8_11 c8_12
def c8_9 : ACode := .seq c8_10 c8_15
def c8_8 : ACode := .loop c8_9
def c8_7 : ACode := .block 0 c8_8
def c8_6 : ACode := .reg [{ dst := some 4, op := AOp.mv (Opd.c (AV.int (IntKind.i64) 0)), grd := none }]
def c8_5 : ACode := .seq c8_6 c8_7
def c8_4 : ACode := .seq c8_5 c8_19
def c8_3 : ACode := .reg [{ dst := some 3, op := AOp.mv (Opd.c (AV.int (IntKind.i64) 0)), grd := none }]
def c8_2 : ACode := .seq c8_3 c8_4
def c8_1 : ACode := .reg [{ dst := some 2, op := AOp.mv (Opd.c (AV.bool false)), grd := none }]
def c8_0 : ACode := .seq c8_1 c8_2
def A8 : AFun := { np := 1, res := [(2, none)], body := c8_0 }

def c9_18 : ACode := .ret
set_option maxRecDepth 100000 in
def c9_17 : ACode := .reg [{ dst := some 29, op := AOp.mv (Opd.t 4), grd := none }, { dst := some 30, op := AOp.bin (BinOp.eql) (Opd.t 29) (Opd.c (AV.int (IntKind.i64) 0)), grd := none }, { dst := some 31, op := AOp.mv (Opd.t 30), grd := none }, { dst := some 32, op := AOp.mv (Opd.t 3), grd := some (31, true) }, { dst := some 33, op := AOp.bin (BinOp.eql) (Opd.t 32) (Opd.c (AV.int (IntKind.u64) 2)), grd := some (31, true) }, { dst := some 34, op := AOp.pick (Opd.t 31) (Opd.t 33) (Opd.c (AV.bool false)), grd := none }, { dst := some 35, op := AOp.mv (Opd.t 34), grd := none }, { dst := some 36, op := AOp.mv (Opd.t 6), grd := some (35, true) }, { dst := some 37, op := AOp.bin (BinOp.eql) (Opd.t 36) (Opd.c (AV.int (IntKind.i64) 0)), grd := some (35, true) }, { dst := some 38, op := AOp.pick (Opd.t 35) (Opd.t 37) (Opd.c (AV.bool false)), grd := none }, { dst := some 39, op := AOp.mv (Opd.t 38), grd := none }, { dst := some 40, op := AOp.mv (Opd.t 5), grd := some (39, true) }, { dst := some 41, op := AOp.bslice 2 1 [AV.str []] [(0, Opd.c (AV.str [65])), (1, Opd.c (AV.str [66]))], grd := some (39, true) }, { dst := some 42, op := AOp.call (Opd.c (AV.fn (AFn.func 21) [] [])) [Opd.t 40, Opd.t 41], grd := some (39, true) }, { dst := some 43, op := AOp.pick (Opd.t 39) (Opd.t 42) (Opd.c (AV.bool false)), grd := none }, { dst := some 44, op := AOp.mv (Opd.t 43), grd := none }, { dst := some 45, op := AOp.mv (Opd.t 1), grd := some (44, true) }, { dst := some 46, op := AOp.call (Opd.c (AV.fn (AFn.func 14) [] [])) [Opd.t 45, Opd.c (AV.str [66]), Opd.c (AV.str [65])], grd := some (44, true) }, { dst := some 47, op := AOp.pick (Opd.t 44) (Opd.t 46) (Opd.c (AV.bool false)), grd := none }, { dst := some 48, op := AOp.mv (Opd.t 47), grd := none }, { dst := some 49, op := AOp.mv (Opd.t 1), grd := some (48, true) }, { dst := some 50, op := AOp.call (Opd.c (AV.fn (AFn.func 19) [] [])) [Opd.t 49, Opd.c (AV.str [65])], grd := some (48, true) }, { dst := some 51, op := AOp.pick (Opd.t 48) (Opd.t 50) (Opd.c (AV.bool false)), grd := none }, { dst := some 0, op := AOp.mv (Opd.t 51), grd := none }]
def c9_16 : ACode := .seq c9_17 c9_18
def c9_15 : ACode := .reg [{ dst := some 25, op := AOp.mv (Opd.t 1), grd := none }, { dst := some 26, op := AOp.call (Opd.c (AV.fn (AFn.func 20) [] [])) [Opd.t 25, Opd.c (AV.str [65])], grd := none }, { dst := some 24, op := AOp.mv (Opd.t 26), grd := none }, { dst := some 27, op := AOp.ext (Opd.t 24) 0, grd := none }, { dst := some 28, op := AOp.ext (Opd.t 24) 1, grd := none }, { dst := some 5, op := AOp.mv (Opd.t 27), grd := none }, { dst := some 6, op := AOp.mv (Opd.t 28), grd := none }]
def c9_14 : ACode := .seq c9_15 c9_16
def c9_13 : ACode := .reg [{ dst := some 19, op := AOp.mv (Opd.t 1), grd := none }, { dst := some 20, op := AOp.bslice 1 1 [AV.str []] [(0, Opd.c (AV.str [121]))], grd := none }, { dst := some 21, op := AOp.call (Opd.c (AV.fn (AFn.func 18) [] [])) [Opd.t 19, Opd.c (AV.str [66]), Opd.t 20], grd := none }, { dst := some 18, op := AOp.mv (Opd.t 21), grd := none }, { dst := some 22, op := AOp.ext (Opd.t 18) 0, grd := none }, { dst := some 23, op := AOp.ext (Opd.t 18) 1, grd := none }, { dst := some 3, op := AOp.mv (Opd.t 22), grd := none }, { dst := some 4, op := AOp.mv (Opd.t 23), grd := none }]
def c9_12 : ACode := .seq c9_13 c9_14
def c9_11 : ACode := .skip
def c9_10 : ACode := .ret
def c9_9 : ACode := .reg [{ dst := some 0, op := AOp.mv (Opd.c (AV.bool false)), grd := none }]
def c9_8 : ACode := .seq c9_9 c9_10
def c9_7 : ACode := .cond (.t 17) c9_8 c9_11
def c9_6 : ACode := .reg [{ dst := some 12, op := AOp.mv (Opd.t 2), grd := none }, { dst := some 13, op := AOp.bin (BinOp.neq) (Opd.t 12) (Opd.c (AV.int (IntKind.i64) 0)), grd := none }, { dst := some 14, op := AOp.mv (Opd.t 13), grd := none }, { dst := some 15, op := AOp.mv (Opd.t 1), grd := some (14, false) }, { dst := some 16, op := AOp.eq false (EqK.ptr) (Opd.t 15) (Opd.c (AV.nilPtr)), grd := some (14, false) }, { dst := some 17, op := AOp.pick (Opd.t 14) (Opd.c (AV.bool true)) (Opd.t 16), grd := none }]
def c9_5 : ACode := .seq c9_6 c9_7
def c9_4 : ACode := .seq c9_5 c9_12
def c9_3 : ACode := .reg [{ dst := some 8, op := AOp.call (Opd.c (AV.fn (AFn.func 29) [] [])) [], grd := none }, { dst := some 9, op := AOp.call (Opd.c (AV.fn (AFn.func 11) [] [])) [Opd.t 8], grd := none }, { dst := some 7, op := AOp.mv (Opd.t 9), grd := none }, { dst := some 10, op := AOp.ext (Opd.t 7) 0, grd := none }, { dst := some 11, op := AOp.ext (Opd.t 7) 1, grd := none }, { dst := some 1, op := AOp.mv (Opd.t 10), grd := none }, { dst := some 2, op := AOp.mv (Opd.t 11), grd := none }]
def c9_2 : ACode := .seq c9_3 c9_4
def c9_1 : ACode := .reg [{ dst := some 0, op := AOp.mv (Opd.c (AV.bool false)), grd := none }]
def c9_0 : ACode := .seq c9_1 c9_2
def A9 : AFun := { np := 0, res := [(0, none)], body := c9_0 }

def c11_43 : ACode := .ret
def c11_42 : ACode := .reg [{ dst := some 56, op := AOp.mv (Opd.t 4), grd := none }, { dst := some 2, op := AOp.mv (Opd.t 56), grd := none }, { dst := some 3, op := AOp.mv (Opd.c (AV.int (IntKind.i64) 0)), grd := none }]
def c11_41 : ACode := .seq c11_42 c11_43
def c11_40 : ACode := .reg [{ dst := some 55, op := AOp.bin (BinOp.add) (Opd.t 15) (Opd.c (AV.int (IntKind.i64) 1)), grd := none }, { dst := some 15, op := AOp.mv (Opd.t 55), grd := none }]
def c11_39 : ACode := .dreg [{ dst := some 45, op := AOp.mv (Opd.t 4), grd := none }, { dst := some 46, op := AOp.mv (Opd.t 4), grd := none }, { dst := some 47, op := AOp.nilck (Opd.t 46), grd := none }, { dst := some 48, op := AOp.fadr 0 (Opd.t 47), grd := none }, { dst := some 49, op := AOp.load false 1 (Opd.t 48), grd := none }, { dst := some 50, op := AOp.load true 3 (Opd.t 6), grd := none }] [({ dst := some 51, op := AOp.bslice 1 3 [AV.str [], AV.str [], AV.nilSlc] [(0, Opd.t 50)], grd := none }, [{ dst := some 49, op := AOp.load false 1 (Opd.t 48), grd := none }], []), ({ dst := some 52, op := AOp.app 3 56 (Opd.t 49) (Opd.t 51), grd := none }, [], [{ dst := some 53, op := AOp.nilck (Opd.t 45), grd := none }, { dst := some 54, op := AOp.fadr 0 (Opd.t 53), grd := none }]), ({ dst := none, op := AOp.store 1 (Opd.t 54) (Opd.t 52), grd := none }, [], [])]
def c11_38 : ACode := .reg [{ dst := some 41, op := AOp.fadr 2 (Opd.t 6), grd := none }, { dst := some 42, op := AOp.load false 1 (Opd.t 41), grd := none }, { dst := some 43, op := AOp.call (Opd.c (AV.fn (AFn.func 31) [] [])) [Opd.t 42], grd := none }, { dst := some 44, op := AOp.fadr 2 (Opd.t 6), grd := none }, { dst := none, op := AOp.store 1 (Opd.t 44) (Opd.t 43), grd := none }]
def c11_37 : ACode := .seq c11_38 c11_39
def c11_36 : ACode := .dreg [{ dst := some 30, op := AOp.mv (Opd.t 4), grd := none }, { dst := some 31, op := AOp.nilck (Opd.t 30), grd := none }, { dst := some 32, op := AOp.fadr 1 (Opd.t 31), grd := none }, { dst := some 33, op := AOp.load false 1 (Opd.t 32), grd := none }, { dst := some 34, op := AOp.fadr 0 (Opd.t 6), grd := none }, { dst := some 35, op := AOp.load false 1 (Opd.t 34), grd := none }, { dst := some 36, op := AOp.mv (Opd.t 4), grd := none }, { dst := some 37, op := AOp.nilck (Opd.t 36), grd := none }, { dst := some 38, op := AOp.fadr 0 (Opd.t 37), grd := none }, { dst := some 39, op := AOp.load false 1 (Opd.t 38), grd := none }, { dst := some 40, op := AOp.len 1 (Opd.t 39), grd := none }] [({ dst := none, op := AOp.mupd (KK.leaf (K0.str)) (Opd.t 33) (Opd.t 35) (Opd.t 40), grd := none }, [], [])]
def c11_35 : ACode := .seq c11_36 c11_37
def c11_34 : ACode := .skip
def c11_33 : ACode := .ret
def c11_32 : ACode := .reg [{ dst := some 2, op := AOp.mv (Opd.c (AV.nilPtr)), grd := none }, { dst := some 3, op := AOp.mv (Opd.c (AV.int (IntKind.i64) 10)), grd := none }]
def c11_31 : ACode := .seq c11_32 c11_33
def c11_30 : ACode := .cond (.t 29) c11_31 c11_34
def c11_29 : ACode := .reg [{ dst := some 19, op := AOp.fadr 2 (Opd.t 6), grd := none }, { dst := some 20, op := AOp.load false 1 (Opd.t 19), grd := none }, { dst := some 21, op := AOp.len 1 (Opd.t 20), grd := none }, { dst := some 22, op := AOp.bin (BinOp.gtr) (Opd.t 21) (Opd.c (AV.int (IntKind.i64) 62)), grd := none }, { dst := some 23, op := AOp.mv (Opd.t 22), grd := none }, { dst := some 24, op := AOp.mv (Opd.t 4), grd := some (23, false) }, { dst := some 25, op := AOp.load true 3 (Opd.t 6), grd := some (23, false) }, { dst := some 26, op := AOp.mv (Opd.t 0), grd := some (23, false) }, { dst := some 27, op := AOp.call (Opd.c (AV.fn (AFn.func 30) [] [])) [Opd.t 24, Opd.t 25, Opd.t 26], grd := some (23, false) }, { dst := some 28, op := AOp.not (Opd.t 27), grd := some (23, false) }, { dst := some 29, op := AOp.pick (Opd.t 23) (Opd.c (AV.bool true)) (Opd.t 28), grd := none }]
def c11_28 : ACode := .seq c11_29 c11_30
def c11_27 : ACode := .seq c11_28 c11_35
def c11_26 : ACode := .reg [{ dst := some 17, op := AOp.iadr 3 (Opd.t 13) (Opd.t 15), grd := none }, { dst := some 18, op := AOp.load true 3 (Opd.t 17), grd := none }, { dst := some 6, op := AOp.alloc [AV.str [], AV.str [], AV.nilSlc], grd := none }, { dst := none, op := AOp.store 3 (Opd.t 6) (Opd.t 18), grd := none }]
def c11_25 : ACode := .seq c11_26 c11_27
def c11_24 : ACode := .block 1 c11_25
def c11_23 : ACode := .seq c11_24 c11_40
def c11_22 : ACode := .exit 0
def c11_21 : ACode := .skip
def c11_20 : ACode := .cond (.t 16) c11_21 c11_22
def c11_19 : ACode := .seq c11_20 c11_23
def c11_18 : ACode := .reg [{ dst := some 16, op := AOp.bin (BinOp.lss) (Opd.t 15) (Opd.t 14), grd := none }]
def c11_17 : ACode := .seq c11_18 c11_19
def c11_16 : ACode := .loop c11_17
def c11_15 : ACode := .block 0 c11_16
def c11_14 : ACode := .reg [{ dst := some 13, op := AOp.mv (Opd.t 0), grd := none }, { dst := some 14, op := AOp.len 1 (Opd.t 13), grd := none }, { dst := some 15, op := AOp.mv (Opd.c (AV.int (IntKind.i64) 0)), grd := none }]
def c11_13 : ACode := .seq c11_14 c11_15
def c11_12 : ACode := .seq c11_13 c11_41
def c11_11 : ACode := .skip
def c11_10 : ACode := .ret
def c11_9 : ACode := .reg [{ dst := some 2, op := AOp.mv (Opd.c (AV.nilPtr)), grd := none }, { dst := some 3, op := AOp.mv (Opd.c (AV.int (IntKind.i64) 10)), grd := none }]
def c11_8 : ACode := .seq c11_9 c11_10
def c11_7 : ACode := .cond (.t 12) c11_8 c11_11
def c11_6 : ACode := .reg [{ dst := some 10, op := AOp.mv (Opd.t 0), grd := none }, { dst := some 11, op := AOp.len 1 (Opd.t 10), grd := none }, { dst := some 12, op := AOp.bin (BinOp.gtr) (Opd.t 11) (Opd.c (AV.int (IntKind.i64) 64)), grd := none }]
def c11_5 : ACode := .seq c11_6 c11_7
def c11_4 : ACode := .seq c11_5 c11_12
def c11_3 : ACode := .reg [{ dst := some 7, op := AOp.mkmap, grd := none }, { dst := some 8, op := AOp.build [AV.nilSlc, AV.nilMap] [(1, 1, Opd.t 7)], grd := none }, { dst := some 9, op := AOp.box 2 (Opd.t 8), grd := none }, { dst := some 4, op := AOp.mv (Opd.t 9), grd := none }]
def c11_2 : ACode := .seq c11_3 c11_4
def c11_1 : ACode := .reg [{ dst := some 2, op := AOp.mv (Opd.c (AV.nilPtr)), grd := none }, { dst := some 3, op := AOp.mv (Opd.c (AV.int (IntKind.i64) 0)), grd := none }]
def c11_0 : ACode := .seq c11_1 c11_2
def A11 : AFun := { np := 1, res := [(2, none), (3, none)], body := c11_0 }

def c14_18 : ACode := .ret
def c14_17 : ACode := .reg [{ dst := none, op := AOp.store 1 (Opd.t 6) (Opd.c (AV.bool false)), grd := none }]
def c14_16 : ACode := .seq c14_17 c14_18
def c14_15 : ACode := .skip
def c14_14 : ACode := .ret
def c14_13 : ACode := .reg [{ dst := none, op := AOp.store 1 (Opd.t 6) (Opd.c (AV.bool true)), grd := none }]
def c14_12 : ACode := .seq c14_13 c14_14
def c14_11 : ACode := .cond (.t 15) c14_12 c14_15
def c14_10 : ACode := .reg [{ dst := some 12, op := AOp.fadr 0 (Opd.t 7), grd := none }, { dst := some 13, op := AOp.load false 1 (Opd.t 12), grd := none }, { dst := some 14, op := AOp.load false 1 (Opd.t 5), grd := none }, { dst := some 15, op := AOp.bin (BinOp.eql) (Opd.t 13) (Opd.t 14), grd := none }]
def c14_9 : ACode := .seq c14_10 c14_11
def c14_8 : ACode := .block 1 c14_9
def c14_7 : ACode := .reg [{ dst := some 7, op := AOp.alloc [AV.str [], AV.str [], AV.nilSlc], grd := none }, { dst := none, op := AOp.store 3 (Opd.t 7) (Opd.t 11), grd := none }]
def c14_6 : ACode := .keep [5, 6, 10] (.rf (.t 10) [11] c14_7 c14_8)
def c14_5 : ACode := .block 0 c14_6
def c14_4 : ACode := .reg [{ dst := some 8, op := AOp.mv (Opd.t 0), grd := none }, { dst := some 9, op := AOp.mv (Opd.t 1), grd := none }, { dst := some 10, op := AOp.call (Opd.c (AV.fn (AFn.func 38) [] [])) [Opd.t 8, Opd.t 9], grd := none }]
def c14_3 : ACode := .seq c14_4 c14_5
def c14_2 : ACode := .seq c14_3 c14_16
def c14_1 : ACode := .reg [{ dst := some 5, op := AOp.box 1 (Opd.t 2), grd := none }, { dst := some 6, op := AOp.alloc [AV.bool false], grd := none }]
def c14_0 : ACode := .seq c14_1 c14_2
def A14 : AFun := { np := 3, res := [(6, some (false, 1))], body := c14_0 }

def c15_33 : ACode := .ret
def c15_32 : ACode := .reg [{ dst := some 6, op := AOp.mv (Opd.c (AV.bool false)), grd := none }]
def c15_31 : ACode := .seq c15_32 c15_33
def c15_30 : ACode := .reg [{ dst := some 17, op := AOp.mv (Opd.t 0), grd := none }, { dst := some 18, op := AOp.mv (Opd.t 0), grd := none }, { dst := some 19, op := AOp.mv (Opd.t 7), grd := none }, { dst := some 20, op := AOp.iadr 3 (Opd.t 18) (Opd.t 19), grd := none }, { dst := some 21, op := AOp.fadr 1 (Opd.t 20), grd := none }, { dst := some 22, op := AOp.load false 1 (Opd.t 21), grd := none }, { dst := some 23, op := AOp.call (Opd.c (AV.fn (AFn.func 33) [] [])) [Opd.t 17, Opd.t 22], grd := none }, { dst := some 7, op := AOp.mv (Opd.t 23), grd := none }]
def c15_29 : ACode := .skip
def c15_28 : ACode := .ret
def c15_27 : ACode := .reg [{ dst := some 6, op := AOp.mv (Opd.c (AV.bool true)), grd := none }]
def c15_26 : ACode := .seq c15_27 c15_28
def c15_25 : ACode := .cond (.t 30) c15_26 c15_29
def c15_24 : ACode := .reg [{ dst := some 24, op := AOp.mv (Opd.t 0), grd := none }, { dst := some 25, op := AOp.mv (Opd.t 7), grd := none }, { dst := some 26, op := AOp.iadr 3 (Opd.t 24) (Opd.t 25), grd := none }, { dst := some 27, op := AOp.fadr 0 (Opd.t 26), grd := none }, { dst := some 28, op := AOp.load false 1 (Opd.t 27), grd := none }, { dst := some 29, op := AOp.mv (Opd.t 2), grd := none }, { dst := some 30, op := AOp.bin (BinOp.eql) (Opd.t 28) (Opd.t 29), grd := none }]
def c15_23 : ACode := .seq c15_24 c15_25
def c15_22 : ACode := .block 1 c15_23
def c15_21 : ACode := .seq c15_22 c15_30
def c15_20 : ACode := .exit 0
def c15_19 : ACode := .skip
def c15_18 : ACode := .cond (.t 16) c15_19 c15_20
def c15_17 : ACode := .reg [{ dst := some 15, op := AOp.mv (Opd.t 7), grd := none }, { dst := some 16, op := AOp.bin (BinOp.geq) (Opd.t 15) (Opd.c (AV.int (IntKind.i64) 0)), grd := none }]
def c15_16 : ACode := .seq c15_17 c15_18
def c15_15 : ACode := .seq c15_16 c15_21
def c15_14 : ACode := .loop c15_15
def c15_13 : ACode := .block 0 c15_14
def c15_12 : ACode := .reg [{ dst := some 12, op := AOp.mv (Opd.t 0), grd := none }, { dst := some 13, op := AOp.mv (Opd.t 1), grd := none }, { dst := some 14, op := AOp.call (Opd.c (AV.fn (AFn.func 33) [] [])) [Opd.t 12, Opd.t 13], grd := none }, { dst := some 7, op := AOp.mv (Opd.t 14), grd := none }]
def c15_11 : ACode := .seq c15_12 c15_13
def c15_10 : ACode := .seq c15_11 c15_31
def c15_9 : ACode := .skip
def c15_8 : ACode := .ret
def c15_7 : ACode := .reg [{ dst := some 6, op := AOp.mv (Opd.c (AV.bool false)), grd := none }]
def c15_6 : ACode := .seq c15_7 c15_8
def c15_5 : ACode := .cond (.t 11) c15_6 c15_9
def c15_4 : ACode := .reg [{ dst := some 8, op := AOp.mv (Opd.t 0), grd := none }, { dst := some 9, op := AOp.mv (Opd.t 2), grd := none }, { dst := some 10, op := AOp.call (Opd.c (AV.fn (AFn.func 33) [] [])) [Opd.t 8, Opd.t 9], grd := none }, { dst := some 11, op := AOp.bin (BinOp.lss) (Opd.t 10) (Opd.c (AV.int (IntKind.i64) 0)), grd := none }]
def c15_3 : ACode := .seq c15_4 c15_5
def c15_2 : ACode := .seq c15_3 c15_10
def c15_1 : ACode := .reg [{ dst := some 6, op := AOp.mv (Opd.c (AV.bool false)), grd := none }]
def c15_0 : ACode := .seq c15_1 c15_2
def A15 : AFun := { np := 3, res := [(6, none)], body := c15_0 }

def c16_22 : ACode := .ret
def c16_21 : ACode := .reg [{ dst := some 21, op := AOp.load false 1 (Opd.t 6), grd := none }, { dst := some 4, op := AOp.mv (Opd.t 21), grd := none }, { dst := some 5, op := AOp.mv (Opd.c (AV.int (IntKind.i64) 0)), grd := none }]
def c16_20 : ACode := .seq c16_21 c16_22
def c16_19 : ACode := .reg [{ dst := some 16, op := AOp.fadr 2 (Opd.t 7), grd := none }, { dst := some 17, op := AOp.load false 1 (Opd.t 16), grd := none }, { dst := some 18, op := AOp.load false 1 (Opd.t 6), grd := none }, { dst := some 19, op := AOp.bslice 2 1 [AV.nilSlc] [(0, Opd.t 17), (1, Opd.t 18)], grd := none }, { dst := some 20, op := AOp.call (Opd.c (AV.fn (AFn.func 39) [] [])) [Opd.t 19], grd := none }, { dst := none, op := AOp.store 1 (Opd.t 6) (Opd.t 20), grd := none }]
def c16_18 : ACode := .block 1 c16_19
def c16_17 : ACode := .reg [{ dst := some 7, op := AOp.alloc [AV.str [], AV.str [], AV.nilSlc], grd := none }, { dst := none, op := AOp.store 3 (Opd.t 7) (Opd.t 15), grd := none }]
def c16_16 : ACode := .keep [6, 14] (.rf (.t 14) [15] c16_17 c16_18)
def c16_15 : ACode := .block 0 c16_16
def c16_14 : ACode := .reg [{ dst := some 12, op := AOp.mv (Opd.t 0), grd := none }, { dst := some 13, op := AOp.mv (Opd.t 1), grd := none }, { dst := some 14, op := AOp.call (Opd.c (AV.fn (AFn.func 38) [] [])) [Opd.t 12, Opd.t 13], grd := none }]
def c16_13 : ACode := .seq c16_14 c16_15
def c16_12 : ACode := .seq c16_13 c16_20
def c16_11 : ACode := .reg [{ dst := some 6, op := AOp.alloc [AV.nilSlc], grd := none }]
def c16_10 : ACode := .seq c16_11 c16_12
def c16_9 : ACode := .skip
def c16_8 : ACode := .ret
def c16_7 : ACode := .reg [{ dst := some 4, op := AOp.mv (Opd.c (AV.nilSlc)), grd := none }, { dst := some 5, op := AOp.mv (Opd.c (AV.int (IntKind.i64) 10)), grd := none }]
def c16_6 : ACode := .seq c16_7 c16_8
def c16_5 : ACode := .cond (.t 11) c16_6 c16_9
def c16_4 : ACode := .reg [{ dst := some 8, op := AOp.mv (Opd.t 0), grd := none }, { dst := some 9, op := AOp.mv (Opd.t 1), grd := none }, { dst := some 10, op := AOp.call (Opd.c (AV.fn (AFn.func 19) [] [])) [Opd.t 8, Opd.t 9], grd := none }, { dst := some 11, op := AOp.not (Opd.t 10), grd := none }]
def c16_3 : ACode := .seq c16_4 c16_5
def c16_2 : ACode := .seq c16_3 c16_10
def c16_1 : ACode := .reg [{ dst := some 4, op := AOp.mv (Opd.c (AV.nilSlc)), grd := none }, { dst := some 5, op := AOp.mv (Opd.c (AV.int (IntKind.i64) 0)), grd := none }]
def c16_0 : ACode := .seq c16_1 c16_2
def A16 : AFun := { np := 2, res := [(4, none), (5, none)], body := c16_0 }

def c18_41 : ACode := .ret
def c18_40 : ACode := .reg [{ dst := some 38, op := AOp.mv (Opd.t 8), grd := none }, { dst := some 6, op := AOp.mv (Opd.t 38), grd := none }, { dst := some 7, op := AOp.mv (Opd.c (AV.int (IntKind.i64) 0)), grd := none }]
def c18_39 : ACode := .seq c18_40 c18_41
def c18_38 : ACode := .reg [{ dst := some 37, op := AOp.bin (BinOp.add) (Opd.t 19) (Opd.c (AV.int (IntKind.i64) 1)), grd := none }, { dst := some 19, op := AOp.mv (Opd.t 37), grd := none }]
def c18_37 : ACode := .reg [{ dst := some 33, op := AOp.mv (Opd.t 8), grd := none }, { dst := some 34, op := AOp.mv (Opd.t 11), grd := none }, { dst := some 35, op := AOp.bin (BinOp.shl) (Opd.c (AV.int (IntKind.u64) 1)) (Opd.t 34), grd := none }, { dst := some 36, op := AOp.bin (BinOp.or) (Opd.t 33) (Opd.t 35), grd := none }, { dst := some 8, op := AOp.mv (Opd.t 36), grd := none }]
def c18_36 : ACode := .skip
def c18_35 : ACode := .ret
def c18_34 : ACode := .reg [{ dst := some 32, op := AOp.mv (Opd.t 12), grd := none }, { dst := some 6, op := AOp.mv (Opd.c (AV.int (IntKind.u64) 0)), grd := none }, { dst := some 7, op := AOp.mv (Opd.t 32), grd := none }]
def c18_33 : ACode := .seq c18_34 c18_35
def c18_32 : ACode := .cond (.t 31) c18_33 c18_36
def c18_31 : ACode := .reg [{ dst := some 30, op := AOp.mv (Opd.t 12), grd := none }, { dst := some 31, op := AOp.bin (BinOp.neq) (Opd.t 30) (Opd.c (AV.int (IntKind.i64) 0)), grd := none }]
def c18_30 : ACode := .seq c18_31 c18_32
def c18_29 : ACode := .seq c18_30 c18_37
def c18_28 : ACode := .reg [{ dst := some 24, op := AOp.mv (Opd.t 0), grd := none }, { dst := some 25, op := AOp.mv (Opd.t 1), grd := none }, { dst := some 26, op := AOp.mv (Opd.t 10), grd := none }, { dst := some 27, op := AOp.call (Opd.c (AV.fn (AFn.func 36) [] [])) [Opd.t 24, Opd.t 25, Opd.t 26], grd := none }, { dst := some 23, op := AOp.mv (Opd.t 27), grd := none }, { dst := some 28, op := AOp.ext (Opd.t 23) 0, grd := none }, { dst := some 29, op := AOp.ext (Opd.t 23) 1, grd := none }, { dst := some 11, op := AOp.mv (Opd.t 28), grd := none }, { dst := some 12, op := AOp.mv (Opd.t 29), grd := none }]
def c18_27 : ACode := .seq c18_28 c18_29
def c18_26 : ACode := .reg [{ dst := some 21, op := AOp.iadr 1 (Opd.t 17) (Opd.t 19), grd := none }, { dst := some 22, op := AOp.load false 1 (Opd.t 21), grd := none }, { dst := some 10, op := AOp.mv (Opd.t 22), grd := none }]
def c18_25 : ACode := .seq c18_26 c18_27
def c18_24 : ACode := .block 1 c18_25
def c18_23 : ACode := .seq c18_24 c18_38
def c18_22 : ACode := .exit 0
def c18_21 : ACode := .skip
def c18_20 : ACode := .cond (.t 20) c18_21 c18_22
def c18_19 : ACode := .seq c18_20 c18_23
def c18_18 : ACode := .reg [{ dst := some 20, op := AOp.bin (BinOp.lss) (Opd.t 19) (Opd.t 18), grd := none }]
def c18_17 : ACode := .seq c18_18 c18_19
def c18_16 : ACode := .loop c18_17
def c18_15 : ACode := .block 0 c18_16
def c18_14 : ACode := .reg [{ dst := some 17, op := AOp.mv (Opd.t 2), grd := none }, { dst := some 18, op := AOp.len 1 (Opd.t 17), grd := none }, { dst := some 19, op := AOp.mv (Opd.c (AV.int (IntKind.i64) 0)), grd := none }]
def c18_13 : ACode := .seq c18_14 c18_15
def c18_12 : ACode := .seq c18_13 c18_39
def c18_11 : ACode := .reg [{ dst := some 8, op := AOp.mv (Opd.c (AV.int (IntKind.u64) 0)), grd := none }]
def c18_10 : ACode := .seq c18_11 c18_12
def c18_9 : ACode := .skip
def c18_8 : ACode := .ret
def c18_7 : ACode := .reg [{ dst := some 6, op := AOp.mv (Opd.c (AV.int (IntKind.u64) 0)), grd := none }, { dst := some 7, op := AOp.mv (Opd.c (AV.int (IntKind.i64) 10)), grd := none }]
def c18_6 : ACode := .seq c18_7 c18_8
def c18_5 : ACode := .cond (.t 16) c18_6 c18_9
def c18_4 : ACode := .reg [{ dst := some 13, op := AOp.mv (Opd.t 0), grd := none }, { dst := some 14, op := AOp.mv (Opd.t 1), grd := none }, { dst := some 15, op := AOp.call (Opd.c (AV.fn (AFn.func 19) [] [])) [Opd.t 13, Opd.t 14], grd := none }, { dst := some 16, op := AOp.not (Opd.t 15), grd := none }]
def c18_3 : ACode := .seq c18_4 c18_5
def c18_2 : ACode := .seq c18_3 c18_10
def c18_1 : ACode := .reg [{ dst := some 6, op := AOp.mv (Opd.c (AV.int (IntKind.u64) 0)), grd := none }, { dst := some 7, op := AOp.mv (Opd.c (AV.int (IntKind.i64) 0)), grd := none }]
def c18_0 : ACode := .seq c18_1 c18_2
def A18 : AFun := { np := 3, res := [(6, none), (7, none)], body := c18_0 }

def c19_6 : ACode := .ret
def c19_5 : ACode := .reg [{ dst := some 16, op := AOp.mv (Opd.t 6), grd := none }, { dst := some 4, op := AOp.mv (Opd.t 16), grd := none }]
def c19_4 : ACode := .seq c19_5 c19_6
def c19_3 : ACode := .reg [{ dst := some 8, op := AOp.mv (Opd.t 0), grd := none }, { dst := some 9, op := AOp.nilck (Opd.t 8), grd := none }, { dst := some 10, op := AOp.fadr 1 (Opd.t 9), grd := none }, { dst := some 11, op := AOp.load false 1 (Opd.t 10), grd := none }, { dst := some 12, op := AOp.mv (Opd.t 1), grd := none }, { dst := some 13, op := AOp.look (KK.leaf (K0.str)) true (AV.int (IntKind.i64) 0) (Opd.t 11) (Opd.t 12), grd := none }, { dst := some 7, op := AOp.mv (Opd.t 13), grd := none }, { dst := some 14, op := AOp.ext (Opd.t 7) 0, grd := none }, { dst := some 15, op := AOp.ext (Opd.t 7) 1, grd := none }, { dst := some 5, op := AOp.mv (Opd.t 14), grd := none }, { dst := some 6, op := AOp.mv (Opd.t 15), grd := none }]
def c19_2 : ACode := .seq c19_3 c19_4
def c19_1 : ACode := .reg [{ dst := some 4, op := AOp.mv (Opd.c (AV.bool false)), grd := none }]
def c19_0 : ACode := .seq c19_1 c19_2
def A19 : AFun := { np := 2, res := [(4, none)], body := c19_0 }

def c20_35 : ACode := .ret
def c20_34 : ACode := .reg [{ dst := some 33, op := AOp.mv (Opd.t 6), grd := none }, { dst := some 4, op := AOp.mv (Opd.t 33), grd := none }, { dst := some 5, op := AOp.mv (Opd.c (AV.int (IntKind.i64) 0)), grd := none }]
def c20_33 : ACode := .seq c20_34 c20_35
def c20_32 : ACode := .reg [{ dst := some 32, op := AOp.bin (BinOp.add) (Opd.t 18) (Opd.c (AV.int (IntKind.i64) 1)), grd := none }, { dst := some 18, op := AOp.mv (Opd.t 32), grd := none }]
def c20_31 : ACode := .skip
def c20_30 : ACode := .reg [{ dst := some 27, op := AOp.mv (Opd.t 6), grd := none }, { dst := some 28, op := AOp.fadr 0 (Opd.t 8), grd := none }, { dst := some 29, op := AOp.load false 1 (Opd.t 28), grd := none }, { dst := some 30, op := AOp.bslice 1 1 [AV.str []] [(0, Opd.t 29)], grd := none }, { dst := some 31, op := AOp.app 1 16 (Opd.t 27) (Opd.t 30), grd := none }, { dst := some 6, op := AOp.mv (Opd.t 31), grd := none }]
def c20_29 : ACode := .cond (.t 26) c20_30 c20_31
def c20_28 : ACode := .reg [{ dst := some 22, op := AOp.mv (Opd.t 0), grd := none }, { dst := some 23, op := AOp.fadr 0 (Opd.t 8), grd := none }, { dst := some 24, op := AOp.load false 1 (Opd.t 23), grd := none }, { dst := some 25, op := AOp.mv (Opd.t 1), grd := none }, { dst := some 26, op := AOp.call (Opd.c (AV.fn (AFn.func 14) [] [])) [Opd.t 22, Opd.t 24, Opd.t 25], grd := none }]
def c20_27 : ACode := .seq c20_28 c20_29
def c20_26 : ACode := .reg [{ dst := some 20, op := AOp.iadr 3 (Opd.t 16) (Opd.t 18), grd := none }, { dst := some 21, op := AOp.load true 3 (Opd.t 20), grd := none }, { dst := some 8, op := AOp.alloc [AV.str [], AV.str [], AV.nilSlc], grd := none }, { dst := none, op := AOp.store 3 (Opd.t 8) (Opd.t 21), grd := none }]
def c20_25 : ACode := .seq c20_26 c20_27
def c20_24 : ACode := .block 1 c20_25
def c20_23 : ACode := .seq c20_24 c20_32
def c20_22 : ACode := .exit 0
def c20_21 : ACode := .skip
def c20_20 : ACode := .cond (.t 19) c20_21 c20_22
def c20_19 : ACode := .seq c20_20 c20_23
def c20_18 : ACode := .reg [{ dst := some 19, op := AOp.bin (BinOp.lss) (Opd.t 18) (Opd.t 17), grd := none }]
def c20_17 : ACode := .seq c20_18 c20_19
def c20_16 : ACode := .loop c20_17
def c20_15 : ACode := .block 0 c20_16
def c20_14 : ACode := .reg [{ dst := some 13, op := AOp.mv (Opd.t 0), grd := none }, { dst := some 14, op := AOp.nilck (Opd.t 13), grd := none }, { dst := some 15, op := AOp.fadr 0 (Opd.t 14), grd := none }, { dst := some 16, op := AOp.load false 1 (Opd.t 15), grd := none }, { dst := some 17, op := AOp.len 1 (Opd.t 16), grd := none }, { dst := some 18, op := AOp.mv (Opd.c (AV.int (IntKind.i64) 0)), grd := none }]
def c20_13 : ACode := .seq c20_14 c20_15
def c20_12 : ACode := .seq c20_13 c20_33
def c20_11 : ACode := .reg [{ dst := some 6, op := AOp.mv (Opd.c (AV.nilSlc)), grd := none }]
def c20_10 : ACode := .seq c20_11 c20_12
def c20_9 : ACode := .skip
def c20_8 : ACode := .ret
def c20_7 : ACode := .reg [{ dst := some 4, op := AOp.mv (Opd.c (AV.nilSlc)), grd := none }, { dst := some 5, op := AOp.mv (Opd.c (AV.int (IntKind.i64) 10)), grd := none }]
def c20_6 : ACode := .seq c20_7 c20_8
def c20_5 : ACode := .cond (.t 12) c20_6 c20_9
def c20_4 : ACode := .reg [{ dst := some 9, op := AOp.mv (Opd.t 0), grd := none }, { dst := some 10, op := AOp.mv (Opd.t 1), grd := none }, { dst := some 11, op := AOp.call (Opd.c (AV.fn (AFn.func 19) [] [])) [Opd.t 9, Opd.t 10], grd := none }, { dst := some 12, op := AOp.not (Opd.t 11), grd := none }]
def c20_3 : ACode := .seq c20_4 c20_5
def c20_2 : ACode := .seq c20_3 c20_10
def c20_1 : ACode := .reg [{ dst := some 4, op := AOp.mv (Opd.c (AV.nilSlc)), grd := none }, { dst := some 5, op := AOp.mv (Opd.c (AV.int (IntKind.i64) 0)), grd := none }]
def c20_0 : ACode := .seq c20_1 c20_2
def A20 : AFun := { np := 2, res := [(4, none), (5, none)], body := c20_0 }

def c21_33 : ACode := .ret
def c21_32 : ACode := .reg [{ dst := some 4, op := AOp.mv (Opd.c (AV.bool true)), grd := none }]
def c21_31 : ACode := .seq c21_32 c21_33
def c21_30 : ACode := .reg [{ dst := some 15, op := AOp.mv (Opd.t 5), grd := none }, { dst := some 16, op := AOp.bin (BinOp.add) (Opd.t 15) (Opd.c (AV.int (IntKind.i64) 1)), grd := none }, { dst := some 5, op := AOp.mv (Opd.t 16), grd := none }]
def c21_29 : ACode := .skip
def c21_28 : ACode := .ret
def c21_27 : ACode := .reg [{ dst := some 4, op := AOp.mv (Opd.c (AV.bool false)), grd := none }]
def c21_26 : ACode := .seq c21_27 c21_28
def c21_25 : ACode := .cond (.t 25) c21_26 c21_29
def c21_24 : ACode := .dreg [{ dst := some 17, op := AOp.mv (Opd.t 0), grd := none }, { dst := some 18, op := AOp.mv (Opd.t 5), grd := none }, { dst := some 19, op := AOp.iadr 1 (Opd.t 17) (Opd.t 18), grd := none }, { dst := some 20, op := AOp.load false 1 (Opd.t 19), grd := none }, { dst := some 21, op := AOp.mv (Opd.t 1), grd := none }, { dst := some 22, op := AOp.mv (Opd.t 5), grd := none }, { dst := some 23, op := AOp.iadr 1 (Opd.t 21) (Opd.t 22), grd := none }, { dst := some 24, op := AOp.load false 1 (Opd.t 23), grd := none }, { dst := some 25, op := AOp.bin (BinOp.neq) (Opd.t 20) (Opd.t 24), grd := none }] []
def c21_23 : ACode := .seq c21_24 c21_25
def c21_22 : ACode := .block 1 c21_23
def c21_21 : ACode := .seq c21_22 c21_30
def c21_20 : ACode := .exit 0
def c21_19 : ACode := .skip
def c21_18 : ACode := .cond (.t 14) c21_19 c21_20
def c21_17 : ACode := .reg [{ dst := some 11, op := AOp.mv (Opd.t 5), grd := none }, { dst := some 12, op := AOp.mv (Opd.t 0), grd := none }, { dst := some 13, op := AOp.len 1 (Opd.t 12), grd := none }, { dst := some 14, op := AOp.bin (BinOp.lss) (Opd.t 11) (Opd.t 13), grd := none }]
def c21_16 : ACode := .seq c21_17 c21_18
def c21_15 : ACode := .seq c21_16 c21_21
def c21_14 : ACode := .loop c21_15
def c21_13 : ACode := .block 0 c21_14
def c21_12 : ACode := .reg [{ dst := some 5, op := AOp.mv (Opd.c (AV.int (IntKind.i64) 0)), grd := none }]
def c21_11 : ACode := .seq c21_12 c21_13
def c21_10 : ACode := .seq c21_11 c21_31
def c21_9 : ACode := .skip
def c21_8 : ACode := .ret
def c21_7 : ACode := .reg [{ dst := some 4, op := AOp.mv (Opd.c (AV.bool false)), grd := none }]
def c21_6 : ACode := .seq c21_7 c21_8
def c21_5 : ACode := .cond (.t 10) c21_6 c21_9
def c21_4 : ACode := .reg [{ dst := some 6, op := AOp.mv (Opd.t 0), grd := none }, { dst := some 7, op := AOp.len 1 (Opd.t 6), grd := none }, { dst := some 8, op := AOp.mv (Opd.t 1), grd := none }, { dst := some 9, op := AOp.len 1 (Opd.t 8), grd := none }, { dst := some 10, op := AOp.bin (BinOp.neq) (Opd.t 7) (Opd.t 9), grd := none }]
def c21_3 : ACode := .seq c21_4 c21_5
def c21_2 : ACode := .seq c21_3 c21_10
def c21_1 : ACode := .reg [{ dst := some 4, op := AOp.mv (Opd.c (AV.bool false)), grd := none }]
def c21_0 : ACode := .seq c21_1 c21_2
def A21 : AFun := { np := 2, res := [(4, none)], body := c21_0 }

def c22_25 : ACode := .ret
def c22_24 : ACode := .reg [{ dst := some 4, op := AOp.mv (Opd.c (AV.int (IntKind.i64) (-1))), grd := none }]
def c22_23 : ACode := .seq c22_24 c22_25
def c22_22 : ACode := .reg [{ dst := some 10, op := AOp.mv (Opd.t 5), grd := none }, { dst := some 11, op := AOp.bin (BinOp.add) (Opd.t 10) (Opd.c (AV.int (IntKind.i64) 1)), grd := none }, { dst := some 5, op := AOp.mv (Opd.t 11), grd := none }]
def c22_21 : ACode := .skip
def c22_20 : ACode := .ret
def c22_19 : ACode := .reg [{ dst := some 18, op := AOp.mv (Opd.t 5), grd := none }, { dst := some 4, op := AOp.mv (Opd.t 18), grd := none }]
def c22_18 : ACode := .seq c22_19 c22_20
def c22_17 : ACode := .cond (.t 17) c22_18 c22_21
def c22_16 : ACode := .reg [{ dst := some 12, op := AOp.mv (Opd.t 0), grd := none }, { dst := some 13, op := AOp.mv (Opd.t 5), grd := none }, { dst := some 14, op := AOp.iadr 1 (Opd.t 12) (Opd.t 13), grd := none }, { dst := some 15, op := AOp.load false 1 (Opd.t 14), grd := none }, { dst := some 16, op := AOp.mv (Opd.t 1), grd := none }, { dst := some 17, op := AOp.bin (BinOp.eql) (Opd.t 15) (Opd.t 16), grd := none }]
def c22_15 : ACode := .seq c22_16 c22_17
def c22_14 : ACode := .block 1 c22_15
def c22_13 : ACode := .seq c22_14 c22_22
def c22_12 : ACode := .exit 0
def c22_11 : ACode := .skip
def c22_10 : ACode := .cond (.t 9) c22_11 c22_12
def c22_9 : ACode := .reg [{ dst := some 6, op := AOp.mv (Opd.t 5), grd := none }, { dst := some 7, op := AOp.mv (Opd.t 0), grd := none }, { dst := some 8, op := AOp.len 1 (Opd.t 7), grd := none }, { dst := some 9, op := AOp.bin (BinOp.lss) (Opd.t 6) (Opd.t 8), grd := none }]
def c22_8 : ACode := .seq c22_9 c22_10
def c22_7 : ACode := .seq c22_8 c22_13
def c22_6 : ACode := .loop c22_7
def c22_5 : ACode := .block 0 c22_6
def c22_4 : ACode := .reg [{ dst := some 5, op := AOp.mv (Opd.c (AV.int (IntKind.i64) 0)), grd := none }]
def c22_3 : ACode := .seq c22_4 c22_5
def c22_2 : ACode := .seq c22_3 c22_23
def c22_1 : ACode := .reg [{ dst := some 4, op := AOp.mv (Opd.c (AV.int (IntKind.i64) 0)), grd := none }]
def c22_0 : ACode := .seq c22_1 c22_2
def A22 : AFun := { np := 2, res := [(4, none)], body := c22_0 }

def c24_4 : ACode := .ret
def c24_3 : ACode := .reg [{ dst := some 3, op := AOp.mv (Opd.t 0), grd := none }, { dst := some 4, op := AOp.call (Opd.c (AV.fn (AFn.func 40) [] [])) [Opd.t 3, Opd.c (AV.int (IntKind.i64) 0)], grd := none }, { dst := some 2, op := AOp.mv (Opd.t 4), grd := none }]
def c24_2 : ACode := .seq c24_3 c24_4
def c24_1 : ACode := .reg [{ dst := some 2, op := AOp.mv (Opd.c (AV.int (IntKind.i64) 0)), grd := none }]
def c24_0 : ACode := .seq c24_1 c24_2
def A24 : AFun := { np := 1, res := [(2, none)], body := c24_0 }

def c25_14 : ACode := .ret
def c25_13 : ACode := .reg [{ dst := some 12, op := AOp.fadr 3 (Opd.t 1), grd := none }, { dst := some 13, op := AOp.load false 1 (Opd.t 12), grd := none }, { dst := some 14, op := AOp.mv (Opd.t 5), grd := none }, { dst := some 15, op := AOp.iadr 6 (Opd.t 13) (Opd.t 14), grd := none }, { dst := some 16, op := AOp.fadr 1 (Opd.t 15), grd := none }, { dst := some 17, op := AOp.load false 1 (Opd.t 16), grd := none }, { dst := some 3, op := AOp.mv (Opd.t 17), grd := none }, { dst := some 4, op := AOp.mv (Opd.c (AV.bool true)), grd := none }]
def c25_12 : ACode := .seq c25_13 c25_14
def c25_11 : ACode := .skip
def c25_10 : ACode := .ret
def c25_9 : ACode := .reg [{ dst := some 3, op := AOp.mv (Opd.c (AV.str [])), grd := none }, { dst := some 4, op := AOp.mv (Opd.c (AV.bool false)), grd := none }]
def c25_8 : ACode := .seq c25_9 c25_10
def c25_7 : ACode := .cond (.t 11) c25_8 c25_11
def c25_6 : ACode := .reg [{ dst := some 10, op := AOp.mv (Opd.t 5), grd := none }, { dst := some 11, op := AOp.bin (BinOp.lss) (Opd.t 10) (Opd.c (AV.int (IntKind.i64) 0)), grd := none }]
def c25_5 : ACode := .seq c25_6 c25_7
def c25_4 : ACode := .seq c25_5 c25_12
def c25_3 : ACode := .reg [{ dst := some 6, op := AOp.fadr 3 (Opd.t 1), grd := none }, { dst := some 7, op := AOp.load false 1 (Opd.t 6), grd := none }, { dst := some 8, op := AOp.mv (Opd.t 0), grd := none }, { dst := some 9, op := AOp.call (Opd.c (AV.fn (AFn.func 26) [] [])) [Opd.t 7, Opd.t 8], grd := none }, { dst := some 5, op := AOp.mv (Opd.t 9), grd := none }]
def c25_2 : ACode := .seq c25_3 c25_4
def c25_1 : ACode := .reg [{ dst := some 3, op := AOp.mv (Opd.c (AV.str [])), grd := none }, { dst := some 4, op := AOp.mv (Opd.c (AV.bool false)), grd := none }]
def c25_0 : ACode := .seq c25_1 c25_2
def A25 : AFun := { np := 2, res := [(3, none), (4, none)], body := c25_0 }

def c26_25 : ACode := .ret
def c26_24 : ACode := .reg [{ dst := some 4, op := AOp.mv (Opd.c (AV.int (IntKind.i64) (-1))), grd := none }]
def c26_23 : ACode := .seq c26_24 c26_25
def c26_22 : ACode := .reg [{ dst := some 10, op := AOp.mv (Opd.t 5), grd := none }, { dst := some 11, op := AOp.bin (BinOp.add) (Opd.t 10) (Opd.c (AV.int (IntKind.i64) 1)), grd := none }, { dst := some 5, op := AOp.mv (Opd.t 11), grd := none }]
def c26_21 : ACode := .skip
def c26_20 : ACode := .ret
def c26_19 : ACode := .reg [{ dst := some 19, op := AOp.mv (Opd.t 5), grd := none }, { dst := some 4, op := AOp.mv (Opd.t 19), grd := none }]
def c26_18 : ACode := .seq c26_19 c26_20
def c26_17 : ACode := .cond (.t 18) c26_18 c26_21
def c26_16 : ACode := .reg [{ dst := some 12, op := AOp.mv (Opd.t 0), grd := none }, { dst := some 13, op := AOp.mv (Opd.t 5), grd := none }, { dst := some 14, op := AOp.iadr 6 (Opd.t 12) (Opd.t 13), grd := none }, { dst := some 15, op := AOp.fadr 0 (Opd.t 14), grd := none }, { dst := some 16, op := AOp.load false 1 (Opd.t 15), grd := none }, { dst := some 17, op := AOp.mv (Opd.t 1), grd := none }, { dst := some 18, op := AOp.bin (BinOp.eql) (Opd.t 16) (Opd.t 17), grd := none }]
def c26_15 : ACode := .seq c26_16 c26_17
def c26_14 : ACode := .block 1 c26_15
def c26_13 : ACode := .seq c26_14 c26_22
def c26_12 : ACode := .exit 0
def c26_11 : ACode := .skip
def c26_10 : ACode := .cond (.t 9) c26_11 c26_12
def c26_9 : ACode := .reg [{ dst := some 6, op := AOp.mv (Opd.t 5), grd := none }, { dst := some 7, op := AOp.mv (Opd.t 0), grd := none }, { dst := some 8, op := AOp.len 1 (Opd.t 7), grd := none }, { dst := some 9, op := AOp.bin (BinOp.lss) (Opd.t 6) (Opd.t 8), grd := none }]
def c26_8 : ACode := .seq c26_9 c26_10
def c26_7 : ACode := .seq c26_8 c26_13
def c26_6 : ACode := .loop c26_7
def c26_5 : ACode := .block 0 c26_6
def c26_4 : ACode := .reg [{ dst := some 5, op := AOp.mv (Opd.c (AV.int (IntKind.i64) 0)), grd := none }]
def c26_3 : ACode := .seq c26_4 c26_5
def c26_2 : ACode := .seq c26_3 c26_23
def c26_1 : ACode := .reg [{ dst := some 4, op := AOp.mv (Opd.c (AV.int (IntKind.i64) 0)), grd := none }]
def c26_0 : ACode := .seq c26_1 c26_2
def A26 : AFun := { np := 2, res := [(4, none)], body := c26_0 }

def c27_71 : ACode := .ret
def c27_70 : ACode := .reg [{ dst := some 8, op := AOp.mv (Opd.c (AV.bool false)), grd := none }]
def c27_69 : ACode := .seq c27_70 c27_71
def c27_68 : ACode := .skip
def c27_67 : ACode := .ret
def c27_66 : ACode := .reg [{ dst := some 57, op := AOp.mv (Opd.t 10), grd := none }, { dst := some 58, op := AOp.mv (Opd.t 57), grd := none }, { dst := some 59, op := AOp.mv (Opd.t 0), grd := some (58, true) }, { dst := some 60, op := AOp.mv (Opd.t 9), grd := some (58, true) }, { dst := some 61, op := AOp.fadr 2 (Opd.t 5), grd := some (58, true) }, { dst := some 62, op := AOp.load false 1 (Opd.t 61), grd := some (58, true) }, { dst := some 63, op := AOp.call (Opd.c (AV.fn (AFn.func 14) [] [])) [Opd.t 59, Opd.t 60, Opd.t 62], grd := some (58, true) }, { dst := some 64, op := AOp.pick (Opd.t 58) (Opd.t 63) (Opd.c (AV.bool false)), grd := none }, { dst := some 8, op := AOp.mv (Opd.t 64), grd := none }]
def c27_65 : ACode := .seq c27_66 c27_67
def c27_64 : ACode := .reg [{ dst := some 51, op := AOp.mv (Opd.t 3), grd := none }, { dst := some 52, op := AOp.fadr 2 (Opd.t 6), grd := none }, { dst := some 53, op := AOp.load false 1 (Opd.t 52), grd := none }, { dst := some 54, op := AOp.call (Opd.t 51) [Opd.t 53], grd := none }, { dst := some 50, op := AOp.mv (Opd.t 54), grd := none }, { dst := some 55, op := AOp.ext (Opd.t 50) 0, grd := none }, { dst := some 56, op := AOp.ext (Opd.t 50) 1, grd := none }, { dst := some 9, op := AOp.mv (Opd.t 55), grd := none }, { dst := some 10, op := AOp.mv (Opd.t 56), grd := none }]
def c27_63 : ACode := .seq c27_64 c27_65
def c27_62 : ACode := .skip
def c27_61 : ACode := .ret
def c27_60 : ACode := .reg [{ dst := some 8, op := AOp.mv (Opd.c (AV.bool false)), grd := none }]
def c27_59 : ACode := .seq c27_60 c27_61
def c27_58 : ACode := .cond (.t 49) c27_59 c27_62
def c27_57 : ACode := .reg [{ dst := some 43, op := AOp.fadr 0 (Opd.t 6), grd := none }, { dst := some 44, op := AOp.load false 1 (Opd.t 43), grd := none }, { dst := some 45, op := AOp.bin (BinOp.neq) (Opd.t 44) (Opd.c (AV.int (IntKind.i64) 5)), grd := none }, { dst := some 46, op := AOp.mv (Opd.t 45), grd := none }, { dst := some 47, op := AOp.mv (Opd.t 3), grd := some (46, false) }, { dst := some 48, op := AOp.eq false (EqK.fn) (Opd.t 47) (Opd.c (AV.nilFn)), grd := some (46, false) }, { dst := some 49, op := AOp.pick (Opd.t 46) (Opd.c (AV.bool true)) (Opd.t 48), grd := none }]
def c27_56 : ACode := .seq c27_57 c27_58
def c27_55 : ACode := .seq c27_56 c27_63
def c27_54 : ACode := .cond (.t 41) c27_55 c27_68
def c27_53 : ACode := .reg [{ dst := some 42, op := AOp.bin (BinOp.eql) (Opd.t 18) (Opd.c (AV.int (IntKind.i64) 5)), grd := none }, { dst := some 41, op := AOp.mv (Opd.t 42), grd := none }]
def c27_52 : ACode := .seq c27_53 c27_54
def c27_51 : ACode := .ret
def c27_50 : ACode := .reg [{ dst := some 38, op := AOp.fadr 0 (Opd.t 6), grd := none }, { dst := some 39, op := AOp.load false 1 (Opd.t 38), grd := none }, { dst := some 40, op := AOp.bin (BinOp.eql) (Opd.t 39) (Opd.c (AV.int (IntKind.i64) 4)), grd := none }, { dst := some 8, op := AOp.mv (Opd.t 40), grd := none }]
def c27_49 : ACode := .seq c27_50 c27_51
def c27_48 : ACode := .cond (.t 36) c27_49 c27_52
def c27_47 : ACode := .reg [{ dst := some 37, op := AOp.bin (BinOp.eql) (Opd.t 18) (Opd.c (AV.int (IntKind.i64) 4)), grd := none }, { dst := some 36, op := AOp.mv (Opd.t 37), grd := none }]
def c27_46 : ACode := .seq c27_47 c27_48
def c27_45 : ACode := .ret
def c27_44 : ACode := .reg [{ dst := some 33, op := AOp.fadr 0 (Opd.t 6), grd := none }, { dst := some 34, op := AOp.load false 1 (Opd.t 33), grd := none }, { dst := some 35, op := AOp.bin (BinOp.eql) (Opd.t 34) (Opd.c (AV.int (IntKind.i64) 3)), grd := none }, { dst := some 8, op := AOp.mv (Opd.t 35), grd := none }]
def c27_43 : ACode := .seq c27_44 c27_45
def c27_42 : ACode := .cond (.t 31) c27_43 c27_46
def c27_41 : ACode := .reg [{ dst := some 32, op := AOp.bin (BinOp.eql) (Opd.t 18) (Opd.c (AV.int (IntKind.i64) 3)), grd := none }, { dst := some 31, op := AOp.mv (Opd.t 32), grd := none }]
def c27_40 : ACode := .seq c27_41 c27_42
def c27_39 : ACode := .ret
def c27_38 : ACode := .reg [{ dst := some 28, op := AOp.fadr 0 (Opd.t 6), grd := none }, { dst := some 29, op := AOp.load false 1 (Opd.t 28), grd := none }, { dst := some 30, op := AOp.bin (BinOp.eql) (Opd.t 29) (Opd.c (AV.int (IntKind.i64) 2)), grd := none }, { dst := some 8, op := AOp.mv (Opd.t 30), grd := none }]
def c27_37 : ACode := .seq c27_38 c27_39
def c27_36 : ACode := .cond (.t 26) c27_37 c27_40
def c27_35 : ACode := .reg [{ dst := some 27, op := AOp.bin (BinOp.eql) (Opd.t 18) (Opd.c (AV.int (IntKind.i64) 2)), grd := none }, { dst := some 26, op := AOp.mv (Opd.t 27), grd := none }]
def c27_34 : ACode := .seq c27_35 c27_36
def c27_33 : ACode := .ret
def c27_32 : ACode := .reg [{ dst := some 23, op := AOp.fadr 0 (Opd.t 6), grd := none }, { dst := some 24, op := AOp.load false 1 (Opd.t 23), grd := none }, { dst := some 25, op := AOp.bin (BinOp.eql) (Opd.t 24) (Opd.c (AV.int (IntKind.i64) 1)), grd := none }, { dst := some 8, op := AOp.mv (Opd.t 25), grd := none }]
def c27_31 : ACode := .seq c27_32 c27_33
def c27_30 : ACode := .cond (.t 21) c27_31 c27_34
def c27_29 : ACode := .reg [{ dst := some 22, op := AOp.bin (BinOp.eql) (Opd.t 18) (Opd.c (AV.int (IntKind.i64) 1)), grd := none }, { dst := some 21, op := AOp.mv (Opd.t 22), grd := none }]
def c27_28 : ACode := .seq c27_29 c27_30
def c27_27 : ACode := .ret
def c27_26 : ACode := .reg [{ dst := some 8, op := AOp.mv (Opd.c (AV.bool true)), grd := none }]
def c27_25 : ACode := .seq c27_26 c27_27
def c27_24 : ACode := .cond (.t 19) c27_25 c27_28
def c27_23 : ACode := .reg [{ dst := some 20, op := AOp.bin (BinOp.eql) (Opd.t 18) (Opd.c (AV.int (IntKind.i64) 0)), grd := none }, { dst := some 19, op := AOp.mv (Opd.t 20), grd := none }]
def c27_22 : ACode := .seq c27_23 c27_24
def c27_21 : ACode := .block 0 c27_22
def c27_20 : ACode := .reg [{ dst := some 17, op := AOp.fadr 1 (Opd.t 5), grd := none }, { dst := some 18, op := AOp.load false 1 (Opd.t 17), grd := none }]
def c27_19 : ACode := .seq c27_20 c27_21
def c27_18 : ACode := .seq c27_19 c27_69
def c27_17 : ACode := .skip
def c27_16 : ACode := .ret
def c27_15 : ACode := .reg [{ dst := some 8, op := AOp.mv (Opd.c (AV.bool true)), grd := none }]
def c27_14 : ACode := .seq c27_15 c27_16
def c27_13 : ACode := .cond (.t 16) c27_14 c27_17
def c27_12 : ACode := .reg [{ dst := some 14, op := AOp.fadr 0 (Opd.t 6), grd := none }, { dst := some 15, op := AOp.load false 1 (Opd.t 14), grd := none }, { dst := some 16, op := AOp.bin (BinOp.eql) (Opd.t 15) (Opd.c (AV.int (IntKind.i64) 0)), grd := none }]
def c27_11 : ACode := .seq c27_12 c27_13
def c27_10 : ACode := .seq c27_11 c27_18
def c27_9 : ACode := .skip
def c27_8 : ACode := .ret
def c27_7 : ACode := .reg [{ dst := some 8, op := AOp.mv (Opd.c (AV.bool false)), grd := none }]
def c27_6 : ACode := .seq c27_7 c27_8
def c27_5 : ACode := .cond (.t 13) c27_6 c27_9
def c27_4 : ACode := .reg [{ dst := some 11, op := AOp.load true 5 (Opd.t 6), grd := none }, { dst := some 12, op := AOp.call (Opd.c (AV.fn (AFn.func 41) [] [])) [Opd.t 11], grd := none }, { dst := some 13, op := AOp.not (Opd.t 12), grd := none }]
def c27_3 : ACode := .seq c27_4 c27_5
def c27_2 : ACode := .seq c27_3 c27_10
def c27_1 : ACode := .reg [{ dst := some 5, op := AOp.box 3 (Opd.t 1), grd := none }, { dst := some 6, op := AOp.box 5 (Opd.t 2), grd := none }, { dst := some 8, op := AOp.mv (Opd.c (AV.bool false)), grd := none }]
def c27_0 : ACode := .seq c27_1 c27_2
def A27 : AFun := { np := 4, res := [(8, none)], body := c27_0 }

def c28_63 : ACode := .ret
def c28_62 : ACode := .reg [{ dst := some 8, op := AOp.mv (Opd.c (AV.bool false)), grd := none }]
def c28_61 : ACode := .seq c28_62 c28_63
def c28_60 : ACode := .skip
def c28_59 : ACode := .ret
set_option maxRecDepth 100000 in
def c28_58 : ACode := .dreg [{ dst := some 46, op := AOp.fadr 0 (Opd.t 6), grd := none }, { dst := some 47, op := AOp.load false 1 (Opd.t 46), grd := none }, { dst := some 48, op := AOp.bin (BinOp.eql) (Opd.t 47) (Opd.c (AV.int (IntKind.i64) 5)), grd := none }, { dst := some 49, op := AOp.mv (Opd.t 48), grd := none }, { dst := some 50, op := AOp.mv (Opd.t 9), grd := some (49, true) }, { dst := some 51, op := AOp.bin (BinOp.geq) (Opd.t 50) (Opd.c (AV.int (IntKind.i64) 0)), grd := some (49, true) }, { dst := some 52, op := AOp.pick (Opd.t 49) (Opd.t 51) (Opd.c (AV.bool false)), grd := none }, { dst := some 53, op := AOp.mv (Opd.t 52), grd := none }, { dst := some 54, op := AOp.mv (Opd.t 0), grd := some (53, true) }, { dst := some 55, op := AOp.mv (Opd.t 3), grd := some (53, true) }, { dst := some 56, op := AOp.mv (Opd.t 9), grd := some (53, true) }, { dst := some 57, op := AOp.iadr 6 (Opd.t 55) (Opd.t 56), grd := some (53, true) }, { dst := some 58, op := AOp.fadr 1 (Opd.t 57), grd := some (53, true) }, { dst := some 59, op := AOp.load false 1 (Opd.t 58), grd := some (53, true) }, { dst := some 60, op := AOp.fadr 2 (Opd.t 5), grd := some (53, true) }, { dst := some 61, op := AOp.load false 1 (Opd.t 60), grd := some (53, true) }] [({ dst := some 62, op := AOp.call (Opd.c (AV.fn (AFn.func 15) [] [])) [Opd.t 54, Opd.t 59, Opd.t 61], grd := some (53, true) }, [], [{ dst := some 63, op := AOp.pick (Opd.t 53) (Opd.t 62) (Opd.c (AV.bool false)), grd := none }, { dst := some 8, op := AOp.mv (Opd.t 63), grd := none }])]
def c28_57 : ACode := .seq c28_58 c28_59
def c28_56 : ACode := .reg [{ dst := some 42, op := AOp.mv (Opd.t 3), grd := none }, { dst := some 43, op := AOp.fadr 2 (Opd.t 6), grd := none }, { dst := some 44, op := AOp.load false 1 (Opd.t 43), grd := none }, { dst := some 45, op := AOp.call (Opd.c (AV.fn (AFn.func 26) [] [])) [Opd.t 42, Opd.t 44], grd := none }, { dst := some 9, op := AOp.mv (Opd.t 45), grd := none }]
def c28_55 : ACode := .seq c28_56 c28_57
def c28_54 : ACode := .cond (.t 40) c28_55 c28_60
def c28_53 : ACode := .reg [{ dst := some 41, op := AOp.bin (BinOp.eql) (Opd.t 17) (Opd.c (AV.int (IntKind.i64) 5)), grd := none }, { dst := some 40, op := AOp.mv (Opd.t 41), grd := none }]
def c28_52 : ACode := .seq c28_53 c28_54
def c28_51 : ACode := .ret
def c28_50 : ACode := .reg [{ dst := some 37, op := AOp.fadr 0 (Opd.t 6), grd := none }, { dst := some 38, op := AOp.load false 1 (Opd.t 37), grd := none }, { dst := some 39, op := AOp.bin (BinOp.eql) (Opd.t 38) (Opd.c (AV.int (IntKind.i64) 4)), grd := none }, { dst := some 8, op := AOp.mv (Opd.t 39), grd := none }]
def c28_49 : ACode := .seq c28_50 c28_51
def c28_48 : ACode := .cond (.t 35) c28_49 c28_52
def c28_47 : ACode := .reg [{ dst := some 36, op := AOp.bin (BinOp.eql) (Opd.t 17) (Opd.c (AV.int (IntKind.i64) 4)), grd := none }, { dst := some 35, op := AOp.mv (Opd.t 36), grd := none }]
def c28_46 : ACode := .seq c28_47 c28_48
def c28_45 : ACode := .ret
def c28_44 : ACode := .reg [{ dst := some 32, op := AOp.fadr 0 (Opd.t 6), grd := none }, { dst := some 33, op := AOp.load false 1 (Opd.t 32), grd := none }, { dst := some 34, op := AOp.bin (BinOp.eql) (Opd.t 33) (Opd.c (AV.int (IntKind.i64) 3)), grd := none }, { dst := some 8, op := AOp.mv (Opd.t 34), grd := none }]
def c28_43 : ACode := .seq c28_44 c28_45
def c28_42 : ACode := .cond (.t 30) c28_43 c28_46
def c28_41 : ACode := .reg [{ dst := some 31, op := AOp.bin (BinOp.eql) (Opd.t 17) (Opd.c (AV.int (IntKind.i64) 3)), grd := none }, { dst := some 30, op := AOp.mv (Opd.t 31), grd := none }]
def c28_40 : ACode := .seq c28_41 c28_42
def c28_39 : ACode := .ret
def c28_38 : ACode := .reg [{ dst := some 27, op := AOp.fadr 0 (Opd.t 6), grd := none }, { dst := some 28, op := AOp.load false 1 (Opd.t 27), grd := none }, { dst := some 29, op := AOp.bin (BinOp.eql) (Opd.t 28) (Opd.c (AV.int (IntKind.i64) 2)), grd := none }, { dst := some 8, op := AOp.mv (Opd.t 29), grd := none }]
def c28_37 : ACode := .seq c28_38 c28_39
def c28_36 : ACode := .cond (.t 25) c28_37 c28_40
def c28_35 : ACode := .reg [{ dst := some 26, op := AOp.bin (BinOp.eql) (Opd.t 17) (Opd.c (AV.int (IntKind.i64) 2)), grd := none }, { dst := some 25, op := AOp.mv (Opd.t 26), grd := none }]
def c28_34 : ACode := .seq c28_35 c28_36
def c28_33 : ACode := .ret
def c28_32 : ACode := .reg [{ dst := some 22, op := AOp.fadr 0 (Opd.t 6), grd := none }, { dst := some 23, op := AOp.load false 1 (Opd.t 22), grd := none }, { dst := some 24, op := AOp.bin (BinOp.eql) (Opd.t 23) (Opd.c (AV.int (IntKind.i64) 1)), grd := none }, { dst := some 8, op := AOp.mv (Opd.t 24), grd := none }]
def c28_31 : ACode := .seq c28_32 c28_33
def c28_30 : ACode := .cond (.t 20) c28_31 c28_34
def c28_29 : ACode := .reg [{ dst := some 21, op := AOp.bin (BinOp.eql) (Opd.t 17) (Opd.c (AV.int (IntKind.i64) 1)), grd := none }, { dst := some 20, op := AOp.mv (Opd.t 21), grd := none }]
def c28_28 : ACode := .seq c28_29 c28_30
def c28_27 : ACode := .ret
def c28_26 : ACode := .reg [{ dst := some 8, op := AOp.mv (Opd.c (AV.bool true)), grd := none }]
def c28_25 : ACode := .seq c28_26 c28_27
def c28_24 : ACode := .cond (.t 18) c28_25 c28_28
def c28_23 : ACode := .reg [{ dst := some 19, op := AOp.bin (BinOp.eql) (Opd.t 17) (Opd.c (AV.int (IntKind.i64) 0)), grd := none }, { dst := some 18, op := AOp.mv (Opd.t 19), grd := none }]
def c28_22 : ACode := .seq c28_23 c28_24
def c28_21 : ACode := .block 0 c28_22
def c28_20 : ACode := .reg [{ dst := some 16, op := AOp.fadr 1 (Opd.t 5), grd := none }, { dst := some 17, op := AOp.load false 1 (Opd.t 16), grd := none }]
def c28_19 : ACode := .seq c28_20 c28_21
def c28_18 : ACode := .seq c28_19 c28_61
def c28_17 : ACode := .skip
def c28_16 : ACode := .ret
def c28_15 : ACode := .reg [{ dst := some 8, op := AOp.mv (Opd.c (AV.bool true)), grd := none }]
def c28_14 : ACode := .seq c28_15 c28_16
def c28_13 : ACode := .cond (.t 15) c28_14 c28_17
def c28_12 : ACode := .reg [{ dst := some 13, op := AOp.fadr 0 (Opd.t 6), grd := none }, { dst := some 14, op := AOp.load false 1 (Opd.t 13), grd := none }, { dst := some 15, op := AOp.bin (BinOp.eql) (Opd.t 14) (Opd.c (AV.int (IntKind.i64) 0)), grd := none }]
def c28_11 : ACode := .seq c28_12 c28_13
def c28_10 : ACode := .seq c28_11 c28_18
def c28_9 : ACode := .skip
def c28_8 : ACode := .ret
def c28_7 : ACode := .reg [{ dst := some 8, op := AOp.mv (Opd.c (AV.bool false)), grd := none }]
def c28_6 : ACode := .seq c28_7 c28_8
def c28_5 : ACode := .cond (.t 12) c28_6 c28_9
def c28_4 : ACode := .reg [{ dst := some 10, op := AOp.load true 5 (Opd.t 6), grd := none }, { dst := some 11, op := AOp.call (Opd.c (AV.fn (AFn.func 42) [] [])) [Opd.t 10], grd := none }, { dst := some 12, op := AOp.not (Opd.t 11), grd := none }]
def c28_3 : ACode := .seq c28_4 c28_5
def c28_2 : ACode := .seq c28_3 c28_10
def c28_1 : ACode := .reg [{ dst := some 5, op := AOp.box 3 (Opd.t 1), grd := none }, { dst := some 6, op := AOp.box 5 (Opd.t 2), grd := none }, { dst := some 8, op := AOp.mv (Opd.c (AV.bool false)), grd := none }]
def c28_0 : ACode := .seq c28_1 c28_2
def A28 : AFun := { np := 4, res := [(8, none)], body := c28_0 }

def c29_4 : ACode := .ret
def c29_3 : ACode := .reg [{ dst := some 1, op := AOp.build [AV.str [], AV.int (IntKind.i64) 0, AV.str []] [(0, 1, Opd.c (AV.str [120])), (1, 1, Opd.c (AV.int (IntKind.i64) 2))], grd := none }, { dst := some 2, op := AOp.bslice 1 3 [AV.str [], AV.int (IntKind.i64) 0, AV.str []] [(0, Opd.t 1)], grd := none }, { dst := some 3, op := AOp.build [AV.str [], AV.str [], AV.nilSlc] [(0, 1, Opd.c (AV.str [65])), (2, 1, Opd.t 2)], grd := none }, { dst := some 4, op := AOp.build [AV.str [], AV.int (IntKind.i64) 0, AV.str []] [(0, 1, Opd.c (AV.str [121])), (1, 1, Opd.c (AV.int (IntKind.i64) 3))], grd := none }, { dst := some 5, op := AOp.bslice 1 3 [AV.str [], AV.int (IntKind.i64) 0, AV.str []] [(0, Opd.t 4)], grd := none }, { dst := some 6, op := AOp.build [AV.str [], AV.str [], AV.nilSlc] [(0, 1, Opd.c (AV.str [66])), (1, 1, Opd.c (AV.str [65])), (2, 1, Opd.t 5)], grd := none }, { dst := some 7, op := AOp.bslice 2 3 [AV.str [], AV.str [], AV.nilSlc] [(0, Opd.t 3), (1, Opd.t 6)], grd := none }, { dst := some 0, op := AOp.mv (Opd.t 7), grd := none }]
def c29_2 : ACode := .seq c29_3 c29_4
def c29_1 : ACode := .reg [{ dst := some 0, op := AOp.mv (Opd.c (AV.nilSlc)), grd := none }]
def c29_0 : ACode := .seq c29_1 c29_2
def A29 : AFun := { np := 0, res := [(0, none)], body := c29_0 }

def c30_84 : ACode := .ret
def c30_83 : ACode := .reg [{ dst := some 109, op := AOp.load false 1 (Opd.t 8), grd := none }, { dst := some 110, op := AOp.bin (BinOp.leq) (Opd.t 109) (Opd.c (AV.int (IntKind.i64) 62)), grd := none }, { dst := some 6, op := AOp.mv (Opd.t 110), grd := none }]
def c30_82 : ACode := .seq c30_83 c30_84
def c30_81 : ACode := .reg [{ dst := some 108, op := AOp.bin (BinOp.add) (Opd.t 60) (Opd.c (AV.int (IntKind.i64) 1)), grd := none }, { dst := some 60, op := AOp.mv (Opd.t 108), grd := none }]
def c30_80 : ACode := .reg [{ dst := some 106, op := AOp.load false 1 (Opd.t 8), grd := none }, { dst := some 107, op := AOp.bin (BinOp.add) (Opd.t 106) (Opd.c (AV.int (IntKind.i64) 1)), grd := none }, { dst := none, op := AOp.store 1 (Opd.t 8) (Opd.t 107), grd := none }]
def c30_79 : ACode := .skip
def c30_78 : ACode := .ret
def c30_77 : ACode := .reg [{ dst := some 6, op := AOp.mv (Opd.c (AV.bool false)), grd := none }]
def c30_76 : ACode := .seq c30_77 c30_78
def c30_75 : ACode := .cond (.t 105) c30_76 c30_79
def c30_74 : ACode := .reg [{ dst := some 101, op := AOp.load false 1 (Opd.t 7), grd := none }, { dst := some 102, op := AOp.fadr 0 (Opd.t 13), grd := none }, { dst := some 103, op := AOp.load false 1 (Opd.t 102), grd := none }, { dst := some 104, op := AOp.look (KK.leaf (K0.str)) false (AV.int (IntKind.i64) 0) (Opd.t 101) (Opd.t 103), grd := none }, { dst := some 105, op := AOp.bin (BinOp.gtr) (Opd.t 104) (Opd.c (AV.int (IntKind.i64) 1)), grd := none }]
def c30_73 : ACode := .seq c30_74 c30_75
def c30_72 : ACode := .reg [{ dst := some 96, op := AOp.load false 1 (Opd.t 7), grd := none }, { dst := some 97, op := AOp.fadr 0 (Opd.t 13), grd := none }, { dst := some 98, op := AOp.load false 1 (Opd.t 97), grd := none }, { dst := some 99, op := AOp.look (KK.leaf (K0.str)) false (AV.int (IntKind.i64) 0) (Opd.t 96) (Opd.t 98), grd := none }, { dst := some 100, op := AOp.bin (BinOp.add) (Opd.t 99) (Opd.c (AV.int (IntKind.i64) 1)), grd := none }, { dst := none, op := AOp.mupd (KK.leaf (K0.str)) (Opd.t 96) (Opd.t 98) (Opd.t 100), grd := none }]
def c30_71 : ACode := .seq c30_72 c30_73
def c30_70 : ACode := .seq c30_71 c30_80
def c30_69 : ACode := .skip
def c30_68 : ACode := .ret
def c30_67 : ACode := .reg [{ dst := some 6, op := AOp.mv (Opd.c (AV.bool false)), grd := none }]
def c30_66 : ACode := .seq c30_67 c30_68
def c30_65 : ACode := .cond (.t 95) c30_66 c30_69
def c30_64 : ACode := .reg [{ dst := some 87, op := AOp.fadr 1 (Opd.t 13), grd := none }, { dst := some 88, op := AOp.load false 1 (Opd.t 87), grd := none }, { dst := some 89, op := AOp.bin (BinOp.eql) (Opd.t 88) (Opd.c (AV.int (IntKind.i64) 5)), grd := none }, { dst := some 90, op := AOp.mv (Opd.t 89), grd := none }, { dst := some 91, op := AOp.mv (Opd.t 2), grd := some (90, true) }, { dst := some 92, op := AOp.mkfn 45 [] [Opd.t 13], grd := some (90, true) }, { dst := some 93, op := AOp.call (Opd.c (AV.fn (AFn.func 44) [] [])) [Opd.t 91, Opd.t 92], grd := some (90, true) }, { dst := some 94, op := AOp.not (Opd.t 93), grd := some (90, true) }, { dst := some 95, op := AOp.pick (Opd.t 90) (Opd.t 94) (Opd.c (AV.bool false)), grd := none }]
def c30_63 : ACode := .seq c30_64 c30_65
def c30_62 : ACode := .seq c30_63 c30_70
def c30_61 : ACode := .skip
def c30_60 : ACode := .ret
def c30_59 : ACode := .reg [{ dst := some 6, op := AOp.mv (Opd.c (AV.bool false)), grd := none }]
def c30_58 : ACode := .seq c30_59 c30_60
def c30_57 : ACode := .cond (.t 86) c30_58 c30_61
set_option maxRecDepth 100000 in
def c30_56 : ACode := .reg [{ dst := some 64, op := AOp.fadr 0 (Opd.t 13), grd := none }, { dst := some 65, op := AOp.load false 1 (Opd.t 64), grd := none }, { dst := some 66, op := AOp.call (Opd.c (AV.fn (AFn.func 43) [] [])) [Opd.t 65], grd := none }, { dst := some 67, op := AOp.not (Opd.t 66), grd := none }, { dst := some 68, op := AOp.mv (Opd.t 67), grd := none }, { dst := some 69, op := AOp.fadr 1 (Opd.t 13), grd := some (68, false) }, { dst := some 70, op := AOp.load false 1 (Opd.t 69), grd := some (68, false) }, { dst := some 71, op := AOp.bin (BinOp.lss) (Opd.t 70) (Opd.c (AV.int (IntKind.i64) 0)), grd := some (68, false) }, { dst := some 72, op := AOp.pick (Opd.t 68) (Opd.c (AV.bool true)) (Opd.t 71), grd := none }, { dst := some 73, op := AOp.mv (Opd.t 72), grd := none }, { dst := some 74, op := AOp.fadr 1 (Opd.t 13), grd := some (73, false) }, { dst := some 75, op := AOp.load false 1 (Opd.t 74), grd := some (73, false) }, { dst := some 76, op := AOp.bin (BinOp.gtr) (Opd.t 75) (Opd.c (AV.int (IntKind.i64) 5)), grd := some (73, false) }, { dst := some 77, op := AOp.pick (Opd.t 73) (Opd.c (AV.bool true)) (Opd.t 76), grd := none }, { dst := some 78, op := AOp.mv (Opd.t 77), grd := none }, { dst := some 79, op := AOp.fadr 1 (Opd.t 13), grd := some (78, false) }, { dst := some 80, op := AOp.load false 1 (Opd.t 79), grd := some (78, false) }, { dst := some 81, op := AOp.bin (BinOp.eql) (Opd.t 80) (Opd.c (AV.int (IntKind.i64) 5)), grd := some (78, false) }, { dst := some 82, op := AOp.fadr 2 (Opd.t 13), grd := some (78, false) }, { dst := some 83, op := AOp.load false 1 (Opd.t 82), grd := some (78, false) }, { dst := some 84, op := AOp.bin (BinOp.neq) (Opd.t 83) (Opd.c (AV.str [])), grd := some (78, false) }, { dst := some 85, op := AOp.eq true (EqK.bool) (Opd.t 81) (Opd.t 84), grd := some (78, false) }, { dst := some 86, op := AOp.pick (Opd.t 78) (Opd.c (AV.bool true)) (Opd.t 85), grd := none }]
def c30_55 : ACode := .seq c30_56 c30_57
def c30_54 : ACode := .seq c30_55 c30_62
def c30_53 : ACode := .reg [{ dst := some 62, op := AOp.iadr 3 (Opd.t 58) (Opd.t 60), grd := none }, { dst := some 63, op := AOp.load true 3 (Opd.t 62), grd := none }, { dst := some 13, op := AOp.alloc [AV.str [], AV.int (IntKind.i64) 0, AV.str []], grd := none }, { dst := none, op := AOp.store 3 (Opd.t 13) (Opd.t 63), grd := none }]
def c30_52 : ACode := .seq c30_53 c30_54
def c30_51 : ACode := .block 5 c30_52
def c30_50 : ACode := .seq c30_51 c30_81
def c30_49 : ACode := .exit 4
def c30_48 : ACode := .skip
def c30_47 : ACode := .cond (.t 61) c30_48 c30_49
def c30_46 : ACode := .seq c30_47 c30_50
def c30_45 : ACode := .reg [{ dst := some 61, op := AOp.bin (BinOp.lss) (Opd.t 60) (Opd.t 59), grd := none }]
def c30_44 : ACode := .seq c30_45 c30_46
def c30_43 : ACode := .loop c30_44
def c30_42 : ACode := .block 4 c30_43
def c30_41 : ACode := .reg [{ dst := some 57, op := AOp.fadr 2 (Opd.t 4), grd := none }, { dst := some 58, op := AOp.load false 1 (Opd.t 57), grd := none }, { dst := some 59, op := AOp.len 1 (Opd.t 58), grd := none }, { dst := some 60, op := AOp.mv (Opd.c (AV.int (IntKind.i64) 0)), grd := none }]
def c30_40 : ACode := .seq c30_41 c30_42
def c30_39 : ACode := .seq c30_40 c30_82
def c30_38 : ACode := .reg [{ dst := some 56, op := AOp.bin (BinOp.add) (Opd.t 45) (Opd.c (AV.int (IntKind.i64) 1)), grd := none }, { dst := some 45, op := AOp.mv (Opd.t 56), grd := none }]
def c30_37 : ACode := .reg [{ dst := some 54, op := AOp.load false 1 (Opd.t 8), grd := none }, { dst := some 55, op := AOp.bin (BinOp.add) (Opd.t 54) (Opd.c (AV.int (IntKind.i64) 1)), grd := none }, { dst := none, op := AOp.store 1 (Opd.t 8) (Opd.t 55), grd := none }]
def c30_36 : ACode := .reg [{ dst := some 49, op := AOp.load false 1 (Opd.t 7), grd := none }, { dst := some 50, op := AOp.fadr 0 (Opd.t 11), grd := none }, { dst := some 51, op := AOp.load false 1 (Opd.t 50), grd := none }, { dst := some 52, op := AOp.look (KK.leaf (K0.str)) false (AV.int (IntKind.i64) 0) (Opd.t 49) (Opd.t 51), grd := none }, { dst := some 53, op := AOp.bin (BinOp.add) (Opd.t 52) (Opd.c (AV.int (IntKind.i64) 1)), grd := none }, { dst := none, op := AOp.mupd (KK.leaf (K0.str)) (Opd.t 49) (Opd.t 51) (Opd.t 53), grd := none }]
def c30_35 : ACode := .seq c30_36 c30_37
def c30_34 : ACode := .reg [{ dst := some 47, op := AOp.iadr 3 (Opd.t 43) (Opd.t 45), grd := none }, { dst := some 48, op := AOp.load true 3 (Opd.t 47), grd := none }, { dst := some 11, op := AOp.alloc [AV.str [], AV.int (IntKind.i64) 0, AV.str []], grd := none }, { dst := none, op := AOp.store 3 (Opd.t 11) (Opd.t 48), grd := none }]
def c30_33 : ACode := .seq c30_34 c30_35
def c30_32 : ACode := .block 3 c30_33
def c30_31 : ACode := .seq c30_32 c30_38
def c30_30 : ACode := .exit 2
def c30_29 : ACode := .skip
def c30_28 : ACode := .cond (.t 46) c30_29 c30_30
def c30_27 : ACode := .seq c30_28 c30_31
def c30_26 : ACode := .reg [{ dst := some 46, op := AOp.bin (BinOp.lss) (Opd.t 45) (Opd.t 44), grd := none }]
def c30_25 : ACode := .seq c30_26 c30_27
def c30_24 : ACode := .loop c30_25
def c30_23 : ACode := .block 2 c30_24
def c30_22 : ACode := .reg [{ dst := some 42, op := AOp.fadr 2 (Opd.t 9), grd := none }, { dst := some 43, op := AOp.load false 1 (Opd.t 42), grd := none }, { dst := some 44, op := AOp.len 1 (Opd.t 43), grd := none }, { dst := some 45, op := AOp.mv (Opd.c (AV.int (IntKind.i64) 0)), grd := none }]
def c30_21 : ACode := .seq c30_22 c30_23
def c30_20 : ACode := .block 1 c30_21
def c30_19 : ACode := .reg [{ dst := some 9, op := AOp.alloc [AV.str [], AV.str [], AV.nilSlc], grd := none }, { dst := none, op := AOp.store 3 (Opd.t 9) (Opd.t 41), grd := none }]
def c30_18 : ACode := .keep [2, 4, 7, 8, 40] (.rf (.t 40) [41] c30_19 c30_20)
def c30_17 : ACode := .block 0 c30_18
def c30_16 : ACode := .reg [{ dst := some 37, op := AOp.mv (Opd.t 0), grd := none }, { dst := some 38, op := AOp.fadr 1 (Opd.t 4), grd := none }, { dst := some 39, op := AOp.load false 1 (Opd.t 38), grd := none }, { dst := some 40, op := AOp.call (Opd.c (AV.fn (AFn.func 38) [] [])) [Opd.t 37, Opd.t 39], grd := none }]
def c30_15 : ACode := .seq c30_16 c30_17
def c30_14 : ACode := .seq c30_15 c30_39
def c30_13 : ACode := .reg [{ dst := some 8, op := AOp.alloc [AV.int (IntKind.i64) 0], grd := none }, { dst := none, op := AOp.store 1 (Opd.t 8) (Opd.c (AV.int (IntKind.i64) 0)), grd := none }]
def c30_12 : ACode := .seq c30_13 c30_14
def c30_11 : ACode := .reg [{ dst := some 36, op := AOp.mkmap, grd := none }, { dst := some 7, op := AOp.alloc [AV.nilMap], grd := none }, { dst := none, op := AOp.store 1 (Opd.t 7) (Opd.t 36), grd := none }]
def c30_10 : ACode := .seq c30_11 c30_12
def c30_9 : ACode := .skip
def c30_8 : ACode := .ret
def c30_7 : ACode := .reg [{ dst := some 6, op := AOp.mv (Opd.c (AV.bool false)), grd := none }]
def c30_6 : ACode := .seq c30_7 c30_8
def c30_5 : ACode := .cond (.t 35) c30_6 c30_9
set_option maxRecDepth 100000 in
def c30_4 : ACode := .reg [{ dst := some 14, op := AOp.fadr 0 (Opd.t 4), grd := none }, { dst := some 15, op := AOp.load false 1 (Opd.t 14), grd := none }, { dst := some 16, op := AOp.call (Opd.c (AV.fn (AFn.func 43) [] [])) [Opd.t 15], grd := none }, { dst := some 17, op := AOp.not (Opd.t 16), grd := none }, { dst := some 18, op := AOp.mv (Opd.t 17), grd := none }, { dst := some 19, op := AOp.mv (Opd.t 0), grd := some (18, false) }, { dst := some 20, op := AOp.fadr 0 (Opd.t 4), grd := some (18, false) }, { dst := some 21, op := AOp.load false 1 (Opd.t 20), grd := some (18, false) }, { dst := some 22, op := AOp.call (Opd.c (AV.fn (AFn.func 19) [] [])) [Opd.t 19, Opd.t 21], grd := some (18, false) }, { dst := some 23, op := AOp.pick (Opd.t 18) (Opd.c (AV.bool true)) (Opd.t 22), grd := none }, { dst := some 24, op := AOp.mv (Opd.t 23), grd := none }, { dst := some 25, op := AOp.fadr 1 (Opd.t 4), grd := some (24, false) }, { dst := some 26, op := AOp.load false 1 (Opd.t 25), grd := some (24, false) }, { dst := some 27, op := AOp.bin (BinOp.neq) (Opd.t 26) (Opd.c (AV.str [])), grd := some (24, false) }, { dst := some 28, op := AOp.mv (Opd.t 27), grd := some (24, false) }, { dst := some 29, op := AOp.mv (Opd.t 0), grd := some (28, true) }, { dst := some 30, op := AOp.fadr 1 (Opd.t 4), grd := some (28, true) }, { dst := some 31, op := AOp.load false 1 (Opd.t 30), grd := some (28, true) }, { dst := some 32, op := AOp.call (Opd.c (AV.fn (AFn.func 19) [] [])) [Opd.t 29, Opd.t 31], grd := some (28, true) }, { dst := some 33, op := AOp.not (Opd.t 32), grd := some (28, true) }, { dst := some 34, op := AOp.pick (Opd.t 28) (Opd.t 33) (Opd.c (AV.bool false)), grd := some (24, false) }, { dst := some 35, op := AOp.pick (Opd.t 24) (Opd.c (AV.bool true)) (Opd.t 34), grd := none }]
def c30_3 : ACode := .seq c30_4 c30_5
def c30_2 : ACode := .seq c30_3 c30_10
def c30_1 : ACode := .reg [{ dst := some 4, op := AOp.box 3 (Opd.t 1), grd := none }, { dst := some 6, op := AOp.mv (Opd.c (AV.bool false)), grd := none }]
def c30_0 : ACode := .seq c30_1 c30_2
def A30 : AFun := { np := 3, res := [(6, none)], body := c30_0 }

def c31_12 : ACode := .ret
def c31_11 : ACode := .reg [{ dst := some 5, op := AOp.bslice 0 3 [AV.str [], AV.int (IntKind.i64) 0, AV.str []] [], grd := none }, { dst := some 6, op := AOp.mv (Opd.t 0), grd := none }, { dst := some 7, op := AOp.app 3 40 (Opd.t 5) (Opd.t 6), grd := none }, { dst := some 2, op := AOp.mv (Opd.t 7), grd := none }]
def c31_10 : ACode := .seq c31_11 c31_12
def c31_9 : ACode := .skip
def c31_8 : ACode := .ret
def c31_7 : ACode := .reg [{ dst := some 2, op := AOp.mv (Opd.c (AV.nilSlc)), grd := none }]
def c31_6 : ACode := .seq c31_7 c31_8
def c31_5 : ACode := .cond (.t 4) c31_6 c31_9
def c31_4 : ACode := .reg [{ dst := some 3, op := AOp.mv (Opd.t 0), grd := none }, { dst := some 4, op := AOp.eq false (EqK.slc) (Opd.t 3) (Opd.c (AV.nilSlc)), grd := none }]
def c31_3 : ACode := .seq c31_4 c31_5
def c31_2 : ACode := .seq c31_3 c31_10
def c31_1 : ACode := .reg [{ dst := some 2, op := AOp.mv (Opd.c (AV.nilSlc)), grd := none }]
def c31_0 : ACode := .seq c31_1 c31_2
def A31 : AFun := { np := 1, res := [(2, none)], body := c31_0 }

def c32_4 : ACode := .ret
def c32_3 : ACode := .reg [{ dst := some 3, op := AOp.mv (Opd.t 0), grd := none }, { dst := some 4, op := AOp.call (Opd.c (AV.fn (AFn.func 46) [] [])) [Opd.t 3], grd := none }, { dst := some 5, op := AOp.mv (Opd.t 4), grd := none }, { dst := some 6, op := AOp.mv (Opd.t 0), grd := some (5, true) }, { dst := some 7, op := AOp.call (Opd.c (AV.fn (AFn.func 47) [] [])) [Opd.t 6], grd := some (5, true) }, { dst := some 8, op := AOp.not (Opd.t 7), grd := some (5, true) }, { dst := some 9, op := AOp.pick (Opd.t 5) (Opd.t 8) (Opd.c (AV.bool false)), grd := none }, { dst := some 2, op := AOp.mv (Opd.t 9), grd := none }]
def c32_2 : ACode := .seq c32_3 c32_4
def c32_1 : ACode := .reg [{ dst := some 2, op := AOp.mv (Opd.c (AV.bool false)), grd := none }]
def c32_0 : ACode := .seq c32_1 c32_2
def A32 : AFun := { np := 1, res := [(2, none)], body := c32_0 }

def c33_25 : ACode := .ret
def c33_24 : ACode := .reg [{ dst := some 4, op := AOp.mv (Opd.c (AV.int (IntKind.i64) (-1))), grd := none }]
def c33_23 : ACode := .seq c33_24 c33_25
def c33_22 : ACode := .reg [{ dst := some 10, op := AOp.mv (Opd.t 5), grd := none }, { dst := some 11, op := AOp.bin (BinOp.add) (Opd.t 10) (Opd.c (AV.int (IntKind.i64) 1)), grd := none }, { dst := some 5, op := AOp.mv (Opd.t 11), grd := none }]
def c33_21 : ACode := .skip
def c33_20 : ACode := .ret
def c33_19 : ACode := .reg [{ dst := some 19, op := AOp.mv (Opd.t 5), grd := none }, { dst := some 4, op := AOp.mv (Opd.t 19), grd := none }]
def c33_18 : ACode := .seq c33_19 c33_20
def c33_17 : ACode := .cond (.t 18) c33_18 c33_21
def c33_16 : ACode := .reg [{ dst := some 12, op := AOp.mv (Opd.t 0), grd := none }, { dst := some 13, op := AOp.mv (Opd.t 5), grd := none }, { dst := some 14, op := AOp.iadr 3 (Opd.t 12) (Opd.t 13), grd := none }, { dst := some 15, op := AOp.fadr 0 (Opd.t 14), grd := none }, { dst := some 16, op := AOp.load false 1 (Opd.t 15), grd := none }, { dst := some 17, op := AOp.mv (Opd.t 1), grd := none }, { dst := some 18, op := AOp.bin (BinOp.eql) (Opd.t 16) (Opd.t 17), grd := none }]
def c33_15 : ACode := .seq c33_16 c33_17
def c33_14 : ACode := .block 1 c33_15
def c33_13 : ACode := .seq c33_14 c33_22
def c33_12 : ACode := .exit 0
def c33_11 : ACode := .skip
def c33_10 : ACode := .cond (.t 9) c33_11 c33_12
def c33_9 : ACode := .reg [{ dst := some 6, op := AOp.mv (Opd.t 5), grd := none }, { dst := some 7, op := AOp.mv (Opd.t 0), grd := none }, { dst := some 8, op := AOp.len 1 (Opd.t 7), grd := none }, { dst := some 9, op := AOp.bin (BinOp.lss) (Opd.t 6) (Opd.t 8), grd := none }]
def c33_8 : ACode := .seq c33_9 c33_10
def c33_7 : ACode := .seq c33_8 c33_13
def c33_6 : ACode := .loop c33_7
def c33_5 : ACode := .block 0 c33_6
def c33_4 : ACode := .reg [{ dst := some 5, op := AOp.mv (Opd.c (AV.int (IntKind.i64) 0)), grd := none }]
def c33_3 : ACode := .seq c33_4 c33_5
def c33_2 : ACode := .seq c33_3 c33_23
def c33_1 : ACode := .reg [{ dst := some 4, op := AOp.mv (Opd.c (AV.int (IntKind.i64) 0)), grd := none }]
def c33_0 : ACode := .seq c33_1 c33_2
def A33 : AFun := { np := 2, res := [(4, none)], body := c33_0 }

def c34_22 : ACode := .ret
def c34_21 : ACode := .reg [{ dst := some 27, op := AOp.mv (Opd.t 6), grd := none }, { dst := some 28, op := AOp.mv (Opd.t 0), grd := none }, { dst := some 29, op := AOp.mv (Opd.t 5), grd := none }, { dst := some 30, op := AOp.iadr 3 (Opd.t 28) (Opd.t 29), grd := none }, { dst := some 31, op := AOp.fadr 2 (Opd.t 30), grd := none }, { dst := some 32, op := AOp.load false 1 (Opd.t 31), grd := none }, { dst := some 33, op := AOp.app 3 40 (Opd.t 27) (Opd.t 32), grd := none }, { dst := some 4, op := AOp.mv (Opd.t 33), grd := none }]
def c34_20 : ACode := .seq c34_21 c34_22
def c34_19 : ACode := .skip
def c34_18 : ACode := .dreg [{ dst := some 18, op := AOp.mv (Opd.t 0), grd := none }, { dst := some 19, op := AOp.mv (Opd.t 5), grd := none }, { dst := some 20, op := AOp.sl 3 (Opd.t 18) none (some (Opd.t 19)) none, grd := none }, { dst := some 21, op := AOp.mv (Opd.t 0), grd := none }, { dst := some 22, op := AOp.mv (Opd.t 5), grd := none }, { dst := some 23, op := AOp.iadr 3 (Opd.t 21) (Opd.t 22), grd := none }, { dst := some 24, op := AOp.fadr 1 (Opd.t 23), grd := none }, { dst := some 25, op := AOp.load false 1 (Opd.t 24), grd := none }] [({ dst := some 26, op := AOp.call (Opd.c (AV.fn (AFn.func 34) [] [])) [Opd.t 20, Opd.t 25], grd := none }, [], [{ dst := some 6, op := AOp.mv (Opd.t 26), grd := none }])]
def c34_17 : ACode := .cond (.t 17) c34_18 c34_19
def c34_16 : ACode := .reg [{ dst := some 12, op := AOp.mv (Opd.t 0), grd := none }, { dst := some 13, op := AOp.mv (Opd.t 5), grd := none }, { dst := some 14, op := AOp.iadr 3 (Opd.t 12) (Opd.t 13), grd := none }, { dst := some 15, op := AOp.fadr 1 (Opd.t 14), grd := none }, { dst := some 16, op := AOp.load false 1 (Opd.t 15), grd := none }, { dst := some 17, op := AOp.bin (BinOp.neq) (Opd.t 16) (Opd.c (AV.str [])), grd := none }]
def c34_15 : ACode := .seq c34_16 c34_17
def c34_14 : ACode := .seq c34_15 c34_20
def c34_13 : ACode := .reg [{ dst := some 6, op := AOp.mv (Opd.c (AV.nilSlc)), grd := none }]
def c34_12 : ACode := .seq c34_13 c34_14
def c34_11 : ACode := .skip
def c34_10 : ACode := .ret
def c34_9 : ACode := .reg [{ dst := some 4, op := AOp.mv (Opd.c (AV.nilSlc)), grd := none }]
def c34_8 : ACode := .seq c34_9 c34_10
def c34_7 : ACode := .cond (.t 11) c34_8 c34_11
def c34_6 : ACode := .reg [{ dst := some 10, op := AOp.mv (Opd.t 5), grd := none }, { dst := some 11, op := AOp.bin (BinOp.lss) (Opd.t 10) (Opd.c (AV.int (IntKind.i64) 0)), grd := none }]
def c34_5 : ACode := .seq c34_6 c34_7
def c34_4 : ACode := .seq c34_5 c34_12
def c34_3 : ACode := .reg [{ dst := some 7, op := AOp.mv (Opd.t 0), grd := none }, { dst := some 8, op := AOp.mv (Opd.t 1), grd := none }, { dst := some 9, op := AOp.call (Opd.c (AV.fn (AFn.func 33) [] [])) [Opd.t 7, Opd.t 8], grd := none }, { dst := some 5, op := AOp.mv (Opd.t 9), grd := none }]
def c34_2 : ACode := .seq c34_3 c34_4
def c34_1 : ACode := .reg [{ dst := some 4, op := AOp.mv (Opd.c (AV.nilSlc)), grd := none }]
def c34_0 : ACode := .seq c34_1 c34_2
def A34 : AFun := { np := 2, res := [(4, none)], body := c34_0 }

def c35_25 : ACode := .ret
def c35_24 : ACode := .reg [{ dst := some 4, op := AOp.mv (Opd.c (AV.int (IntKind.i64) (-1))), grd := none }]
def c35_23 : ACode := .seq c35_24 c35_25
def c35_22 : ACode := .reg [{ dst := some 10, op := AOp.mv (Opd.t 5), grd := none }, { dst := some 11, op := AOp.bin (BinOp.add) (Opd.t 10) (Opd.c (AV.int (IntKind.i64) 1)), grd := none }, { dst := some 5, op := AOp.mv (Opd.t 11), grd := none }]
def c35_21 : ACode := .skip
def c35_20 : ACode := .ret
def c35_19 : ACode := .reg [{ dst := some 19, op := AOp.mv (Opd.t 5), grd := none }, { dst := some 4, op := AOp.mv (Opd.t 19), grd := none }]
def c35_18 : ACode := .seq c35_19 c35_20
def c35_17 : ACode := .cond (.t 18) c35_18 c35_21
def c35_16 : ACode := .reg [{ dst := some 12, op := AOp.mv (Opd.t 0), grd := none }, { dst := some 13, op := AOp.mv (Opd.t 5), grd := none }, { dst := some 14, op := AOp.iadr 3 (Opd.t 12) (Opd.t 13), grd := none }, { dst := some 15, op := AOp.fadr 0 (Opd.t 14), grd := none }, { dst := some 16, op := AOp.load false 1 (Opd.t 15), grd := none }, { dst := some 17, op := AOp.mv (Opd.t 1), grd := none }, { dst := some 18, op := AOp.bin (BinOp.eql) (Opd.t 16) (Opd.t 17), grd := none }]
def c35_15 : ACode := .seq c35_16 c35_17
def c35_14 : ACode := .block 1 c35_15
def c35_13 : ACode := .seq c35_14 c35_22
def c35_12 : ACode := .exit 0
def c35_11 : ACode := .skip
def c35_10 : ACode := .cond (.t 9) c35_11 c35_12
def c35_9 : ACode := .reg [{ dst := some 6, op := AOp.mv (Opd.t 5), grd := none }, { dst := some 7, op := AOp.mv (Opd.t 0), grd := none }, { dst := some 8, op := AOp.len 1 (Opd.t 7), grd := none }, { dst := some 9, op := AOp.bin (BinOp.lss) (Opd.t 6) (Opd.t 8), grd := none }]
def c35_8 : ACode := .seq c35_9 c35_10
def c35_7 : ACode := .seq c35_8 c35_13
def c35_6 : ACode := .loop c35_7
def c35_5 : ACode := .block 0 c35_6
def c35_4 : ACode := .reg [{ dst := some 5, op := AOp.mv (Opd.c (AV.int (IntKind.i64) 0)), grd := none }]
def c35_3 : ACode := .seq c35_4 c35_5
def c35_2 : ACode := .seq c35_3 c35_23
def c35_1 : ACode := .reg [{ dst := some 4, op := AOp.mv (Opd.c (AV.int (IntKind.i64) 0)), grd := none }]
def c35_0 : ACode := .seq c35_1 c35_2
def A35 : AFun := { np := 2, res := [(4, none)], body := c35_0 }

def c36_24 : ACode := .ret
def c36_23 : ACode := .reg [{ dst := some 25, op := AOp.mv (Opd.t 10), grd := none }, { dst := some 6, op := AOp.mv (Opd.t 25), grd := none }, { dst := some 7, op := AOp.mv (Opd.c (AV.int (IntKind.i64) 0)), grd := none }]
def c36_22 : ACode := .seq c36_23 c36_24
def c36_21 : ACode := .skip
def c36_20 : ACode := .ret
def c36_19 : ACode := .reg [{ dst := some 6, op := AOp.mv (Opd.c (AV.int (IntKind.i64) 0)), grd := none }, { dst := some 7, op := AOp.mv (Opd.c (AV.int (IntKind.i64) 11)), grd := none }]
def c36_18 : ACode := .seq c36_19 c36_20
def c36_17 : ACode := .cond (.t 24) c36_18 c36_21
def c36_16 : ACode := .reg [{ dst := some 23, op := AOp.mv (Opd.t 10), grd := none }, { dst := some 24, op := AOp.bin (BinOp.lss) (Opd.t 23) (Opd.c (AV.int (IntKind.i64) 0)), grd := none }]
def c36_15 : ACode := .seq c36_16 c36_17
def c36_14 : ACode := .seq c36_15 c36_22
def c36_13 : ACode := .reg [{ dst := some 20, op := AOp.mv (Opd.t 8), grd := none }, { dst := some 21, op := AOp.mkfn 49 [] [Opd.t 5], grd := none }, { dst := some 22, op := AOp.call (Opd.c (AV.fn (AFn.func 48) [] [])) [Opd.t 20, Opd.t 21], grd := none }, { dst := some 10, op := AOp.mv (Opd.t 22), grd := none }]
def c36_12 : ACode := .seq c36_13 c36_14
def c36_11 : ACode := .skip
def c36_10 : ACode := .ret
def c36_9 : ACode := .reg [{ dst := some 19, op := AOp.mv (Opd.t 9), grd := none }, { dst := some 6, op := AOp.mv (Opd.c (AV.int (IntKind.i64) 0)), grd := none }, { dst := some 7, op := AOp.mv (Opd.t 19), grd := none }]
def c36_8 : ACode := .seq c36_9 c36_10
def c36_7 : ACode := .cond (.t 18) c36_8 c36_11
def c36_6 : ACode := .reg [{ dst := some 17, op := AOp.mv (Opd.t 9), grd := none }, { dst := some 18, op := AOp.bin (BinOp.neq) (Opd.t 17) (Opd.c (AV.int (IntKind.i64) 0)), grd := none }]
def c36_5 : ACode := .seq c36_6 c36_7
def c36_4 : ACode := .seq c36_5 c36_12
def c36_3 : ACode := .reg [{ dst := some 12, op := AOp.mv (Opd.t 0), grd := none }, { dst := some 13, op := AOp.mv (Opd.t 1), grd := none }, { dst := some 14, op := AOp.call (Opd.c (AV.fn (AFn.func 16) [] [])) [Opd.t 12, Opd.t 13], grd := none }, { dst := some 11, op := AOp.mv (Opd.t 14), grd := none }, { dst := some 15, op := AOp.ext (Opd.t 11) 0, grd := none }, { dst := some 16, op := AOp.ext (Opd.t 11) 1, grd := none }, { dst := some 8, op := AOp.mv (Opd.t 15), grd := none }, { dst := some 9, op := AOp.mv (Opd.t 16), grd := none }]
def c36_2 : ACode := .seq c36_3 c36_4
def c36_1 : ACode := .reg [{ dst := some 5, op := AOp.box 1 (Opd.t 2), grd := none }, { dst := some 6, op := AOp.mv (Opd.c (AV.int (IntKind.i64) 0)), grd := none }, { dst := some 7, op := AOp.mv (Opd.c (AV.int (IntKind.i64) 0)), grd := none }]
def c36_0 : ACode := .seq c36_1 c36_2
def A36 : AFun := { np := 3, res := [(6, none), (7, none)], body := c36_0 }

def c38_4 : ACode := .ret
def c38_3 : ACode := .reg [{ dst := some 5, op := AOp.mkfn 50 [] [Opd.t 2, Opd.t 3], grd := none }, { dst := some 4, op := AOp.mv (Opd.t 5), grd := none }]
def c38_2 : ACode := .seq c38_3 c38_4
def c38_1 : ACode := .reg [{ dst := some 2, op := AOp.box 1 (Opd.t 0), grd := none }, { dst := some 3, op := AOp.box 1 (Opd.t 1), grd := none }, { dst := some 4, op := AOp.mv (Opd.c (AV.nilFn)), grd := none }]
def c38_0 : ACode := .seq c38_1 c38_2
def A38 : AFun := { np := 2, res := [(4, none)], body := c38_0 }

def c39_48 : ACode := .ret
def c39_47 : ACode := .reg [{ dst := some 35, op := AOp.mv (Opd.t 6), grd := none }, { dst := some 2, op := AOp.mv (Opd.t 35), grd := none }]
def c39_46 : ACode := .seq c39_47 c39_48
def c39_45 : ACode := .reg [{ dst := some 34, op := AOp.bin (BinOp.add) (Opd.t 27) (Opd.c (AV.int (IntKind.i64) 1)), grd := none }, { dst := some 27, op := AOp.mv (Opd.t 34), grd := none }]
def c39_44 : ACode := .reg [{ dst := some 31, op := AOp.mv (Opd.t 6), grd := none }, { dst := some 32, op := AOp.mv (Opd.t 8), grd := none }, { dst := some 33, op := AOp.app 3 40 (Opd.t 31) (Opd.t 32), grd := none }, { dst := some 6, op := AOp.mv (Opd.t 33), grd := none }]
def c39_43 : ACode := .reg [{ dst := some 29, op := AOp.iadr 1 (Opd.t 25) (Opd.t 27), grd := none }, { dst := some 30, op := AOp.load false 1 (Opd.t 29), grd := none }, { dst := some 8, op := AOp.mv (Opd.t 30), grd := none }]
def c39_42 : ACode := .seq c39_43 c39_44
def c39_41 : ACode := .block 3 c39_42
def c39_40 : ACode := .seq c39_41 c39_45
def c39_39 : ACode := .exit 2
def c39_38 : ACode := .skip
def c39_37 : ACode := .cond (.t 28) c39_38 c39_39
def c39_36 : ACode := .seq c39_37 c39_40
def c39_35 : ACode := .reg [{ dst := some 28, op := AOp.bin (BinOp.lss) (Opd.t 27) (Opd.t 26), grd := none }]
def c39_34 : ACode := .seq c39_35 c39_36
def c39_33 : ACode := .loop c39_34
def c39_32 : ACode := .block 2 c39_33
def c39_31 : ACode := .reg [{ dst := some 25, op := AOp.mv (Opd.t 0), grd := none }, { dst := some 26, op := AOp.len 1 (Opd.t 25), grd := none }, { dst := some 27, op := AOp.mv (Opd.c (AV.int (IntKind.i64) 0)), grd := none }]
def c39_30 : ACode := .seq c39_31 c39_32
def c39_29 : ACode := .seq c39_30 c39_46
def c39_28 : ACode := .reg [{ dst := some 23, op := AOp.mv (Opd.t 3), grd := none }, { dst := some 24, op := AOp.call (Opd.c (AV.fn (AFn.func 51) [] [])) [Opd.c (AV.nilSlc), Opd.t 23], grd := none }, { dst := some 6, op := AOp.mv (Opd.t 24), grd := none }]
def c39_27 : ACode := .seq c39_28 c39_29
def c39_26 : ACode := .reg [{ dst := some 22, op := AOp.bin (BinOp.add) (Opd.t 11) (Opd.c (AV.int (IntKind.i64) 1)), grd := none }, { dst := some 11, op := AOp.mv (Opd.t 22), grd := none }]
def c39_25 : ACode := .skip
def c39_24 : ACode := .reg [{ dst := some 21, op := AOp.fail, grd := none }, { dst := none, op := AOp.fail, grd := none }]
def c39_23 : ACode := .cond (.t 20) c39_24 c39_25
def c39_22 : ACode := .reg [{ dst := some 19, op := AOp.mv (Opd.t 3), grd := none }, { dst := some 20, op := AOp.bin (BinOp.lss) (Opd.t 19) (Opd.c (AV.int (IntKind.i64) 0)), grd := none }]
def c39_21 : ACode := .seq c39_22 c39_23
def c39_20 : ACode := .reg [{ dst := some 15, op := AOp.mv (Opd.t 3), grd := none }, { dst := some 16, op := AOp.mv (Opd.t 5), grd := none }, { dst := some 17, op := AOp.len 1 (Opd.t 16), grd := none }, { dst := some 18, op := AOp.bin (BinOp.add) (Opd.t 15) (Opd.t 17), grd := none }, { dst := some 3, op := AOp.mv (Opd.t 18), grd := none }]
def c39_19 : ACode := .seq c39_20 c39_21
def c39_18 : ACode := .reg [{ dst := some 13, op := AOp.iadr 1 (Opd.t 9) (Opd.t 11), grd := none }, { dst := some 14, op := AOp.load false 1 (Opd.t 13), grd := none }, { dst := some 5, op := AOp.mv (Opd.t 14), grd := none }]
def c39_17 : ACode := .seq c39_18 c39_19
def c39_16 : ACode := .block 1 c39_17
def c39_15 : ACode := .seq c39_16 c39_26
def c39_14 : ACode := .exit 0
def c39_13 : ACode := .skip
def c39_12 : ACode := .cond (.t 12) c39_13 c39_14
def c39_11 : ACode := .seq c39_12 c39_15
def c39_10 : ACode := .reg [{ dst := some 12, op := AOp.bin (BinOp.lss) (Opd.t 11) (Opd.t 10), grd := none }]
def c39_9 : ACode := .seq c39_10 c39_11
def c39_8 : ACode := .loop c39_9
def c39_7 : ACode := .block 0 c39_8
def c39_6 : ACode := .reg [{ dst := some 9, op := AOp.mv (Opd.t 0), grd := none }, { dst := some 10, op := AOp.len 1 (Opd.t 9), grd := none }, { dst := some 11, op := AOp.mv (Opd.c (AV.int (IntKind.i64) 0)), grd := none }]
def c39_5 : ACode := .seq c39_6 c39_7
def c39_4 : ACode := .seq c39_5 c39_27
def c39_3 : ACode := .reg [{ dst := some 3, op := AOp.mv (Opd.c (AV.int (IntKind.i64) 0)), grd := none }]
def c39_2 : ACode := .seq c39_3 c39_4
def c39_1 : ACode := .reg [{ dst := some 2, op := AOp.mv (Opd.c (AV.nilSlc)), grd := none }]
def c39_0 : ACode := .seq c39_1 c39_2
def A39 : AFun := { np := 1, res := [(2, none)], body := c39_0 }

def c40_29 : ACode := .ret
def c40_28 : ACode := .reg [{ dst := some 34, op := AOp.mv (Opd.t 5), grd := none }, { dst := some 4, op := AOp.mv (Opd.t 34), grd := none }]
def c40_27 : ACode := .seq c40_28 c40_29
def c40_26 : ACode := .reg [{ dst := some 13, op := AOp.mv (Opd.t 6), grd := none }, { dst := some 14, op := AOp.bin (BinOp.add) (Opd.t 13) (Opd.c (AV.int (IntKind.i64) 1)), grd := none }, { dst := some 6, op := AOp.mv (Opd.t 14), grd := none }]
set_option maxRecDepth 100000 in
def c40_25 : ACode := .dreg [{ dst := some 15, op := AOp.mv (Opd.t 5), grd := none }, { dst := some 16, op := AOp.bin (BinOp.add) (Opd.t 15) (Opd.c (AV.int (IntKind.i64) 1)), grd := none }, { dst := some 17, op := AOp.mv (Opd.t 0), grd := none }, { dst := some 18, op := AOp.mv (Opd.t 6), grd := none }, { dst := some 19, op := AOp.iadr 5 (Opd.t 17) (Opd.t 18), grd := none }, { dst := some 20, op := AOp.fadr 3 (Opd.t 19), grd := none }, { dst := some 21, op := AOp.load false 1 (Opd.t 20), grd := none }, { dst := some 22, op := AOp.len 0 (Opd.t 21), grd := none }, { dst := some 23, op := AOp.bin (BinOp.quo) (Opd.t 22) (Opd.c (AV.int (IntKind.i64) 64)), grd := none }, { dst := some 24, op := AOp.bin (BinOp.add) (Opd.t 16) (Opd.t 23), grd := none }, { dst := some 25, op := AOp.mv (Opd.t 0), grd := none }, { dst := some 26, op := AOp.mv (Opd.t 6), grd := none }, { dst := some 27, op := AOp.iadr 5 (Opd.t 25) (Opd.t 26), grd := none }, { dst := some 28, op := AOp.fadr 4 (Opd.t 27), grd := none }, { dst := some 29, op := AOp.load false 1 (Opd.t 28), grd := none }, { dst := some 30, op := AOp.mv (Opd.t 1), grd := none }, { dst := some 31, op := AOp.bin (BinOp.add) (Opd.t 30) (Opd.c (AV.int (IntKind.i64) 1)), grd := none }] [({ dst := some 32, op := AOp.call (Opd.c (AV.fn (AFn.func 40) [] [])) [Opd.t 29, Opd.t 31], grd := none }, [{ dst := some 19, op := AOp.iadr 5 (Opd.t 17) (Opd.t 18), grd := none }, { dst := some 21, op := AOp.load false 1 (Opd.t 20), grd := none }, { dst := some 22, op := AOp.len 0 (Opd.t 21), grd := none }], [{ dst := some 33, op := AOp.bin (BinOp.add) (Opd.t 24) (Opd.t 32), grd := none }]), ({ dst := some 5, op := AOp.mv (Opd.t 33), grd := none }, [], [])]
def c40_24 : ACode := .block 1 c40_25
def c40_23 : ACode := .seq c40_24 c40_26
def c40_22 : ACode := .exit 0
def c40_21 : ACode := .skip
def c40_20 : ACode := .cond (.t 12) c40_21 c40_22
def c40_19 : ACode := .reg [{ dst := some 9, op := AOp.mv (Opd.t 6), grd := none }, { dst := some 10, op := AOp.mv (Opd.t 0), grd := none }, { dst := some 11, op := AOp.len 1 (Opd.t 10), grd := none }, { dst := some 12, op := AOp.bin (BinOp.lss) (Opd.t 9) (Opd.t 11), grd := none }]
def c40_18 : ACode := .seq c40_19 c40_20
def c40_17 : ACode := .seq c40_18 c40_23
def c40_16 : ACode := .loop c40_17
def c40_15 : ACode := .block 0 c40_16
def c40_14 : ACode := .reg [{ dst := some 6, op := AOp.mv (Opd.c (AV.int (IntKind.i64) 0)), grd := none }]
def c40_13 : ACode := .seq c40_14 c40_15
def c40_12 : ACode := .seq c40_13 c40_27
def c40_11 : ACode := .reg [{ dst := some 5, op := AOp.mv (Opd.c (AV.int (IntKind.i64) 0)), grd := none }]
def c40_10 : ACode := .seq c40_11 c40_12
def c40_9 : ACode := .skip
def c40_8 : ACode := .ret
def c40_7 : ACode := .reg [{ dst := some 4, op := AOp.mv (Opd.c (AV.int (IntKind.i64) 1048576)), grd := none }]
def c40_6 : ACode := .seq c40_7 c40_8
def c40_5 : ACode := .cond (.t 8) c40_6 c40_9
def c40_4 : ACode := .reg [{ dst := some 7, op := AOp.mv (Opd.t 1), grd := none }, { dst := some 8, op := AOp.bin (BinOp.gtr) (Opd.t 7) (Opd.c (AV.int (IntKind.i64) 100)), grd := none }]
def c40_3 : ACode := .seq c40_4 c40_5
def c40_2 : ACode := .seq c40_3 c40_10
def c40_1 : ACode := .reg [{ dst := some 4, op := AOp.mv (Opd.c (AV.int (IntKind.i64) 0)), grd := none }]
def c40_0 : ACode := .seq c40_1 c40_2
def A40 : AFun := { np := 2, res := [(4, none)], body := c40_0 }

def c41_4 : ACode := .ret
def c41_3 : ACode := .reg [{ dst := some 3, op := AOp.load true 5 (Opd.t 1), grd := none }, { dst := some 4, op := AOp.call (Opd.c (AV.fn (AFn.func 52) [] [])) [Opd.t 3, Opd.c (AV.int (IntKind.i64) 0)], grd := none }, { dst := some 2, op := AOp.mv (Opd.t 4), grd := none }]
def c41_2 : ACode := .seq c41_3 c41_4
def c41_1 : ACode := .reg [{ dst := some 1, op := AOp.box 5 (Opd.t 0), grd := none }, { dst := some 2, op := AOp.mv (Opd.c (AV.bool false)), grd := none }]
def c41_0 : ACode := .seq c41_1 c41_2
def A41 : AFun := { np := 1, res := [(2, none)], body := c41_0 }

def c42_4 : ACode := .ret
def c42_3 : ACode := .reg [{ dst := some 3, op := AOp.load true 5 (Opd.t 1), grd := none }, { dst := some 4, op := AOp.call (Opd.c (AV.fn (AFn.func 53) [] [])) [Opd.t 3, Opd.c (AV.int (IntKind.i64) 0)], grd := none }, { dst := some 2, op := AOp.mv (Opd.t 4), grd := none }]
def c42_2 : ACode := .seq c42_3 c42_4
def c42_1 : ACode := .reg [{ dst := some 1, op := AOp.box 5 (Opd.t 0), grd := none }, { dst := some 2, op := AOp.mv (Opd.c (AV.bool false)), grd := none }]
def c42_0 : ACode := .seq c42_1 c42_2
def A42 : AFun := { np := 1, res := [(2, none)], body := c42_0 }

def c43_31 : ACode := .ret
def c43_30 : ACode := .reg [{ dst := some 47, op := AOp.mv (Opd.t 0), grd := none }, { dst := some 48, op := AOp.len 0 (Opd.t 47), grd := none }, { dst := some 49, op := AOp.bin (BinOp.geq) (Opd.t 48) (Opd.c (AV.int (IntKind.i64) 1)), grd := none }, { dst := some 50, op := AOp.mv (Opd.t 49), grd := none }, { dst := some 51, op := AOp.mv (Opd.t 0), grd := some (50, true) }, { dst := some 52, op := AOp.len 0 (Opd.t 51), grd := some (50, true) }, { dst := some 53, op := AOp.bin (BinOp.leq) (Opd.t 52) (Opd.c (AV.int (IntKind.i64) 64)), grd := some (50, true) }, { dst := some 54, op := AOp.pick (Opd.t 50) (Opd.t 53) (Opd.c (AV.bool false)), grd := none }, { dst := some 55, op := AOp.mv (Opd.t 54), grd := none }, { dst := some 56, op := AOp.mv (Opd.t 0), grd := some (55, true) }, { dst := some 57, op := AOp.call (Opd.c (AV.fn (AFn.func 54) [] [])) [Opd.t 56], grd := some (55, true) }, { dst := some 58, op := AOp.not (Opd.t 57), grd := some (55, true) }, { dst := some 59, op := AOp.pick (Opd.t 55) (Opd.t 58) (Opd.c (AV.bool false)), grd := none }, { dst := some 2, op := AOp.mv (Opd.t 59), grd := none }]
def c43_29 : ACode := .seq c43_30 c43_31
def c43_28 : ACode := .reg [{ dst := some 46, op := AOp.bin (BinOp.add) (Opd.t 8) (Opd.c (AV.int (IntKind.i64) 1)), grd := none }, { dst := some 8, op := AOp.mv (Opd.t 46), grd := none }]
def c43_27 : ACode := .skip
def c43_26 : ACode := .ret
def c43_25 : ACode := .reg [{ dst := some 2, op := AOp.mv (Opd.c (AV.bool false)), grd := none }]
def c43_24 : ACode := .seq c43_25 c43_26
def c43_23 : ACode := .cond (.t 45) c43_24 c43_27
set_option maxRecDepth 100000 in
def c43_22 : ACode := .reg [{ dst := some 28, op := AOp.mv (Opd.t 5), grd := none }, { dst := some 29, op := AOp.not (Opd.t 28), grd := none }, { dst := some 30, op := AOp.mv (Opd.t 29), grd := none }, { dst := some 31, op := AOp.mv (Opd.t 3), grd := some (30, true) }, { dst := some 32, op := AOp.bin (BinOp.eql) (Opd.t 31) (Opd.c (AV.int (IntKind.i64) 0)), grd := some (30, true) }, { dst := some 33, op := AOp.mv (Opd.t 32), grd := some (30, true) }, { dst := some 34, op := AOp.mv (Opd.t 4), grd := some (33, false) }, { dst := some 35, op := AOp.bin (BinOp.neq) (Opd.t 34) (Opd.c (AV.int (IntKind.u8) 95)), grd := some (33, false) }, { dst := some 36, op := AOp.mv (Opd.t 35), grd := some (33, false) }, { dst := some 37, op := AOp.mv (Opd.t 4), grd := some (36, true) }, { dst := some 38, op := AOp.bin (BinOp.lss) (Opd.t 37) (Opd.c (AV.int (IntKind.u8) 48)), grd := some (36, true) }, { dst := some 39, op := AOp.mv (Opd.t 38), grd := some (36, true) }, { dst := some 40, op := AOp.mv (Opd.t 4), grd := some (39, false) }, { dst := some 41, op := AOp.bin (BinOp.gtr) (Opd.t 40) (Opd.c (AV.int (IntKind.u8) 57)), grd := some (39, false) }, { dst := some 42, op := AOp.pick (Opd.t 39) (Opd.c (AV.bool true)) (Opd.t 41), grd := some (36, true) }, { dst := some 43, op := AOp.pick (Opd.t 36) (Opd.t 42) (Opd.c (AV.bool false)), grd := some (33, false) }, { dst := some 44, op := AOp.pick (Opd.t 33) (Opd.c (AV.bool true)) (Opd.t 43), grd := some (30, true) }, { dst := some 45, op := AOp.pick (Opd.t 30) (Opd.t 44) (Opd.c (AV.bool false)), grd := none }]
def c43_21 : ACode := .seq c43_22 c43_23
def c43_20 : ACode := .reg [{ dst := some 14, op := AOp.mv (Opd.t 4), grd := none }, { dst := some 15, op := AOp.bin (BinOp.geq) (Opd.t 14) (Opd.c (AV.int (IntKind.u8) 97)), grd := none }, { dst := some 16, op := AOp.mv (Opd.t 15), grd := none }, { dst := some 17, op := AOp.mv (Opd.t 4), grd := some (16, true) }, { dst := some 18, op := AOp.bin (BinOp.leq) (Opd.t 17) (Opd.c (AV.int (IntKind.u8) 122)), grd := some (16, true) }, { dst := some 19, op := AOp.pick (Opd.t 16) (Opd.t 18) (Opd.c (AV.bool false)), grd := none }, { dst := some 20, op := AOp.mv (Opd.t 19), grd := none }, { dst := some 21, op := AOp.mv (Opd.t 4), grd := some (20, false) }, { dst := some 22, op := AOp.bin (BinOp.geq) (Opd.t 21) (Opd.c (AV.int (IntKind.u8) 65)), grd := some (20, false) }, { dst := some 23, op := AOp.mv (Opd.t 22), grd := some (20, false) }, { dst := some 24, op := AOp.mv (Opd.t 4), grd := some (23, true) }, { dst := some 25, op := AOp.bin (BinOp.leq) (Opd.t 24) (Opd.c (AV.int (IntKind.u8) 90)), grd := some (23, true) }, { dst := some 26, op := AOp.pick (Opd.t 23) (Opd.t 25) (Opd.c (AV.bool false)), grd := some (20, false) }, { dst := some 27, op := AOp.pick (Opd.t 20) (Opd.c (AV.bool true)) (Opd.t 26), grd := none }, { dst := some 5, op := AOp.mv (Opd.t 27), grd := none }]
def c43_19 : ACode := .seq c43_20 c43_21
def c43_18 : ACode := .reg [{ dst := some 11, op := AOp.mv (Opd.t 0), grd := none }, { dst := some 12, op := AOp.mv (Opd.t 3), grd := none }, { dst := some 13, op := AOp.idxs (Opd.t 11) (Opd.t 12), grd := none }, { dst := some 4, op := AOp.mv (Opd.t 13), grd := none }]
def c43_17 : ACode := .seq c43_18 c43_19
def c43_16 : ACode := .reg [{ dst := some 10, op := AOp.mv (Opd.t 8), grd := none }, { dst := some 3, op := AOp.mv (Opd.t 10), grd := none }]
def c43_15 : ACode := .seq c43_16 c43_17
def c43_14 : ACode := .block 1 c43_15
def c43_13 : ACode := .seq c43_14 c43_28
def c43_12 : ACode := .exit 0
def c43_11 : ACode := .skip
def c43_10 : ACode := .cond (.t 9) c43_11 c43_12
def c43_9 : ACode := .seq c43_10 c43_13
def c43_8 : ACode := .reg [{ dst := some 9, op := AOp.bin (BinOp.lss) (Opd.t 8) (Opd.t 7), grd := none }]
def c43_7 : ACode := .seq c43_8 c43_9
def c43_6 : ACode := .loop c43_7
def c43_5 : ACode := .block 0 c43_6
def c43_4 : ACode := .reg [{ dst := some 6, op := AOp.mv (Opd.t 0), grd := none }, { dst := some 7, op := AOp.len 0 (Opd.t 6), grd := none }, { dst := some 8, op := AOp.mv (Opd.c (AV.int (IntKind.i64) 0)), grd := none }]
def c43_3 : ACode := .seq c43_4 c43_5
def c43_2 : ACode := .seq c43_3 c43_29
def c43_1 : ACode := .reg [{ dst := some 2, op := AOp.mv (Opd.c (AV.bool false)), grd := none }]
def c43_0 : ACode := .seq c43_1 c43_2
def A43 : AFun := { np := 1, res := [(2, none)], body := c43_0 }

def c44_4 : ACode := .ret
def c44_3 : ACode := .reg [{ dst := some 5, op := AOp.mv (Opd.t 0), grd := none }, { dst := some 6, op := AOp.mv (Opd.t 1), grd := none }, { dst := some 7, op := AOp.call (Opd.c (AV.fn (AFn.func 55) [] [])) [Opd.t 5, Opd.t 6], grd := none }, { dst := some 8, op := AOp.bin (BinOp.geq) (Opd.t 7) (Opd.c (AV.int (IntKind.i64) 0)), grd := none }, { dst := some 4, op := AOp.mv (Opd.t 8), grd := none }]
def c44_2 : ACode := .seq c44_3 c44_4
def c44_1 : ACode := .reg [{ dst := some 4, op := AOp.mv (Opd.c (AV.bool false)), grd := none }]
def c44_0 : ACode := .seq c44_1 c44_2
def A44 : AFun := { np := 2, res := [(4, none)], body := c44_0 }

def c45_4 : ACode := .ret
def c45_3 : ACode := .reg [{ dst := some 4, op := AOp.fadr 0 (Opd.t 2), grd := none }, { dst := some 5, op := AOp.load false 1 (Opd.t 4), grd := none }, { dst := some 6, op := AOp.fadr 2 (Opd.t 1), grd := none }, { dst := some 7, op := AOp.load false 1 (Opd.t 6), grd := none }, { dst := some 8, op := AOp.bin (BinOp.eql) (Opd.t 5) (Opd.t 7), grd := none }, { dst := some 3, op := AOp.mv (Opd.t 8), grd := none }]
def c45_2 : ACode := .seq c45_3 c45_4
def c45_1 : ACode := .reg [{ dst := some 2, op := AOp.box 3 (Opd.t 0), grd := none }, { dst := some 3, op := AOp.mv (Opd.c (AV.bool false)), grd := none }]
def c45_0 : ACode := .seq c45_1 c45_2
def A45 : AFun := { np := 2, res := [(3, none)], body := c45_0 }

def c46_33 : ACode := .ret
def c46_32 : ACode := .reg [{ dst := some 2, op := AOp.mv (Opd.c (AV.bool true)), grd := none }]
def c46_31 : ACode := .seq c46_32 c46_33
def c46_30 : ACode := .reg [{ dst := some 22, op := AOp.mv (Opd.t 3), grd := none }, { dst := some 23, op := AOp.bin (BinOp.add) (Opd.t 22) (Opd.c (AV.int (IntKind.i64) 1)), grd := none }, { dst := some 3, op := AOp.mv (Opd.t 23), grd := none }]
def c46_29 : ACode := .skip
def c46_28 : ACode := .ret
def c46_27 : ACode := .reg [{ dst := some 2, op := AOp.mv (Opd.c (AV.bool false)), grd := none }]
def c46_26 : ACode := .seq c46_27 c46_28
def c46_25 : ACode := .cond (.t 47) c46_26 c46_29
set_option maxRecDepth 100000 in
def c46_24 : ACode := .reg [{ dst := some 24, op := AOp.mv (Opd.t 0), grd := none }, { dst := some 25, op := AOp.mv (Opd.t 3), grd := none }, { dst := some 26, op := AOp.idxs (Opd.t 24) (Opd.t 25), grd := none }, { dst := some 27, op := AOp.call (Opd.c (AV.fn (AFn.func 56) [] [])) [Opd.t 26], grd := none }, { dst := some 28, op := AOp.not (Opd.t 27), grd := none }, { dst := some 29, op := AOp.mv (Opd.t 28), grd := none }, { dst := some 30, op := AOp.mv (Opd.t 0), grd := some (29, true) }, { dst := some 31, op := AOp.mv (Opd.t 3), grd := some (29, true) }, { dst := some 32, op := AOp.idxs (Opd.t 30) (Opd.t 31), grd := some (29, true) }, { dst := some 33, op := AOp.bin (BinOp.geq) (Opd.t 32) (Opd.c (AV.int (IntKind.u8) 48)), grd := some (29, true) }, { dst := some 34, op := AOp.mv (Opd.t 33), grd := some (29, true) }, { dst := some 35, op := AOp.mv (Opd.t 0), grd := some (34, true) }, { dst := some 36, op := AOp.mv (Opd.t 3), grd := some (34, true) }, { dst := some 37, op := AOp.idxs (Opd.t 35) (Opd.t 36), grd := some (34, true) }, { dst := some 38, op := AOp.bin (BinOp.leq) (Opd.t 37) (Opd.c (AV.int (IntKind.u8) 57)), grd := some (34, true) }, { dst := some 39, op := AOp.pick (Opd.t 34) (Opd.t 38) (Opd.c (AV.bool false)), grd := some (29, true) }, { dst := some 40, op := AOp.not (Opd.t 39), grd := some (29, true) }, { dst := some 41, op := AOp.pick (Opd.t 29) (Opd.t 40) (Opd.c (AV.bool false)), grd := none }, { dst := some 42, op := AOp.mv (Opd.t 41), grd := none }, { dst := some 43, op := AOp.mv (Opd.t 0), grd := some (42, true) }, { dst := some 44, op := AOp.mv (Opd.t 3), grd := some (42, true) }, { dst := some 45, op := AOp.idxs (Opd.t 43) (Opd.t 44), grd := some (42, true) }, { dst := some 46, op := AOp.bin (BinOp.neq) (Opd.t 45) (Opd.c (AV.int (IntKind.u8) 95)), grd := some (42, true) }, { dst := some 47, op := AOp.pick (Opd.t 42) (Opd.t 46) (Opd.c (AV.bool false)), grd := none }]
def c46_23 : ACode := .seq c46_24 c46_25
def c46_22 : ACode := .block 1 c46_23
def c46_21 : ACode := .seq c46_22 c46_30
def c46_20 : ACode := .exit 0
def c46_19 : ACode := .skip
def c46_18 : ACode := .cond (.t 21) c46_19 c46_20
def c46_17 : ACode := .reg [{ dst := some 18, op := AOp.mv (Opd.t 3), grd := none }, { dst := some 19, op := AOp.mv (Opd.t 0), grd := none }, { dst := some 20, op := AOp.len 0 (Opd.t 19), grd := none }, { dst := some 21, op := AOp.bin (BinOp.lss) (Opd.t 18) (Opd.t 20), grd := none }]
def c46_16 : ACode := .seq c46_17 c46_18
def c46_15 : ACode := .seq c46_16 c46_21
def c46_14 : ACode := .loop c46_15
def c46_13 : ACode := .block 0 c46_14
def c46_12 : ACode := .reg [{ dst := some 3, op := AOp.mv (Opd.c (AV.int (IntKind.i64) 0)), grd := none }]
def c46_11 : ACode := .seq c46_12 c46_13
def c46_10 : ACode := .seq c46_11 c46_31
def c46_9 : ACode := .skip
def c46_8 : ACode := .ret
def c46_7 : ACode := .reg [{ dst := some 2, op := AOp.mv (Opd.c (AV.bool false)), grd := none }]
def c46_6 : ACode := .seq c46_7 c46_8
def c46_5 : ACode := .cond (.t 17) c46_6 c46_9
def c46_4 : ACode := .reg [{ dst := some 4, op := AOp.mv (Opd.t 0), grd := none }, { dst := some 5, op := AOp.len 0 (Opd.t 4), grd := none }, { dst := some 6, op := AOp.bin (BinOp.lss) (Opd.t 5) (Opd.c (AV.int (IntKind.i64) 1)), grd := none }, { dst := some 7, op := AOp.mv (Opd.t 6), grd := none }, { dst := some 8, op := AOp.mv (Opd.t 0), grd := some (7, false) }, { dst := some 9, op := AOp.len 0 (Opd.t 8), grd := some (7, false) }, { dst := some 10, op := AOp.bin (BinOp.gtr) (Opd.t 9) (Opd.c (AV.int (IntKind.i64) 64)), grd := some (7, false) }, { dst := some 11, op := AOp.pick (Opd.t 7) (Opd.c (AV.bool true)) (Opd.t 10), grd := none }, { dst := some 12, op := AOp.mv (Opd.t 11), grd := none }, { dst := some 13, op := AOp.mv (Opd.t 0), grd := some (12, false) }, { dst := some 14, op := AOp.idxs (Opd.t 13) (Opd.c (AV.int (IntKind.i64) 0)), grd := some (12, false) }, { dst := some 15, op := AOp.call (Opd.c (AV.fn (AFn.func 56) [] [])) [Opd.t 14], grd := some (12, false) }, { dst := some 16, op := AOp.not (Opd.t 15), grd := some (12, false) }, { dst := some 17, op := AOp.pick (Opd.t 12) (Opd.c (AV.bool true)) (Opd.t 16), grd := none }]
def c46_3 : ACode := .seq c46_4 c46_5
def c46_2 : ACode := .seq c46_3 c46_10
def c46_1 : ACode := .reg [{ dst := some 2, op := AOp.mv (Opd.c (AV.bool false)), grd := none }]
def c46_0 : ACode := .seq c46_1 c46_2
def A46 : AFun := { np := 1, res := [(2, none)], body := c46_0 }

def c47_4 : ACode := .ret
set_option maxRecDepth 100000 in
def c47_3 : ACode := .reg [{ dst := some 3, op := AOp.bslice 38 1 [AV.str []] [(0, Opd.c (AV.str [99, 108, 97, 115, 115])), (1, Opd.c (AV.str [101, 120, 116, 101, 110, 100, 115])), (2, Opd.c (AV.str [114, 117, 108, 101])), (3, Opd.c (AV.str [113, 117, 101, 114, 121])), (4, Opd.c (AV.str [119, 104, 101, 110])), (5, Opd.c (AV.str [116, 104, 101, 110])), (6, Opd.c (AV.str [101, 110, 100])), (7, Opd.c (AV.str [115, 97, 108, 105, 101, 110, 99, 101])), (8, Opd.c (AV.str [103, 114, 111, 117, 112])), (9, Opd.c (AV.str [102, 108, 111, 119])), (10, Opd.c (AV.str [110, 111, 108, 111, 111, 112])), (11, Opd.c (AV.str [108, 111, 99, 107])), (12, Opd.c (AV.str [110, 111, 116])), (13, Opd.c (AV.str [101, 120, 105, 115, 116, 115])), (14, Opd.c (AV.str [102, 111, 114, 97, 108, 108])), (15, Opd.c (AV.str [111, 114])), (16, Opd.c (AV.str [102, 114, 111, 109])), (17, Opd.c (AV.str [101, 118, 97, 108])), (18, Opd.c (AV.str [97, 99, 99])), (19, Opd.c (AV.str [111, 118, 101, 114])), (20, Opd.c (AV.str [105, 110, 115, 101, 114, 116])), (21, Opd.c (AV.str [108, 111, 103, 105, 99, 97, 108])), (22, Opd.c (AV.str [117, 112, 100, 97, 116, 101])), (23, Opd.c (AV.str [100, 101, 108, 101, 116, 101])), (24, Opd.c (AV.str [102, 111, 99, 117, 115])), (25, Opd.c (AV.str [112, 114, 105, 110, 116])), (26, Opd.c (AV.str [104, 97, 108, 116])), (27, Opd.c (AV.str [116, 114, 117, 101])), (28, Opd.c (AV.str [102, 97, 108, 115, 101])), (29, Opd.c (AV.str [110, 117, 108, 108])), (30, Opd.c (AV.str [115, 105, 122, 101])), (31, Opd.c (AV.str [104, 97, 115])), (32, Opd.c (AV.str [105, 110, 116])), (33, Opd.c (AV.str [98, 111, 111, 108])), (34, Opd.c (AV.str [116, 101, 120, 116])), (35, Opd.c (AV.str [108, 105, 115, 116])), (36, Opd.c (AV.str [97, 110, 121])), (37, Opd.c (AV.str [114, 101, 102]))], grd := none }, { dst := some 4, op := AOp.mv (Opd.t 0), grd := none }, { dst := some 5, op := AOp.call (Opd.c (AV.fn (AFn.func 22) [] [])) [Opd.t 3, Opd.t 4], grd := none }, { dst := some 6, op := AOp.bin (BinOp.geq) (Opd.t 5) (Opd.c (AV.int (IntKind.i64) 0)), grd := none }, { dst := some 2, op := AOp.mv (Opd.t 6), grd := none }]
def c47_2 : ACode := .seq c47_3 c47_4
def c47_1 : ACode := .reg [{ dst := some 2, op := AOp.mv (Opd.c (AV.bool false)), grd := none }]
def c47_0 : ACode := .seq c47_1 c47_2
def A47 : AFun := { np := 1, res := [(2, none)], body := c47_0 }

def c48_27 : ACode := .ret
def c48_26 : ACode := .reg [{ dst := some 4, op := AOp.mv (Opd.c (AV.int (IntKind.i64) (-1))), grd := none }]
def c48_25 : ACode := .seq c48_26 c48_27
def c48_24 : ACode := .reg [{ dst := some 18, op := AOp.bin (BinOp.add) (Opd.t 8) (Opd.c (AV.int (IntKind.i64) 1)), grd := none }, { dst := some 8, op := AOp.mv (Opd.t 18), grd := none }]
def c48_23 : ACode := .skip
def c48_22 : ACode := .ret
def c48_21 : ACode := .reg [{ dst := some 17, op := AOp.mv (Opd.t 5), grd := none }, { dst := some 4, op := AOp.mv (Opd.t 17), grd := none }]
def c48_20 : ACode := .seq c48_21 c48_22
def c48_19 : ACode := .cond (.t 16) c48_20 c48_23
def c48_18 : ACode := .reg [{ dst := some 11, op := AOp.mv (Opd.t 1), grd := none }, { dst := some 12, op := AOp.mv (Opd.t 0), grd := none }, { dst := some 13, op := AOp.mv (Opd.t 5), grd := none }, { dst := some 14, op := AOp.iadr 3 (Opd.t 12) (Opd.t 13), grd := none }, { dst := some 15, op := AOp.load true 3 (Opd.t 14), grd := none }, { dst := some 16, op := AOp.call (Opd.t 11) [Opd.t 15], grd := none }]
def c48_17 : ACode := .seq c48_18 c48_19
def c48_16 : ACode := .reg [{ dst := some 10, op := AOp.mv (Opd.t 8), grd := none }, { dst := some 5, op := AOp.mv (Opd.t 10), grd := none }]
def c48_15 : ACode := .seq c48_16 c48_17
def c48_14 : ACode := .block 1 c48_15
def c48_13 : ACode := .seq c48_14 c48_24
def c48_12 : ACode := .exit 0
def c48_11 : ACode := .skip
def c48_10 : ACode := .cond (.t 9) c48_11 c48_12
def c48_9 : ACode := .seq c48_10 c48_13
def c48_8 : ACode := .reg [{ dst := some 9, op := AOp.bin (BinOp.lss) (Opd.t 8) (Opd.t 7), grd := none }]
def c48_7 : ACode := .seq c48_8 c48_9
def c48_6 : ACode := .loop c48_7
def c48_5 : ACode := .block 0 c48_6
def c48_4 : ACode := .reg [{ dst := some 6, op := AOp.mv (Opd.t 0), grd := none }, { dst := some 7, op := AOp.len 1 (Opd.t 6), grd := none }, { dst := some 8, op := AOp.mv (Opd.c (AV.int (IntKind.i64) 0)), grd := none }]
def c48_3 : ACode := .seq c48_4 c48_5
def c48_2 : ACode := .seq c48_3 c48_25
def c48_1 : ACode := .reg [{ dst := some 4, op := AOp.mv (Opd.c (AV.int (IntKind.i64) 0)), grd := none }]
def c48_0 : ACode := .seq c48_1 c48_2
def A48 : AFun := { np := 2, res := [(4, none)], body := c48_0 }

def c49_4 : ACode := .ret
def c49_3 : ACode := .reg [{ dst := some 4, op := AOp.fadr 0 (Opd.t 2), grd := none }, { dst := some 5, op := AOp.load false 1 (Opd.t 4), grd := none }, { dst := some 6, op := AOp.load false 1 (Opd.t 1), grd := none }, { dst := some 7, op := AOp.bin (BinOp.eql) (Opd.t 5) (Opd.t 6), grd := none }, { dst := some 3, op := AOp.mv (Opd.t 7), grd := none }]
def c49_2 : ACode := .seq c49_3 c49_4
def c49_1 : ACode := .reg [{ dst := some 2, op := AOp.box 3 (Opd.t 0), grd := none }, { dst := some 3, op := AOp.mv (Opd.c (AV.bool false)), grd := none }]
def c49_0 : ACode := .seq c49_1 c49_2
def A49 : AFun := { np := 2, res := [(3, none)], body := c49_0 }

def c50_17 : ACode := .dreg [{ dst := some 17, op := AOp.load false 1 (Opd.t 1), grd := none }, { dst := some 18, op := AOp.nilck (Opd.t 17), grd := none }, { dst := some 19, op := AOp.fadr 1 (Opd.t 18), grd := none }, { dst := some 20, op := AOp.load false 1 (Opd.t 19), grd := none }, { dst := some 21, op := AOp.load false 1 (Opd.t 1), grd := none }, { dst := some 22, op := AOp.nilck (Opd.t 21), grd := none }, { dst := some 23, op := AOp.fadr 0 (Opd.t 22), grd := none }, { dst := some 24, op := AOp.load false 1 (Opd.t 23), grd := none }, { dst := some 25, op := AOp.mv (Opd.t 4), grd := none }, { dst := some 26, op := AOp.iadr 3 (Opd.t 24) (Opd.t 25), grd := none }, { dst := some 27, op := AOp.fadr 1 (Opd.t 26), grd := none }, { dst := some 28, op := AOp.load false 1 (Opd.t 27), grd := none }, { dst := some 29, op := AOp.look (KK.leaf (K0.str)) true (AV.int (IntKind.i64) 0) (Opd.t 20) (Opd.t 28), grd := none }, { dst := some 16, op := AOp.mv (Opd.t 29), grd := none }, { dst := some 30, op := AOp.ext (Opd.t 16) 0, grd := none }, { dst := some 31, op := AOp.ext (Opd.t 16) 1, grd := none }] [({ dst := some 4, op := AOp.mv (Opd.t 30), grd := none }, [], [{ dst := some 5, op := AOp.mv (Opd.t 31), grd := none }])]
def c50_16 : ACode := .skip
def c50_15 : ACode := .ret
def c50_14 : ACode := .cond (.t 41) c50_15 c50_16
def c50_13 : ACode := .reg [{ dst := some 32, op := AOp.mv (Opd.t 0), grd := none }, { dst := some 33, op := AOp.load false 1 (Opd.t 1), grd := none }, { dst := some 34, op := AOp.nilck (Opd.t 33), grd := none }, { dst := some 35, op := AOp.fadr 0 (Opd.t 34), grd := none }, { dst := some 36, op := AOp.load false 1 (Opd.t 35), grd := none }, { dst := some 37, op := AOp.mv (Opd.t 4), grd := none }, { dst := some 38, op := AOp.iadr 3 (Opd.t 36) (Opd.t 37), grd := none }, { dst := some 39, op := AOp.load true 3 (Opd.t 38), grd := none }, { dst := some 40, op := AOp.call (Opd.t 32) [Opd.t 39], grd := none }, { dst := some 41, op := AOp.not (Opd.t 40), grd := none }]
def c50_12 : ACode := .seq c50_13 c50_14
def c50_11 : ACode := .block 1 c50_12
def c50_10 : ACode := .seq c50_11 c50_17
def c50_9 : ACode := .exit 0
def c50_8 : ACode := .skip
def c50_7 : ACode := .cond (.t 15) c50_8 c50_9
def c50_6 : ACode := .reg [{ dst := some 15, op := AOp.mv (Opd.t 5), grd := none }]
def c50_5 : ACode := .seq c50_6 c50_7
def c50_4 : ACode := .seq c50_5 c50_10
def c50_3 : ACode := .loop c50_4
def c50_2 : ACode := .block 0 c50_3
def c50_1 : ACode := .dreg [{ dst := some 7, op := AOp.load false 1 (Opd.t 1), grd := none }, { dst := some 8, op := AOp.nilck (Opd.t 7), grd := none }, { dst := some 9, op := AOp.fadr 1 (Opd.t 8), grd := none }, { dst := some 10, op := AOp.load false 1 (Opd.t 9), grd := none }, { dst := some 11, op := AOp.load false 1 (Opd.t 2), grd := none }, { dst := some 12, op := AOp.look (KK.leaf (K0.str)) true (AV.int (IntKind.i64) 0) (Opd.t 10) (Opd.t 11), grd := none }, { dst := some 6, op := AOp.mv (Opd.t 12), grd := none }, { dst := some 13, op := AOp.ext (Opd.t 6) 0, grd := none }, { dst := some 14, op := AOp.ext (Opd.t 6) 1, grd := none }, { dst := some 4, op := AOp.mv (Opd.t 13), grd := none }, { dst := some 5, op := AOp.mv (Opd.t 14), grd := none }] []
def c50_0 : ACode := .seq c50_1 c50_2
def A50 : AFun := { np := 3, res := [], body := c50_0 }

def c51_18 : ACode := .ret
def c51_17 : ACode := .reg [{ dst := some 26, op := AOp.mv (Opd.t 0), grd := none }, { dst := some 4, op := AOp.mv (Opd.t 26), grd := none }]
def c51_16 : ACode := .seq c51_17 c51_18
def c51_15 : ACode := .skip
def c51_14 : ACode := .reg [{ dst := some 17, op := AOp.mv (Opd.t 0), grd := none }, { dst := some 18, op := AOp.mv (Opd.t 0), grd := none }, { dst := some 19, op := AOp.cap (Opd.t 18), grd := none }, { dst := some 20, op := AOp.sl 3 (Opd.t 17) none (some (Opd.t 19)) none, grd := none }, { dst := some 21, op := AOp.mv (Opd.t 1), grd := none }, { dst := some 22, op := AOp.appz 3 40 [AV.str [], AV.int (IntKind.i64) 0, AV.str []] (Opd.t 20) (Opd.t 21), grd := none }, { dst := some 23, op := AOp.mv (Opd.t 0), grd := none }, { dst := some 24, op := AOp.len 1 (Opd.t 23), grd := none }, { dst := some 25, op := AOp.sl 3 (Opd.t 22) none (some (Opd.t 24)) none, grd := none }, { dst := some 0, op := AOp.mv (Opd.t 25), grd := none }]
def c51_13 : ACode := .cond (.t 16) c51_14 c51_15
def c51_12 : ACode := .reg [{ dst := some 15, op := AOp.mv (Opd.t 1), grd := none }, { dst := some 16, op := AOp.bin (BinOp.gtr) (Opd.t 15) (Opd.c (AV.int (IntKind.i64) 0)), grd := none }]
def c51_11 : ACode := .seq c51_12 c51_13
def c51_10 : ACode := .reg [{ dst := some 8, op := AOp.mv (Opd.t 1), grd := none }, { dst := some 9, op := AOp.mv (Opd.t 0), grd := none }, { dst := some 10, op := AOp.cap (Opd.t 9), grd := none }, { dst := some 11, op := AOp.mv (Opd.t 0), grd := none }, { dst := some 12, op := AOp.len 1 (Opd.t 11), grd := none }, { dst := some 13, op := AOp.bin (BinOp.sub) (Opd.t 10) (Opd.t 12), grd := none }, { dst := some 14, op := AOp.bin (BinOp.sub) (Opd.t 8) (Opd.t 13), grd := none }, { dst := some 1, op := AOp.mv (Opd.t 14), grd := none }]
def c51_9 : ACode := .seq c51_10 c51_11
def c51_8 : ACode := .seq c51_9 c51_16
def c51_7 : ACode := .skip
def c51_6 : ACode := .reg [{ dst := some 7, op := AOp.fail, grd := none }, { dst := none, op := AOp.fail, grd := none }]
def c51_5 : ACode := .cond (.t 6) c51_6 c51_7
def c51_4 : ACode := .reg [{ dst := some 5, op := AOp.mv (Opd.t 1), grd := none }, { dst := some 6, op := AOp.bin (BinOp.lss) (Opd.t 5) (Opd.c (AV.int (IntKind.i64) 0)), grd := none }]
def c51_3 : ACode := .seq c51_4 c51_5
def c51_2 : ACode := .seq c51_3 c51_8
def c51_1 : ACode := .reg [{ dst := some 4, op := AOp.mv (Opd.c (AV.nilSlc)), grd := none }]
def c51_0 : ACode := .seq c51_1 c51_2
def A51 : AFun := { np := 2, res := [(4, none)], body := c51_0 }

def c52_66 : ACode := .ret
set_option maxRecDepth 100000 in
def c52_65 : ACode := .reg [{ dst := some 59, op := AOp.fadr 1 (Opd.t 2), grd := none }, { dst := some 60, op := AOp.load false 1 (Opd.t 59), grd := none }, { dst := some 61, op := AOp.fadr 1 (Opd.t 5), grd := none }, { dst := some 62, op := AOp.load false 1 (Opd.t 61), grd := none }, { dst := some 63, op := AOp.eq false (EqK.bool) (Opd.t 60) (Opd.t 62), grd := none }, { dst := some 64, op := AOp.mv (Opd.t 63), grd := none }, { dst := some 65, op := AOp.fadr 2 (Opd.t 2), grd := some (64, true) }, { dst := some 66, op := AOp.load false 1 (Opd.t 65), grd := some (64, true) }, { dst := some 67, op := AOp.fadr 2 (Opd.t 5), grd := some (64, true) }, { dst := some 68, op := AOp.load false 1 (Opd.t 67), grd := some (64, true) }, { dst := some 69, op := AOp.bin (BinOp.eql) (Opd.t 66) (Opd.t 68), grd := some (64, true) }, { dst := some 70, op := AOp.pick (Opd.t 64) (Opd.t 69) (Opd.c (AV.bool false)), grd := none }, { dst := some 71, op := AOp.mv (Opd.t 70), grd := none }, { dst := some 72, op := AOp.fadr 3 (Opd.t 2), grd := some (71, true) }, { dst := some 73, op := AOp.load false 1 (Opd.t 72), grd := some (71, true) }, { dst := some 74, op := AOp.fadr 3 (Opd.t 5), grd := some (71, true) }, { dst := some 75, op := AOp.load false 1 (Opd.t 74), grd := some (71, true) }, { dst := some 76, op := AOp.bin (BinOp.eql) (Opd.t 73) (Opd.t 75), grd := some (71, true) }, { dst := some 77, op := AOp.pick (Opd.t 71) (Opd.t 76) (Opd.c (AV.bool false)), grd := none }, { dst := some 78, op := AOp.mv (Opd.t 77), grd := none }, { dst := some 79, op := AOp.fadr 3 (Opd.t 2), grd := some (78, true) }, { dst := some 80, op := AOp.load false 1 (Opd.t 79), grd := some (78, true) }, { dst := some 81, op := AOp.len 0 (Opd.t 80), grd := some (78, true) }, { dst := some 82, op := AOp.bin (BinOp.leq) (Opd.t 81) (Opd.c (AV.int (IntKind.i64) 65536)), grd := some (78, true) }, { dst := some 83, op := AOp.pick (Opd.t 78) (Opd.t 82) (Opd.c (AV.bool false)), grd := none }, { dst := some 84, op := AOp.mv (Opd.t 83), grd := none }, { dst := some 85, op := AOp.fadr 4 (Opd.t 2), grd := some (84, true) }, { dst := some 86, op := AOp.load false 1 (Opd.t 85), grd := some (84, true) }, { dst := some 87, op := AOp.len 1 (Opd.t 86), grd := some (84, true) }, { dst := some 88, op := AOp.bin (BinOp.eql) (Opd.t 87) (Opd.c (AV.int (IntKind.i64) 0)), grd := some (84, true) }, { dst := some 89, op := AOp.mv (Opd.t 88), grd := some (84, true) }, { dst := some 90, op := AOp.fadr 0 (Opd.t 2), grd := some (89, false) }, { dst := some 91, op := AOp.load false 1 (Opd.t 90), grd := some (89, false) }, { dst := some 92, op := AOp.bin (BinOp.eql) (Opd.t 91) (Opd.c (AV.int (IntKind.i64) 4)), grd := some (89, false) }, { dst := some 93, op := AOp.pick (Opd.t 89) (Opd.c (AV.bool true)) (Opd.t 92), grd := some (84, true) }, { dst := some 94, op := AOp.pick (Opd.t 84) (Opd.t 93) (Opd.c (AV.bool false)), grd := none }, { dst := some 4, op := AOp.mv (Opd.t 94), grd := none }]
def c52_64 : ACode := .seq c52_65 c52_66
def c52_63 : ACode := .ret
def c52_62 : ACode := .reg [{ dst := some 4, op := AOp.mv (Opd.c (AV.bool false)), grd := none }]
def c52_61 : ACode := .seq c52_62 c52_63
def c52_60 : ACode := .reg [{ dst := some 58, op := AOp.bin (BinOp.add) (Opd.t 49) (Opd.c (AV.int (IntKind.i64) 1)), grd := none }, { dst := some 49, op := AOp.mv (Opd.t 58), grd := none }]
def c52_59 : ACode := .skip
def c52_58 : ACode := .ret
def c52_57 : ACode := .reg [{ dst := some 4, op := AOp.mv (Opd.c (AV.bool false)), grd := none }]
def c52_56 : ACode := .seq c52_57 c52_58
def c52_55 : ACode := .cond (.t 57) c52_56 c52_59
def c52_54 : ACode := .reg [{ dst := some 53, op := AOp.load true 5 (Opd.t 7), grd := none }, { dst := some 54, op := AOp.mv (Opd.t 1), grd := none }, { dst := some 55, op := AOp.bin (BinOp.add) (Opd.t 54) (Opd.c (AV.int (IntKind.i64) 1)), grd := none }, { dst := some 56, op := AOp.call (Opd.c (AV.fn (AFn.func 52) [] [])) [Opd.t 53, Opd.t 55], grd := none }, { dst := some 57, op := AOp.not (Opd.t 56), grd := none }]
def c52_53 : ACode := .seq c52_54 c52_55
def c52_52 : ACode := .reg [{ dst := some 51, op := AOp.iadr 5 (Opd.t 47) (Opd.t 49), grd := none }, { dst := some 52, op := AOp.load true 5 (Opd.t 51), grd := none }, { dst := some 7, op := AOp.alloc [AV.int (IntKind.i64) 0, AV.bool false, AV.int (IntKind.i64) 0, AV.str [], AV.nilSlc], grd := none }, { dst := none, op := AOp.store 5 (Opd.t 7) (Opd.t 52), grd := none }]
def c52_51 : ACode := .seq c52_52 c52_53
def c52_50 : ACode := .block 2 c52_51
def c52_49 : ACode := .seq c52_50 c52_60
def c52_48 : ACode := .exit 1
def c52_47 : ACode := .skip
def c52_46 : ACode := .cond (.t 50) c52_47 c52_48
def c52_45 : ACode := .seq c52_46 c52_49
def c52_44 : ACode := .reg [{ dst := some 50, op := AOp.bin (BinOp.lss) (Opd.t 49) (Opd.t 48), grd := none }]
def c52_43 : ACode := .seq c52_44 c52_45
def c52_42 : ACode := .loop c52_43
def c52_41 : ACode := .block 1 c52_42
def c52_40 : ACode := .reg [{ dst := some 46, op := AOp.fadr 4 (Opd.t 2), grd := none }, { dst := some 47, op := AOp.load false 1 (Opd.t 46), grd := none }, { dst := some 48, op := AOp.len 1 (Opd.t 47), grd := none }, { dst := some 49, op := AOp.mv (Opd.c (AV.int (IntKind.i64) 0)), grd := none }]
def c52_39 : ACode := .seq c52_40 c52_41
def c52_38 : ACode := .skip
def c52_37 : ACode := .ret
def c52_36 : ACode := .reg [{ dst := some 4, op := AOp.mv (Opd.c (AV.bool false)), grd := none }]
def c52_35 : ACode := .seq c52_36 c52_37
def c52_34 : ACode := .cond (.t 45) c52_35 c52_38
def c52_33 : ACode := .reg [{ dst := some 38, op := AOp.mv (Opd.t 1), grd := none }, { dst := some 39, op := AOp.bin (BinOp.geq) (Opd.t 38) (Opd.c (AV.int (IntKind.i64) 30)), grd := none }, { dst := some 40, op := AOp.mv (Opd.t 39), grd := none }, { dst := some 41, op := AOp.fadr 4 (Opd.t 2), grd := some (40, false) }, { dst := some 42, op := AOp.load false 1 (Opd.t 41), grd := some (40, false) }, { dst := some 43, op := AOp.len 1 (Opd.t 42), grd := some (40, false) }, { dst := some 44, op := AOp.bin (BinOp.gtr) (Opd.t 43) (Opd.c (AV.int (IntKind.i64) 4096)), grd := some (40, false) }, { dst := some 45, op := AOp.pick (Opd.t 40) (Opd.c (AV.bool true)) (Opd.t 44), grd := none }]
def c52_32 : ACode := .seq c52_33 c52_34
def c52_31 : ACode := .seq c52_32 c52_39
def c52_30 : ACode := .cond (.t 36) c52_31 c52_61
def c52_29 : ACode := .reg [{ dst := some 37, op := AOp.bin (BinOp.eql) (Opd.t 12) (Opd.c (AV.int (IntKind.i64) 4)), grd := none }, { dst := some 36, op := AOp.mv (Opd.t 37), grd := none }]
def c52_28 : ACode := .seq c52_29 c52_30
def c52_27 : ACode := .reg [{ dst := some 33, op := AOp.fadr 3 (Opd.t 2), grd := none }, { dst := some 34, op := AOp.load false 1 (Opd.t 33), grd := none }, { dst := some 35, op := AOp.fadr 3 (Opd.t 5), grd := none }, { dst := none, op := AOp.store 1 (Opd.t 35) (Opd.t 34), grd := none }]
def c52_26 : ACode := .cond (.t 31) c52_27 c52_28
def c52_25 : ACode := .reg [{ dst := some 32, op := AOp.bin (BinOp.eql) (Opd.t 12) (Opd.c (AV.int (IntKind.i64) 3)), grd := none }, { dst := some 31, op := AOp.mv (Opd.t 32), grd := none }]
def c52_24 : ACode := .seq c52_25 c52_26
def c52_23 : ACode := .reg [{ dst := some 27, op := AOp.fadr 2 (Opd.t 2), grd := none }, { dst := some 28, op := AOp.load false 1 (Opd.t 27), grd := none }, { dst := some 29, op := AOp.mm true [Opd.t 28, Opd.c (AV.int (IntKind.i64) 1)], grd := none }, { dst := some 30, op := AOp.fadr 2 (Opd.t 5), grd := none }, { dst := none, op := AOp.store 1 (Opd.t 30) (Opd.t 29), grd := none }]
def c52_22 : ACode := .cond (.t 25) c52_23 c52_24
def c52_21 : ACode := .reg [{ dst := some 26, op := AOp.bin (BinOp.eql) (Opd.t 12) (Opd.c (AV.int (IntKind.i64) 5)), grd := none }, { dst := some 25, op := AOp.mv (Opd.t 26), grd := none }]
def c52_20 : ACode := .seq c52_21 c52_22
def c52_19 : ACode := .reg [{ dst := some 22, op := AOp.fadr 2 (Opd.t 2), grd := none }, { dst := some 23, op := AOp.load false 1 (Opd.t 22), grd := none }, { dst := some 24, op := AOp.fadr 2 (Opd.t 5), grd := none }, { dst := none, op := AOp.store 1 (Opd.t 24) (Opd.t 23), grd := none }]
def c52_18 : ACode := .cond (.t 20) c52_19 c52_20
def c52_17 : ACode := .reg [{ dst := some 21, op := AOp.bin (BinOp.eql) (Opd.t 12) (Opd.c (AV.int (IntKind.i64) 2)), grd := none }, { dst := some 20, op := AOp.mv (Opd.t 21), grd := none }]
def c52_16 : ACode := .seq c52_17 c52_18
def c52_15 : ACode := .reg [{ dst := some 17, op := AOp.fadr 1 (Opd.t 2), grd := none }, { dst := some 18, op := AOp.load false 1 (Opd.t 17), grd := none }, { dst := some 19, op := AOp.fadr 1 (Opd.t 5), grd := none }, { dst := none, op := AOp.store 1 (Opd.t 19) (Opd.t 18), grd := none }]
def c52_14 : ACode := .cond (.t 15) c52_15 c52_16
def c52_13 : ACode := .reg [{ dst := some 16, op := AOp.bin (BinOp.eql) (Opd.t 12) (Opd.c (AV.int (IntKind.i64) 1)), grd := none }, { dst := some 15, op := AOp.mv (Opd.t 16), grd := none }]
def c52_12 : ACode := .seq c52_13 c52_14
def c52_11 : ACode := .skip
def c52_10 : ACode := .cond (.t 13) c52_11 c52_12
def c52_9 : ACode := .reg [{ dst := some 14, op := AOp.bin (BinOp.eql) (Opd.t 12) (Opd.c (AV.int (IntKind.i64) 0)), grd := none }, { dst := some 13, op := AOp.mv (Opd.t 14), grd := none }]
def c52_8 : ACode := .seq c52_9 c52_10
def c52_7 : ACode := .block 0 c52_8
def c52_6 : ACode := .reg [{ dst := some 11, op := AOp.fadr 0 (Opd.t 2), grd := none }, { dst := some 12, op := AOp.load false 1 (Opd.t 11), grd := none }]
def c52_5 : ACode := .seq c52_6 c52_7
def c52_4 : ACode := .seq c52_5 c52_64
def c52_3 : ACode := .reg [{ dst := some 8, op := AOp.fadr 0 (Opd.t 2), grd := none }, { dst := some 9, op := AOp.load false 1 (Opd.t 8), grd := none }, { dst := some 10, op := AOp.build [AV.int (IntKind.i64) 0, AV.bool false, AV.int (IntKind.i64) 0, AV.str [], AV.nilSlc] [(0, 1, Opd.t 9)], grd := none }, { dst := some 5, op := AOp.alloc [AV.int (IntKind.i64) 0, AV.bool false, AV.int (IntKind.i64) 0, AV.str [], AV.nilSlc], grd := none }, { dst := none, op := AOp.store 5 (Opd.t 5) (Opd.t 10), grd := none }]
def c52_2 : ACode := .seq c52_3 c52_4
def c52_1 : ACode := .reg [{ dst := some 2, op := AOp.box 5 (Opd.t 0), grd := none }, { dst := some 4, op := AOp.mv (Opd.c (AV.bool false)), grd := none }]
def c52_0 : ACode := .seq c52_1 c52_2
def A52 : AFun := { np := 2, res := [(4, none)], body := c52_0 }

def c53_82 : ACode := .ret
def c53_81 : ACode := .reg [{ dst := some 4, op := AOp.mv (Opd.c (AV.bool false)), grd := none }]
def c53_80 : ACode := .seq c53_81 c53_82
def c53_79 : ACode := .skip
def c53_78 : ACode := .ret
def c53_77 : ACode := .reg [{ dst := some 4, op := AOp.mv (Opd.c (AV.bool true)), grd := none }]
def c53_76 : ACode := .seq c53_77 c53_78
def c53_75 : ACode := .reg [{ dst := some 123, op := AOp.mv (Opd.t 9), grd := none }, { dst := some 124, op := AOp.bin (BinOp.add) (Opd.t 123) (Opd.c (AV.int (IntKind.i64) 1)), grd := none }, { dst := some 9, op := AOp.mv (Opd.t 124), grd := none }]
def c53_74 : ACode := .skip
def c53_73 : ACode := .ret
def c53_72 : ACode := .reg [{ dst := some 4, op := AOp.mv (Opd.c (AV.bool false)), grd := none }]
def c53_71 : ACode := .seq c53_72 c53_73
def c53_70 : ACode := .cond (.t 133) c53_71 c53_74
def c53_69 : ACode := .reg [{ dst := some 125, op := AOp.fadr 4 (Opd.t 2), grd := none }, { dst := some 126, op := AOp.load false 1 (Opd.t 125), grd := none }, { dst := some 127, op := AOp.mv (Opd.t 9), grd := none }, { dst := some 128, op := AOp.iadr 5 (Opd.t 126) (Opd.t 127), grd := none }, { dst := some 129, op := AOp.load true 5 (Opd.t 128), grd := none }, { dst := some 130, op := AOp.mv (Opd.t 1), grd := none }, { dst := some 131, op := AOp.bin (BinOp.add) (Opd.t 130) (Opd.c (AV.int (IntKind.i64) 1)), grd := none }, { dst := some 132, op := AOp.call (Opd.c (AV.fn (AFn.func 53) [] [])) [Opd.t 129, Opd.t 131], grd := none }, { dst := some 133, op := AOp.not (Opd.t 132), grd := none }]
def c53_68 : ACode := .seq c53_69 c53_70
def c53_67 : ACode := .block 2 c53_68
def c53_66 : ACode := .seq c53_67 c53_75
def c53_65 : ACode := .exit 1
def c53_64 : ACode := .skip
def c53_63 : ACode := .cond (.t 122) c53_64 c53_65
def c53_62 : ACode := .reg [{ dst := some 118, op := AOp.mv (Opd.t 9), grd := none }, { dst := some 119, op := AOp.fadr 4 (Opd.t 2), grd := none }, { dst := some 120, op := AOp.load false 1 (Opd.t 119), grd := none }, { dst := some 121, op := AOp.len 1 (Opd.t 120), grd := none }, { dst := some 122, op := AOp.bin (BinOp.lss) (Opd.t 118) (Opd.t 121), grd := none }]
def c53_61 : ACode := .seq c53_62 c53_63
def c53_60 : ACode := .seq c53_61 c53_66
def c53_59 : ACode := .loop c53_60
def c53_58 : ACode := .block 1 c53_59
def c53_57 : ACode := .reg [{ dst := some 9, op := AOp.mv (Opd.c (AV.int (IntKind.i64) 0)), grd := none }]
def c53_56 : ACode := .seq c53_57 c53_58
def c53_55 : ACode := .seq c53_56 c53_76
def c53_54 : ACode := .skip
def c53_53 : ACode := .ret
def c53_52 : ACode := .reg [{ dst := some 4, op := AOp.mv (Opd.c (AV.bool false)), grd := none }]
def c53_51 : ACode := .seq c53_52 c53_53
def c53_50 : ACode := .cond (.t 117) c53_51 c53_54
def c53_49 : ACode := .reg [{ dst := some 101, op := AOp.mv (Opd.t 5), grd := none }, { dst := some 102, op := AOp.mv (Opd.t 101), grd := none }, { dst := some 103, op := AOp.mv (Opd.t 6), grd := some (102, false) }, { dst := some 104, op := AOp.pick (Opd.t 102) (Opd.c (AV.bool true)) (Opd.t 103), grd := none }, { dst := some 105, op := AOp.mv (Opd.t 104), grd := none }, { dst := some 106, op := AOp.mv (Opd.t 7), grd := some (105, false) }, { dst := some 107, op := AOp.pick (Opd.t 105) (Opd.c (AV.bool true)) (Opd.t 106), grd := none }, { dst := some 108, op := AOp.mv (Opd.t 107), grd := none }, { dst := some 109, op := AOp.fadr 4 (Opd.t 2), grd := some (108, false) }, { dst := some 110, op := AOp.load false 1 (Opd.t 109), grd := some (108, false) }, { dst := some 111, op := AOp.len 1 (Opd.t 110), grd := some (108, false) }, { dst := some 112, op := AOp.bin (BinOp.gtr) (Opd.t 111) (Opd.c (AV.int (IntKind.i64) 4096)), grd := some (108, false) }, { dst := some 113, op := AOp.pick (Opd.t 108) (Opd.c (AV.bool true)) (Opd.t 112), grd := none }, { dst := some 114, op := AOp.mv (Opd.t 113), grd := none }, { dst := some 115, op := AOp.mv (Opd.t 1), grd := some (114, false) }, { dst := some 116, op := AOp.bin (BinOp.geq) (Opd.t 115) (Opd.c (AV.int (IntKind.i64) 30)), grd := some (114, false) }, { dst := some 117, op := AOp.pick (Opd.t 114) (Opd.c (AV.bool true)) (Opd.t 116), grd := none }]
def c53_48 : ACode := .seq c53_49 c53_50
def c53_47 : ACode := .seq c53_48 c53_55
def c53_46 : ACode := .cond (.t 99) c53_47 c53_79
def c53_45 : ACode := .reg [{ dst := some 100, op := AOp.bin (BinOp.eql) (Opd.t 23) (Opd.c (AV.int (IntKind.i64) 4)), grd := none }, { dst := some 99, op := AOp.mv (Opd.t 100), grd := none }]
def c53_44 : ACode := .seq c53_45 c53_46
def c53_43 : ACode := .ret
def c53_42 : ACode := .reg [{ dst := some 84, op := AOp.mv (Opd.t 5), grd := none }, { dst := some 85, op := AOp.not (Opd.t 84), grd := none }, { dst := some 86, op := AOp.mv (Opd.t 85), grd := none }, { dst := some 87, op := AOp.mv (Opd.t 7), grd := some (86, true) }, { dst := some 88, op := AOp.not (Opd.t 87), grd := some (86, true) }, { dst := some 89, op := AOp.pick (Opd.t 86) (Opd.t 88) (Opd.c (AV.bool false)), grd := none }, { dst := some 90, op := AOp.mv (Opd.t 89), grd := none }, { dst := some 91, op := AOp.mv (Opd.t 8), grd := some (90, true) }, { dst := some 92, op := AOp.not (Opd.t 91), grd := some (90, true) }, { dst := some 93, op := AOp.pick (Opd.t 90) (Opd.t 92) (Opd.c (AV.bool false)), grd := none }, { dst := some 94, op := AOp.mv (Opd.t 93), grd := none }, { dst := some 95, op := AOp.fadr 2 (Opd.t 2), grd := some (94, true) }, { dst := some 96, op := AOp.load false 1 (Opd.t 95), grd := some (94, true) }, { dst := some 97, op := AOp.bin (BinOp.geq) (Opd.t 96) (Opd.c (AV.int (IntKind.i64) 1)), grd := some (94, true) }, { dst := some 98, op := AOp.pick (Opd.t 94) (Opd.t 97) (Opd.c (AV.bool false)), grd := none }, { dst := some 4, op := AOp.mv (Opd.t 98), grd := none }]
def c53_41 : ACode := .seq c53_42 c53_43
def c53_40 : ACode := .cond (.t 82) c53_41 c53_44
def c53_39 : ACode := .reg [{ dst := some 83, op := AOp.bin (BinOp.eql) (Opd.t 23) (Opd.c (AV.int (IntKind.i64) 5)), grd := none }, { dst := some 82, op := AOp.mv (Opd.t 83), grd := none }]
def c53_38 : ACode := .seq c53_39 c53_40
def c53_37 : ACode := .ret
def c53_36 : ACode := .reg [{ dst := some 66, op := AOp.mv (Opd.t 5), grd := none }, { dst := some 67, op := AOp.not (Opd.t 66), grd := none }, { dst := some 68, op := AOp.mv (Opd.t 67), grd := none }, { dst := some 69, op := AOp.mv (Opd.t 6), grd := some (68, true) }, { dst := some 70, op := AOp.not (Opd.t 69), grd := some (68, true) }, { dst := some 71, op := AOp.pick (Opd.t 68) (Opd.t 70) (Opd.c (AV.bool false)), grd := none }, { dst := some 72, op := AOp.mv (Opd.t 71), grd := none }, { dst := some 73, op := AOp.mv (Opd.t 8), grd := some (72, true) }, { dst := some 74, op := AOp.not (Opd.t 73), grd := some (72, true) }, { dst := some 75, op := AOp.pick (Opd.t 72) (Opd.t 74) (Opd.c (AV.bool false)), grd := none }, { dst := some 76, op := AOp.mv (Opd.t 75), grd := none }, { dst := some 77, op := AOp.fadr 3 (Opd.t 2), grd := some (76, true) }, { dst := some 78, op := AOp.load false 1 (Opd.t 77), grd := some (76, true) }, { dst := some 79, op := AOp.len 0 (Opd.t 78), grd := some (76, true) }, { dst := some 80, op := AOp.bin (BinOp.leq) (Opd.t 79) (Opd.c (AV.int (IntKind.i64) 65536)), grd := some (76, true) }, { dst := some 81, op := AOp.pick (Opd.t 76) (Opd.t 80) (Opd.c (AV.bool false)), grd := none }, { dst := some 4, op := AOp.mv (Opd.t 81), grd := none }]
def c53_35 : ACode := .seq c53_36 c53_37
def c53_34 : ACode := .cond (.t 64) c53_35 c53_38
def c53_33 : ACode := .reg [{ dst := some 65, op := AOp.bin (BinOp.eql) (Opd.t 23) (Opd.c (AV.int (IntKind.i64) 3)), grd := none }, { dst := some 64, op := AOp.mv (Opd.t 65), grd := none }]
def c53_32 : ACode := .seq c53_33 c53_34
def c53_31 : ACode := .ret
def c53_30 : ACode := .reg [{ dst := some 54, op := AOp.mv (Opd.t 5), grd := none }, { dst := some 55, op := AOp.not (Opd.t 54), grd := none }, { dst := some 56, op := AOp.mv (Opd.t 55), grd := none }, { dst := some 57, op := AOp.mv (Opd.t 7), grd := some (56, true) }, { dst := some 58, op := AOp.not (Opd.t 57), grd := some (56, true) }, { dst := some 59, op := AOp.pick (Opd.t 56) (Opd.t 58) (Opd.c (AV.bool false)), grd := none }, { dst := some 60, op := AOp.mv (Opd.t 59), grd := none }, { dst := some 61, op := AOp.mv (Opd.t 8), grd := some (60, true) }, { dst := some 62, op := AOp.not (Opd.t 61), grd := some (60, true) }, { dst := some 63, op := AOp.pick (Opd.t 60) (Opd.t 62) (Opd.c (AV.bool false)), grd := none }, { dst := some 4, op := AOp.mv (Opd.t 63), grd := none }]
def c53_29 : ACode := .seq c53_30 c53_31
def c53_28 : ACode := .cond (.t 52) c53_29 c53_32
def c53_27 : ACode := .reg [{ dst := some 53, op := AOp.bin (BinOp.eql) (Opd.t 23) (Opd.c (AV.int (IntKind.i64) 2)), grd := none }, { dst := some 52, op := AOp.mv (Opd.t 53), grd := none }]
def c53_26 : ACode := .seq c53_27 c53_28
def c53_25 : ACode := .ret
def c53_24 : ACode := .reg [{ dst := some 42, op := AOp.mv (Opd.t 6), grd := none }, { dst := some 43, op := AOp.not (Opd.t 42), grd := none }, { dst := some 44, op := AOp.mv (Opd.t 43), grd := none }, { dst := some 45, op := AOp.mv (Opd.t 7), grd := some (44, true) }, { dst := some 46, op := AOp.not (Opd.t 45), grd := some (44, true) }, { dst := some 47, op := AOp.pick (Opd.t 44) (Opd.t 46) (Opd.c (AV.bool false)), grd := none }, { dst := some 48, op := AOp.mv (Opd.t 47), grd := none }, { dst := some 49, op := AOp.mv (Opd.t 8), grd := some (48, true) }, { dst := some 50, op := AOp.not (Opd.t 49), grd := some (48, true) }, { dst := some 51, op := AOp.pick (Opd.t 48) (Opd.t 50) (Opd.c (AV.bool false)), grd := none }, { dst := some 4, op := AOp.mv (Opd.t 51), grd := none }]
def c53_23 : ACode := .seq c53_24 c53_25
def c53_22 : ACode := .cond (.t 40) c53_23 c53_26
def c53_21 : ACode := .reg [{ dst := some 41, op := AOp.bin (BinOp.eql) (Opd.t 23) (Opd.c (AV.int (IntKind.i64) 1)), grd := none }, { dst := some 40, op := AOp.mv (Opd.t 41), grd := none }]
def c53_20 : ACode := .seq c53_21 c53_22
def c53_19 : ACode := .ret
def c53_18 : ACode := .reg [{ dst := some 26, op := AOp.mv (Opd.t 5), grd := none }, { dst := some 27, op := AOp.not (Opd.t 26), grd := none }, { dst := some 28, op := AOp.mv (Opd.t 27), grd := none }, { dst := some 29, op := AOp.mv (Opd.t 6), grd := some (28, true) }, { dst := some 30, op := AOp.not (Opd.t 29), grd := some (28, true) }, { dst := some 31, op := AOp.pick (Opd.t 28) (Opd.t 30) (Opd.c (AV.bool false)), grd := none }, { dst := some 32, op := AOp.mv (Opd.t 31), grd := none }, { dst := some 33, op := AOp.mv (Opd.t 7), grd := some (32, true) }, { dst := some 34, op := AOp.not (Opd.t 33), grd := some (32, true) }, { dst := some 35, op := AOp.pick (Opd.t 32) (Opd.t 34) (Opd.c (AV.bool false)), grd := none }, { dst := some 36, op := AOp.mv (Opd.t 35), grd := none }, { dst := some 37, op := AOp.mv (Opd.t 8), grd := some (36, true) }, { dst := some 38, op := AOp.not (Opd.t 37), grd := some (36, true) }, { dst := some 39, op := AOp.pick (Opd.t 36) (Opd.t 38) (Opd.c (AV.bool false)), grd := none }, { dst := some 4, op := AOp.mv (Opd.t 39), grd := none }]
def c53_17 : ACode := .seq c53_18 c53_19
def c53_16 : ACode := .cond (.t 24) c53_17 c53_20
def c53_15 : ACode := .reg [{ dst := some 25, op := AOp.bin (BinOp.eql) (Opd.t 23) (Opd.c (AV.int (IntKind.i64) 0)), grd := none }, { dst := some 24, op := AOp.mv (Opd.t 25), grd := none }]
def c53_14 : ACode := .seq c53_15 c53_16
def c53_13 : ACode := .block 0 c53_14
def c53_12 : ACode := .reg [{ dst := some 22, op := AOp.fadr 0 (Opd.t 2), grd := none }, { dst := some 23, op := AOp.load false 1 (Opd.t 22), grd := none }]
def c53_11 : ACode := .seq c53_12 c53_13
def c53_10 : ACode := .seq c53_11 c53_80
def c53_9 : ACode := .reg [{ dst := some 18, op := AOp.fadr 4 (Opd.t 2), grd := none }, { dst := some 19, op := AOp.load false 1 (Opd.t 18), grd := none }, { dst := some 20, op := AOp.len 1 (Opd.t 19), grd := none }, { dst := some 21, op := AOp.bin (BinOp.gtr) (Opd.t 20) (Opd.c (AV.int (IntKind.i64) 0)), grd := none }, { dst := some 8, op := AOp.mv (Opd.t 21), grd := none }]
def c53_8 : ACode := .seq c53_9 c53_10
def c53_7 : ACode := .reg [{ dst := some 15, op := AOp.fadr 3 (Opd.t 2), grd := none }, { dst := some 16, op := AOp.load false 1 (Opd.t 15), grd := none }, { dst := some 17, op := AOp.bin (BinOp.neq) (Opd.t 16) (Opd.c (AV.str [])), grd := none }, { dst := some 7, op := AOp.mv (Opd.t 17), grd := none }]
def c53_6 : ACode := .seq c53_7 c53_8
def c53_5 : ACode := .reg [{ dst := some 12, op := AOp.fadr 2 (Opd.t 2), grd := none }, { dst := some 13, op := AOp.load false 1 (Opd.t 12), grd := none }, { dst := some 14, op := AOp.bin (BinOp.neq) (Opd.t 13) (Opd.c (AV.int (IntKind.i64) 0)), grd := none }, { dst := some 6, op := AOp.mv (Opd.t 14), grd := none }]
def c53_4 : ACode := .seq c53_5 c53_6
def c53_3 : ACode := .reg [{ dst := some 10, op := AOp.fadr 1 (Opd.t 2), grd := none }, { dst := some 11, op := AOp.load false 1 (Opd.t 10), grd := none }, { dst := some 5, op := AOp.mv (Opd.t 11), grd := none }]
def c53_2 : ACode := .seq c53_3 c53_4
def c53_1 : ACode := .reg [{ dst := some 2, op := AOp.box 5 (Opd.t 0), grd := none }, { dst := some 4, op := AOp.mv (Opd.c (AV.bool false)), grd := none }]
def c53_0 : ACode := .seq c53_1 c53_2
def A53 : AFun := { np := 2, res := [(4, none)], body := c53_0 }

def c54_163 : ACode := .ret
def c54_162 : ACode := .reg [{ dst := some 2, op := AOp.mv (Opd.c (AV.bool false)), grd := none }]
def c54_161 : ACode := .seq c54_162 c54_163
def c54_160 : ACode := .skip
def c54_159 : ACode := .ret
def c54_158 : ACode := .reg [{ dst := some 2, op := AOp.mv (Opd.c (AV.bool true)), grd := none }]
def c54_157 : ACode := .seq c54_158 c54_159
def c54_156 : ACode := .cond (.t 4) c54_157 c54_160
def c54_155 : ACode := .reg [{ dst := some 42, op := AOp.bin (BinOp.eql) (Opd.t 3) (Opd.c (AV.str [114, 101, 102])), grd := none }, { dst := some 4, op := AOp.mv (Opd.t 42), grd := none }]
def c54_154 : ACode := .skip
def c54_153 : ACode := .cond (.t 4) c54_154 c54_155
def c54_152 : ACode := .reg [{ dst := some 41, op := AOp.bin (BinOp.eql) (Opd.t 3) (Opd.c (AV.str [97, 110, 121])), grd := none }, { dst := some 4, op := AOp.mv (Opd.t 41), grd := none }]
def c54_151 : ACode := .seq c54_152 c54_153
def c54_150 : ACode := .skip
def c54_149 : ACode := .cond (.t 4) c54_150 c54_151
def c54_148 : ACode := .reg [{ dst := some 40, op := AOp.bin (BinOp.eql) (Opd.t 3) (Opd.c (AV.str [108, 105, 115, 116])), grd := none }, { dst := some 4, op := AOp.mv (Opd.t 40), grd := none }]
def c54_147 : ACode := .seq c54_148 c54_149
def c54_146 : ACode := .skip
def c54_145 : ACode := .cond (.t 4) c54_146 c54_147
def c54_144 : ACode := .reg [{ dst := some 39, op := AOp.bin (BinOp.eql) (Opd.t 3) (Opd.c (AV.str [116, 101, 120, 116])), grd := none }, { dst := some 4, op := AOp.mv (Opd.t 39), grd := none }]
def c54_143 : ACode := .seq c54_144 c54_145
def c54_142 : ACode := .skip
def c54_141 : ACode := .cond (.t 4) c54_142 c54_143
def c54_140 : ACode := .reg [{ dst := some 38, op := AOp.bin (BinOp.eql) (Opd.t 3) (Opd.c (AV.str [98, 111, 111, 108])), grd := none }, { dst := some 4, op := AOp.mv (Opd.t 38), grd := none }]
def c54_139 : ACode := .seq c54_140 c54_141
def c54_138 : ACode := .skip
def c54_137 : ACode := .cond (.t 4) c54_138 c54_139
def c54_136 : ACode := .reg [{ dst := some 37, op := AOp.bin (BinOp.eql) (Opd.t 3) (Opd.c (AV.str [105, 110, 116])), grd := none }, { dst := some 4, op := AOp.mv (Opd.t 37), grd := none }]
def c54_135 : ACode := .seq c54_136 c54_137
def c54_134 : ACode := .skip
def c54_133 : ACode := .cond (.t 4) c54_134 c54_135
def c54_132 : ACode := .reg [{ dst := some 36, op := AOp.bin (BinOp.eql) (Opd.t 3) (Opd.c (AV.str [104, 97, 115])), grd := none }, { dst := some 4, op := AOp.mv (Opd.t 36), grd := none }]
def c54_131 : ACode := .seq c54_132 c54_133
def c54_130 : ACode := .skip
def c54_129 : ACode := .cond (.t 4) c54_130 c54_131
def c54_128 : ACode := .reg [{ dst := some 35, op := AOp.bin (BinOp.eql) (Opd.t 3) (Opd.c (AV.str [115, 105, 122, 101])), grd := none }, { dst := some 4, op := AOp.mv (Opd.t 35), grd := none }]
def c54_127 : ACode := .seq c54_128 c54_129
def c54_126 : ACode := .skip
def c54_125 : ACode := .cond (.t 4) c54_126 c54_127
def c54_124 : ACode := .reg [{ dst := some 34, op := AOp.bin (BinOp.eql) (Opd.t 3) (Opd.c (AV.str [110, 117, 108, 108])), grd := none }, { dst := some 4, op := AOp.mv (Opd.t 34), grd := none }]
def c54_123 : ACode := .seq c54_124 c54_125
def c54_122 : ACode := .skip
def c54_121 : ACode := .cond (.t 4) c54_122 c54_123
def c54_120 : ACode := .reg [{ dst := some 33, op := AOp.bin (BinOp.eql) (Opd.t 3) (Opd.c (AV.str [102, 97, 108, 115, 101])), grd := none }, { dst := some 4, op := AOp.mv (Opd.t 33), grd := none }]
def c54_119 : ACode := .seq c54_120 c54_121
def c54_118 : ACode := .skip
def c54_117 : ACode := .cond (.t 4) c54_118 c54_119
def c54_116 : ACode := .reg [{ dst := some 32, op := AOp.bin (BinOp.eql) (Opd.t 3) (Opd.c (AV.str [116, 114, 117, 101])), grd := none }, { dst := some 4, op := AOp.mv (Opd.t 32), grd := none }]
def c54_115 : ACode := .seq c54_116 c54_117
def c54_114 : ACode := .skip
def c54_113 : ACode := .cond (.t 4) c54_114 c54_115
def c54_112 : ACode := .reg [{ dst := some 31, op := AOp.bin (BinOp.eql) (Opd.t 3) (Opd.c (AV.str [104, 97, 108, 116])), grd := none }, { dst := some 4, op := AOp.mv (Opd.t 31), grd := none }]
def c54_111 : ACode := .seq c54_112 c54_113
def c54_110 : ACode := .skip
def c54_109 : ACode := .cond (.t 4) c54_110 c54_111
def c54_108 : ACode := .reg [{ dst := some 30, op := AOp.bin (BinOp.eql) (Opd.t 3) (Opd.c (AV.str [112, 114, 105, 110, 116])), grd := none }, { dst := some 4, op := AOp.mv (Opd.t 30), grd := none }]
def c54_107 : ACode := .seq c54_108 c54_109
def c54_106 : ACode := .skip
def c54_105 : ACode := .cond (.t 4) c54_106 c54_107
def c54_104 : ACode := .reg [{ dst := some 29, op := AOp.bin (BinOp.eql) (Opd.t 3) (Opd.c (AV.str [102, 111, 99, 117, 115])), grd := none }, { dst := some 4, op := AOp.mv (Opd.t 29), grd := none }]
def c54_103 : ACode := .seq c54_104 c54_105
def c54_102 : ACode := .skip
def c54_101 : ACode := .cond (.t 4) c54_102 c54_103
def c54_100 : ACode := .reg [{ dst := some 28, op := AOp.bin (BinOp.eql) (Opd.t 3) (Opd.c (AV.str [100, 101, 108, 101, 116, 101])), grd := none }, { dst := some 4, op := AOp.mv (Opd.t 28), grd := none }]
def c54_99 : ACode := .seq c54_100 c54_101
def c54_98 : ACode := .skip
def c54_97 : ACode := .cond (.t 4) c54_98 c54_99
def c54_96 : ACode := .reg [{ dst := some 27, op := AOp.bin (BinOp.eql) (Opd.t 3) (Opd.c (AV.str [117, 112, 100, 97, 116, 101])), grd := none }, { dst := some 4, op := AOp.mv (Opd.t 27), grd := none }]
def c54_95 : ACode := .seq c54_96 c54_97
def c54_94 : ACode := .skip
def c54_93 : ACode := .cond (.t 4) c54_94 c54_95
def c54_92 : ACode := .reg [{ dst := some 26, op := AOp.bin (BinOp.eql) (Opd.t 3) (Opd.c (AV.str [108, 111, 103, 105, 99, 97, 108])), grd := none }, { dst := some 4, op := AOp.mv (Opd.t 26), grd := none }]
def c54_91 : ACode := .seq c54_92 c54_93
def c54_90 : ACode := .skip
def c54_89 : ACode := .cond (.t 4) c54_90 c54_91
def c54_88 : ACode := .reg [{ dst := some 25, op := AOp.bin (BinOp.eql) (Opd.t 3) (Opd.c (AV.str [105, 110, 115, 101, 114, 116])), grd := none }, { dst := some 4, op := AOp.mv (Opd.t 25), grd := none }]
def c54_87 : ACode := .seq c54_88 c54_89
def c54_86 : ACode := .skip
def c54_85 : ACode := .cond (.t 4) c54_86 c54_87
def c54_84 : ACode := .reg [{ dst := some 24, op := AOp.bin (BinOp.eql) (Opd.t 3) (Opd.c (AV.str [111, 118, 101, 114])), grd := none }, { dst := some 4, op := AOp.mv (Opd.t 24), grd := none }]
def c54_83 : ACode := .seq c54_84 c54_85
def c54_82 : ACode := .skip
def c54_81 : ACode := .cond (.t 4) c54_82 c54_83
def c54_80 : ACode := .reg [{ dst := some 23, op := AOp.bin (BinOp.eql) (Opd.t 3) (Opd.c (AV.str [97, 99, 99])), grd := none }, { dst := some 4, op := AOp.mv (Opd.t 23), grd := none }]
def c54_79 : ACode := .seq c54_80 c54_81
def c54_78 : ACode := .skip
def c54_77 : ACode := .cond (.t 4) c54_78 c54_79
def c54_76 : ACode := .reg [{ dst := some 22, op := AOp.bin (BinOp.eql) (Opd.t 3) (Opd.c (AV.str [101, 118, 97, 108])), grd := none }, { dst := some 4, op := AOp.mv (Opd.t 22), grd := none }]
def c54_75 : ACode := .seq c54_76 c54_77
def c54_74 : ACode := .skip
def c54_73 : ACode := .cond (.t 4) c54_74 c54_75
def c54_72 : ACode := .reg [{ dst := some 21, op := AOp.bin (BinOp.eql) (Opd.t 3) (Opd.c (AV.str [102, 114, 111, 109])), grd := none }, { dst := some 4, op := AOp.mv (Opd.t 21), grd := none }]
def c54_71 : ACode := .seq c54_72 c54_73
def c54_70 : ACode := .skip
def c54_69 : ACode := .cond (.t 4) c54_70 c54_71
def c54_68 : ACode := .reg [{ dst := some 20, op := AOp.bin (BinOp.eql) (Opd.t 3) (Opd.c (AV.str [111, 114])), grd := none }, { dst := some 4, op := AOp.mv (Opd.t 20), grd := none }]
def c54_67 : ACode := .seq c54_68 c54_69
def c54_66 : ACode := .skip
def c54_65 : ACode := .cond (.t 4) c54_66 c54_67
def c54_64 : ACode := .reg [{ dst := some 19, op := AOp.bin (BinOp.eql) (Opd.t 3) (Opd.c (AV.str [102, 111, 114, 97, 108, 108])), grd := none }, { dst := some 4, op := AOp.mv (Opd.t 19), grd := none }]
def c54_63 : ACode := .seq c54_64 c54_65
def c54_62 : ACode := .skip
def c54_61 : ACode := .cond (.t 4) c54_62 c54_63
def c54_60 : ACode := .reg [{ dst := some 18, op := AOp.bin (BinOp.eql) (Opd.t 3) (Opd.c (AV.str [101, 120, 105, 115, 116, 115])), grd := none }, { dst := some 4, op := AOp.mv (Opd.t 18), grd := none }]
def c54_59 : ACode := .seq c54_60 c54_61
def c54_58 : ACode := .skip
def c54_57 : ACode := .cond (.t 4) c54_58 c54_59
def c54_56 : ACode := .reg [{ dst := some 17, op := AOp.bin (BinOp.eql) (Opd.t 3) (Opd.c (AV.str [110, 111, 116])), grd := none }, { dst := some 4, op := AOp.mv (Opd.t 17), grd := none }]
def c54_55 : ACode := .seq c54_56 c54_57
def c54_54 : ACode := .skip
def c54_53 : ACode := .cond (.t 4) c54_54 c54_55
def c54_52 : ACode := .reg [{ dst := some 16, op := AOp.bin (BinOp.eql) (Opd.t 3) (Opd.c (AV.str [108, 111, 99, 107])), grd := none }, { dst := some 4, op := AOp.mv (Opd.t 16), grd := none }]
def c54_51 : ACode := .seq c54_52 c54_53
def c54_50 : ACode := .skip
def c54_49 : ACode := .cond (.t 4) c54_50 c54_51
def c54_48 : ACode := .reg [{ dst := some 15, op := AOp.bin (BinOp.eql) (Opd.t 3) (Opd.c (AV.str [110, 111, 108, 111, 111, 112])), grd := none }, { dst := some 4, op := AOp.mv (Opd.t 15), grd := none }]
def c54_47 : ACode := .seq c54_48 c54_49
def c54_46 : ACode := .skip
def c54_45 : ACode := .cond (.t 4) c54_46 c54_47
def c54_44 : ACode := .reg [{ dst := some 14, op := AOp.bin (BinOp.eql) (Opd.t 3) (Opd.c (AV.str [102, 108, 111, 119])), grd := none }, { dst := some 4, op := AOp.mv (Opd.t 14), grd := none }]
def c54_43 : ACode := .seq c54_44 c54_45
def c54_42 : ACode := .skip
def c54_41 : ACode := .cond (.t 4) c54_42 c54_43
def c54_40 : ACode := .reg [{ dst := some 13, op := AOp.bin (BinOp.eql) (Opd.t 3) (Opd.c (AV.str [103, 114, 111, 117, 112])), grd := none }, { dst := some 4, op := AOp.mv (Opd.t 13), grd := none }]
def c54_39 : ACode := .seq c54_40 c54_41
def c54_38 : ACode := .skip
def c54_37 : ACode := .cond (.t 4) c54_38 c54_39
def c54_36 : ACode := .reg [{ dst := some 12, op := AOp.bin (BinOp.eql) (Opd.t 3) (Opd.c (AV.str [115, 97, 108, 105, 101, 110, 99, 101])), grd := none }, { dst := some 4, op := AOp.mv (Opd.t 12), grd := none }]
def c54_35 : ACode := .seq c54_36 c54_37
def c54_34 : ACode := .skip
def c54_33 : ACode := .cond (.t 4) c54_34 c54_35
def c54_32 : ACode := .reg [{ dst := some 11, op := AOp.bin (BinOp.eql) (Opd.t 3) (Opd.c (AV.str [101, 110, 100])), grd := none }, { dst := some 4, op := AOp.mv (Opd.t 11), grd := none }]
def c54_31 : ACode := .seq c54_32 c54_33
def c54_30 : ACode := .skip
def c54_29 : ACode := .cond (.t 4) c54_30 c54_31
def c54_28 : ACode := .reg [{ dst := some 10, op := AOp.bin (BinOp.eql) (Opd.t 3) (Opd.c (AV.str [116, 104, 101, 110])), grd := none }, { dst := some 4, op := AOp.mv (Opd.t 10), grd := none }]
def c54_27 : ACode := .seq c54_28 c54_29
def c54_26 : ACode := .skip
def c54_25 : ACode := .cond (.t 4) c54_26 c54_27
def c54_24 : ACode := .reg [{ dst := some 9, op := AOp.bin (BinOp.eql) (Opd.t 3) (Opd.c (AV.str [119, 104, 101, 110])), grd := none }, { dst := some 4, op := AOp.mv (Opd.t 9), grd := none }]
def c54_23 : ACode := .seq c54_24 c54_25
def c54_22 : ACode := .skip
def c54_21 : ACode := .cond (.t 4) c54_22 c54_23
def c54_20 : ACode := .reg [{ dst := some 8, op := AOp.bin (BinOp.eql) (Opd.t 3) (Opd.c (AV.str [113, 117, 101, 114, 121])), grd := none }, { dst := some 4, op := AOp.mv (Opd.t 8), grd := none }]
def c54_19 : ACode := .seq c54_20 c54_21
def c54_18 : ACode := .skip
def c54_17 : ACode := .cond (.t 4) c54_18 c54_19
def c54_16 : ACode := .reg [{ dst := some 7, op := AOp.bin (BinOp.eql) (Opd.t 3) (Opd.c (AV.str [114, 117, 108, 101])), grd := none }, { dst := some 4, op := AOp.mv (Opd.t 7), grd := none }]
def c54_15 : ACode := .seq c54_16 c54_17
def c54_14 : ACode := .skip
def c54_13 : ACode := .cond (.t 4) c54_14 c54_15
def c54_12 : ACode := .reg [{ dst := some 6, op := AOp.bin (BinOp.eql) (Opd.t 3) (Opd.c (AV.str [101, 120, 116, 101, 110, 100, 115])), grd := none }, { dst := some 4, op := AOp.mv (Opd.t 6), grd := none }]
def c54_11 : ACode := .seq c54_12 c54_13
def c54_10 : ACode := .skip
def c54_9 : ACode := .cond (.t 4) c54_10 c54_11
def c54_8 : ACode := .reg [{ dst := some 5, op := AOp.bin (BinOp.eql) (Opd.t 3) (Opd.c (AV.str [99, 108, 97, 115, 115])), grd := none }, { dst := some 4, op := AOp.mv (Opd.t 5), grd := none }]
def c54_7 : ACode := .seq c54_8 c54_9
def c54_6 : ACode := .seq c54_7 c54_156
def c54_5 : ACode := .block 0 c54_6
def c54_4 : ACode := .reg [{ dst := some 3, op := AOp.mv (Opd.t 0), grd := none }]
def c54_3 : ACode := .seq c54_4 c54_5
def c54_2 : ACode := .seq c54_3 c54_161
def c54_1 : ACode := .reg [{ dst := some 2, op := AOp.mv (Opd.c (AV.bool false)), grd := none }]
def c54_0 : ACode := .seq c54_1 c54_2
def A54 : AFun := { np := 1, res := [(2, none)], body := c54_0 }

def c55_27 : ACode := .ret
def c55_26 : ACode := .reg [{ dst := some 4, op := AOp.mv (Opd.c (AV.int (IntKind.i64) (-1))), grd := none }]
def c55_25 : ACode := .seq c55_26 c55_27
def c55_24 : ACode := .reg [{ dst := some 18, op := AOp.bin (BinOp.add) (Opd.t 8) (Opd.c (AV.int (IntKind.i64) 1)), grd := none }, { dst := some 8, op := AOp.mv (Opd.t 18), grd := none }]
def c55_23 : ACode := .skip
def c55_22 : ACode := .ret
def c55_21 : ACode := .reg [{ dst := some 17, op := AOp.mv (Opd.t 5), grd := none }, { dst := some 4, op := AOp.mv (Opd.t 17), grd := none }]
def c55_20 : ACode := .seq c55_21 c55_22
def c55_19 : ACode := .cond (.t 16) c55_20 c55_23
def c55_18 : ACode := .reg [{ dst := some 11, op := AOp.mv (Opd.t 1), grd := none }, { dst := some 12, op := AOp.mv (Opd.t 0), grd := none }, { dst := some 13, op := AOp.mv (Opd.t 5), grd := none }, { dst := some 14, op := AOp.iadr 3 (Opd.t 12) (Opd.t 13), grd := none }, { dst := some 15, op := AOp.load true 3 (Opd.t 14), grd := none }, { dst := some 16, op := AOp.call (Opd.t 11) [Opd.t 15], grd := none }]
def c55_17 : ACode := .seq c55_18 c55_19
def c55_16 : ACode := .reg [{ dst := some 10, op := AOp.mv (Opd.t 8), grd := none }, { dst := some 5, op := AOp.mv (Opd.t 10), grd := none }]
def c55_15 : ACode := .seq c55_16 c55_17
def c55_14 : ACode := .block 1 c55_15
def c55_13 : ACode := .seq c55_14 c55_24
def c55_12 : ACode := .exit 0
def c55_11 : ACode := .skip
def c55_10 : ACode := .cond (.t 9) c55_11 c55_12
def c55_9 : ACode := .seq c55_10 c55_13
def c55_8 : ACode := .reg [{ dst := some 9, op := AOp.bin (BinOp.lss) (Opd.t 8) (Opd.t 7), grd := none }]
def c55_7 : ACode := .seq c55_8 c55_9
def c55_6 : ACode := .loop c55_7
def c55_5 : ACode := .block 0 c55_6
def c55_4 : ACode := .reg [{ dst := some 6, op := AOp.mv (Opd.t 0), grd := none }, { dst := some 7, op := AOp.len 1 (Opd.t 6), grd := none }, { dst := some 8, op := AOp.mv (Opd.c (AV.int (IntKind.i64) 0)), grd := none }]
def c55_3 : ACode := .seq c55_4 c55_5
def c55_2 : ACode := .seq c55_3 c55_25
def c55_1 : ACode := .reg [{ dst := some 4, op := AOp.mv (Opd.c (AV.int (IntKind.i64) 0)), grd := none }]
def c55_0 : ACode := .seq c55_1 c55_2
def A55 : AFun := { np := 2, res := [(4, none)], body := c55_0 }

def c56_4 : ACode := .ret
def c56_3 : ACode := .reg [{ dst := some 3, op := AOp.mv (Opd.t 0), grd := none }, { dst := some 4, op := AOp.bin (BinOp.geq) (Opd.t 3) (Opd.c (AV.int (IntKind.u8) 97)), grd := none }, { dst := some 5, op := AOp.mv (Opd.t 4), grd := none }, { dst := some 6, op := AOp.mv (Opd.t 0), grd := some (5, true) }, { dst := some 7, op := AOp.bin (BinOp.leq) (Opd.t 6) (Opd.c (AV.int (IntKind.u8) 122)), grd := some (5, true) }, { dst := some 8, op := AOp.pick (Opd.t 5) (Opd.t 7) (Opd.c (AV.bool false)), grd := none }, { dst := some 9, op := AOp.mv (Opd.t 8), grd := none }, { dst := some 10, op := AOp.mv (Opd.t 0), grd := some (9, false) }, { dst := some 11, op := AOp.bin (BinOp.geq) (Opd.t 10) (Opd.c (AV.int (IntKind.u8) 65)), grd := some (9, false) }, { dst := some 12, op := AOp.mv (Opd.t 11), grd := some (9, false) }, { dst := some 13, op := AOp.mv (Opd.t 0), grd := some (12, true) }, { dst := some 14, op := AOp.bin (BinOp.leq) (Opd.t 13) (Opd.c (AV.int (IntKind.u8) 90)), grd := some (12, true) }, { dst := some 15, op := AOp.pick (Opd.t 12) (Opd.t 14) (Opd.c (AV.bool false)), grd := some (9, false) }, { dst := some 16, op := AOp.pick (Opd.t 9) (Opd.c (AV.bool true)) (Opd.t 15), grd := none }, { dst := some 2, op := AOp.mv (Opd.t 16), grd := none }]
def c56_2 : ACode := .seq c56_3 c56_4
def c56_1 : ACode := .reg [{ dst := some 2, op := AOp.mv (Opd.c (AV.bool false)), grd := none }]
def c56_0 : ACode := .seq c56_1 c56_2
def A56 : AFun := { np := 1, res := [(2, none)], body := c56_0 }

end Go.Proofs.Ytjdpdjmmbajglaa
