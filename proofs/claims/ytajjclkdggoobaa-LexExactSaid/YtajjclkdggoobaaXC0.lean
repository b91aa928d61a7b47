/-
  The code of the functions, as the abstract machine's (printed by wip/tools/gen.py).
-/
import Derived.Test.YtajjclkdggoobaaAbSim
namespace Go.Proofs.Ytajjclkdggoobaa
open Go.Ab
set_option linter.unusedVariables false

def c3_64 : ACode := .ret
def c3_63 : ACode := .reg [{ dst := some 156, op := AOp.call (Opd.c (AV.fn (AFn.func 14) [] [])) [], grd := none }, { dst := some 2, op := AOp.mv (Opd.t 156), grd := none }]
def c3_62 : ACode := .seq c3_63 c3_64
def c3_61 : ACode := .reg [{ dst := some 19, op := AOp.mv (Opd.t 3), grd := none }, { dst := some 20, op := AOp.bin (BinOp.add) (Opd.t 19) (Opd.c (AV.int (IntKind.i64) 1)), grd := none }, { dst := some 3, op := AOp.mv (Opd.t 20), grd := none }]
def c3_60 : ACode := .skip
def c3_59 : ACode := .ret
def c3_58 : ACode := .reg [{ dst := some 2, op := AOp.mv (Opd.c (AV.bool false)), grd := none }]
def c3_57 : ACode := .seq c3_58 c3_59
def c3_56 : ACode := .cond (.t 155) c3_57 c3_60
set_option maxRecDepth 100000 in
def c3_55 : ACode := .dreg [{ dst := some 124, op := AOp.mv (Opd.t 0), grd := none }, { dst := some 125, op := AOp.mv (Opd.t 3), grd := none }, { dst := some 126, op := AOp.iadr 1 (Opd.t 124) (Opd.t 125), grd := none }, { dst := some 127, op := AOp.load false 1 (Opd.t 126), grd := none }, { dst := some 129, op := AOp.mv (Opd.t 0), grd := none }, { dst := some 130, op := AOp.mv (Opd.t 3), grd := none }, { dst := some 131, op := AOp.iadr 1 (Opd.t 129) (Opd.t 130), grd := none }, { dst := some 132, op := AOp.load false 1 (Opd.t 131), grd := none }] [({ dst := some 128, op := AOp.call (Opd.c (AV.fn (AFn.func 10) [] [])) [Opd.t 127], grd := none }, [{ dst := some 131, op := AOp.iadr 1 (Opd.t 129) (Opd.t 130), grd := none }, { dst := some 132, op := AOp.load false 1 (Opd.t 131), grd := none }], []), ({ dst := some 133, op := AOp.call (Opd.c (AV.fn (AFn.func 11) [] [])) [Opd.t 132], grd := none }, [], [{ dst := some 134, op := AOp.eq true (EqK.bool) (Opd.t 128) (Opd.t 133), grd := none }, { dst := some 135, op := AOp.mv (Opd.t 134), grd := none }, { dst := some 136, op := AOp.mv (Opd.t 0), grd := some (135, false) }, { dst := some 137, op := AOp.mv (Opd.t 3), grd := some (135, false) }, { dst := some 138, op := AOp.iadr 1 (Opd.t 136) (Opd.t 137), grd := some (135, false) }, { dst := some 139, op := AOp.load false 1 (Opd.t 138), grd := some (135, false) }, { dst := some 140, op := AOp.len 0 (Opd.t 139), grd := some (135, false) }, { dst := some 141, op := AOp.bin (BinOp.leq) (Opd.t 140) (Opd.c (AV.int (IntKind.i64) 3000)), grd := some (135, false) }, { dst := some 142, op := AOp.mv (Opd.t 141), grd := some (135, false) }, { dst := some 143, op := AOp.mv (Opd.t 0), grd := some (142, true) }, { dst := some 144, op := AOp.mv (Opd.t 3), grd := some (142, true) }, { dst := some 145, op := AOp.iadr 1 (Opd.t 143) (Opd.t 144), grd := some (142, true) }, { dst := some 146, op := AOp.load false 1 (Opd.t 145), grd := some (142, true) }, { dst := some 148, op := AOp.mv (Opd.t 0), grd := some (142, true) }, { dst := some 149, op := AOp.mv (Opd.t 3), grd := some (142, true) }, { dst := some 150, op := AOp.iadr 1 (Opd.t 148) (Opd.t 149), grd := some (142, true) }, { dst := some 151, op := AOp.load false 1 (Opd.t 150), grd := some (142, true) }]), ({ dst := some 147, op := AOp.call (Opd.c (AV.fn (AFn.func 12) [] [])) [Opd.t 146], grd := some (142, true) }, [{ dst := some 150, op := AOp.iadr 1 (Opd.t 148) (Opd.t 149), grd := some (142, true) }, { dst := some 151, op := AOp.load false 1 (Opd.t 150), grd := some (142, true) }], []), ({ dst := some 152, op := AOp.call (Opd.c (AV.fn (AFn.func 13) [] [])) [Opd.t 151], grd := some (142, true) }, [], [{ dst := some 153, op := AOp.bin (BinOp.neq) (Opd.t 147) (Opd.t 152), grd := some (142, true) }, { dst := some 154, op := AOp.pick (Opd.t 142) (Opd.t 153) (Opd.c (AV.bool false)), grd := some (135, false) }, { dst := some 155, op := AOp.pick (Opd.t 135) (Opd.c (AV.bool true)) (Opd.t 154), grd := none }])]
def c3_54 : ACode := .seq c3_55 c3_56
def c3_53 : ACode := .reg [{ dst := some 72, op := AOp.mv (Opd.t 10), grd := none }, { dst := some 73, op := AOp.bin (BinOp.add) (Opd.t 72) (Opd.c (AV.int (IntKind.i64) 1)), grd := none }, { dst := some 10, op := AOp.mv (Opd.t 73), grd := none }]
def c3_52 : ACode := .skip
def c3_51 : ACode := .ret
def c3_50 : ACode := .reg [{ dst := some 2, op := AOp.mv (Opd.c (AV.bool false)), grd := none }]
def c3_49 : ACode := .seq c3_50 c3_51
def c3_48 : ACode := .cond (.t 123) c3_49 c3_52
set_option maxRecDepth 100000 in
def c3_47 : ACode := .dreg [{ dst := some 74, op := AOp.mv (Opd.t 4), grd := none }, { dst := some 75, op := AOp.mv (Opd.t 10), grd := none }, { dst := some 76, op := AOp.iadr 4 (Opd.t 74) (Opd.t 75), grd := none }, { dst := some 77, op := AOp.fadr 0 (Opd.t 76), grd := none }, { dst := some 78, op := AOp.load false 1 (Opd.t 77), grd := none }, { dst := some 79, op := AOp.mv (Opd.t 7), grd := none }, { dst := some 80, op := AOp.mv (Opd.t 10), grd := none }, { dst := some 81, op := AOp.iadr 4 (Opd.t 79) (Opd.t 80), grd := none }, { dst := some 82, op := AOp.fadr 0 (Opd.t 81), grd := none }, { dst := some 83, op := AOp.load false 1 (Opd.t 82), grd := none }, { dst := some 84, op := AOp.bin (BinOp.neq) (Opd.t 78) (Opd.t 83), grd := none }, { dst := some 85, op := AOp.mv (Opd.t 84), grd := none }, { dst := some 86, op := AOp.mv (Opd.t 4), grd := some (85, false) }, { dst := some 87, op := AOp.mv (Opd.t 10), grd := some (85, false) }, { dst := some 88, op := AOp.iadr 4 (Opd.t 86) (Opd.t 87), grd := some (85, false) }, { dst := some 89, op := AOp.fadr 1 (Opd.t 88), grd := some (85, false) }, { dst := some 90, op := AOp.load false 1 (Opd.t 89), grd := some (85, false) }, { dst := some 91, op := AOp.mv (Opd.t 7), grd := some (85, false) }, { dst := some 92, op := AOp.mv (Opd.t 10), grd := some (85, false) }, { dst := some 93, op := AOp.iadr 4 (Opd.t 91) (Opd.t 92), grd := some (85, false) }, { dst := some 94, op := AOp.fadr 1 (Opd.t 93), grd := some (85, false) }, { dst := some 95, op := AOp.load false 1 (Opd.t 94), grd := some (85, false) }, { dst := some 96, op := AOp.bin (BinOp.neq) (Opd.t 90) (Opd.t 95), grd := some (85, false) }, { dst := some 97, op := AOp.pick (Opd.t 85) (Opd.c (AV.bool true)) (Opd.t 96), grd := none }, { dst := some 98, op := AOp.mv (Opd.t 97), grd := none }, { dst := some 99, op := AOp.mv (Opd.t 4), grd := some (98, false) }, { dst := some 100, op := AOp.mv (Opd.t 10), grd := some (98, false) }, { dst := some 101, op := AOp.iadr 4 (Opd.t 99) (Opd.t 100), grd := some (98, false) }, { dst := some 102, op := AOp.fadr 2 (Opd.t 101), grd := some (98, false) }, { dst := some 103, op := AOp.load false 1 (Opd.t 102), grd := some (98, false) }, { dst := some 104, op := AOp.mv (Opd.t 7), grd := some (98, false) }, { dst := some 105, op := AOp.mv (Opd.t 10), grd := some (98, false) }, { dst := some 106, op := AOp.iadr 4 (Opd.t 104) (Opd.t 105), grd := some (98, false) }, { dst := some 107, op := AOp.fadr 2 (Opd.t 106), grd := some (98, false) }, { dst := some 108, op := AOp.load false 1 (Opd.t 107), grd := some (98, false) }, { dst := some 109, op := AOp.bin (BinOp.neq) (Opd.t 103) (Opd.t 108), grd := some (98, false) }, { dst := some 110, op := AOp.pick (Opd.t 98) (Opd.c (AV.bool true)) (Opd.t 109), grd := none }, { dst := some 111, op := AOp.mv (Opd.t 110), grd := none }, { dst := some 112, op := AOp.mv (Opd.t 4), grd := some (111, false) }, { dst := some 113, op := AOp.mv (Opd.t 10), grd := some (111, false) }, { dst := some 114, op := AOp.iadr 4 (Opd.t 112) (Opd.t 113), grd := some (111, false) }, { dst := some 115, op := AOp.fadr 3 (Opd.t 114), grd := some (111, false) }, { dst := some 116, op := AOp.load false 1 (Opd.t 115), grd := some (111, false) }, { dst := some 117, op := AOp.mv (Opd.t 7), grd := some (111, false) }, { dst := some 118, op := AOp.mv (Opd.t 10), grd := some (111, false) }, { dst := some 119, op := AOp.iadr 4 (Opd.t 117) (Opd.t 118), grd := some (111, false) }, { dst := some 120, op := AOp.fadr 3 (Opd.t 119), grd := some (111, false) }, { dst := some 121, op := AOp.load false 1 (Opd.t 120), grd := some (111, false) }, { dst := some 122, op := AOp.bin (BinOp.neq) (Opd.t 116) (Opd.t 121), grd := some (111, false) }, { dst := some 123, op := AOp.pick (Opd.t 111) (Opd.c (AV.bool true)) (Opd.t 122), grd := none }] []
def c3_46 : ACode := .seq c3_47 c3_48
def c3_45 : ACode := .block 3 c3_46
def c3_44 : ACode := .seq c3_45 c3_53
def c3_43 : ACode := .exit 2
def c3_42 : ACode := .skip
def c3_41 : ACode := .cond (.t 71) c3_42 c3_43
def c3_40 : ACode := .reg [{ dst := some 68, op := AOp.mv (Opd.t 10), grd := none }, { dst := some 69, op := AOp.mv (Opd.t 4), grd := none }, { dst := some 70, op := AOp.len 1 (Opd.t 69), grd := none }, { dst := some 71, op := AOp.bin (BinOp.lss) (Opd.t 68) (Opd.t 70), grd := none }]
def c3_39 : ACode := .seq c3_40 c3_41
def c3_38 : ACode := .seq c3_39 c3_44
def c3_37 : ACode := .loop c3_38
def c3_36 : ACode := .block 2 c3_37
def c3_35 : ACode := .reg [{ dst := some 10, op := AOp.mv (Opd.c (AV.int (IntKind.i64) 0)), grd := none }]
def c3_34 : ACode := .seq c3_35 c3_36
def c3_33 : ACode := .seq c3_34 c3_54
def c3_32 : ACode := .skip
def c3_31 : ACode := .ret
def c3_30 : ACode := .reg [{ dst := some 2, op := AOp.mv (Opd.c (AV.bool false)), grd := none }]
def c3_29 : ACode := .seq c3_30 c3_31
def c3_28 : ACode := .cond (.t 67) c3_29 c3_32
def c3_27 : ACode := .reg [{ dst := some 53, op := AOp.mv (Opd.t 6), grd := none }, { dst := some 54, op := AOp.mv (Opd.t 9), grd := none }, { dst := some 55, op := AOp.bin (BinOp.neq) (Opd.t 53) (Opd.t 54), grd := none }, { dst := some 56, op := AOp.mv (Opd.t 55), grd := none }, { dst := some 57, op := AOp.mv (Opd.t 5), grd := some (56, false) }, { dst := some 58, op := AOp.mv (Opd.t 8), grd := some (56, false) }, { dst := some 59, op := AOp.bin (BinOp.neq) (Opd.t 57) (Opd.t 58), grd := some (56, false) }, { dst := some 60, op := AOp.pick (Opd.t 56) (Opd.c (AV.bool true)) (Opd.t 59), grd := none }, { dst := some 61, op := AOp.mv (Opd.t 60), grd := none }, { dst := some 62, op := AOp.mv (Opd.t 4), grd := some (61, false) }, { dst := some 63, op := AOp.len 1 (Opd.t 62), grd := some (61, false) }, { dst := some 64, op := AOp.mv (Opd.t 7), grd := some (61, false) }, { dst := some 65, op := AOp.len 1 (Opd.t 64), grd := some (61, false) }, { dst := some 66, op := AOp.bin (BinOp.neq) (Opd.t 63) (Opd.t 65), grd := some (61, false) }, { dst := some 67, op := AOp.pick (Opd.t 61) (Opd.c (AV.bool true)) (Opd.t 66), grd := none }]
def c3_26 : ACode := .seq c3_27 c3_28
def c3_25 : ACode := .seq c3_26 c3_33
def c3_24 : ACode := .reg [{ dst := some 45, op := AOp.mv (Opd.t 0), grd := none }, { dst := some 46, op := AOp.mv (Opd.t 3), grd := none }, { dst := some 47, op := AOp.iadr 1 (Opd.t 45) (Opd.t 46), grd := none }, { dst := some 48, op := AOp.load false 1 (Opd.t 47), grd := none }, { dst := some 49, op := AOp.call (Opd.c (AV.fn (AFn.func 9) [] [])) [Opd.t 48], grd := none }, { dst := some 44, op := AOp.mv (Opd.t 49), grd := none }, { dst := some 50, op := AOp.ext (Opd.t 44) 0, grd := none }, { dst := some 51, op := AOp.ext (Opd.t 44) 1, grd := none }, { dst := some 52, op := AOp.ext (Opd.t 44) 2, grd := none }, { dst := some 7, op := AOp.mv (Opd.t 50), grd := none }, { dst := some 8, op := AOp.mv (Opd.t 51), grd := none }, { dst := some 9, op := AOp.mv (Opd.t 52), grd := none }]
def c3_23 : ACode := .seq c3_24 c3_25
def c3_22 : ACode := .reg [{ dst := some 36, op := AOp.mv (Opd.t 0), grd := none }, { dst := some 37, op := AOp.mv (Opd.t 3), grd := none }, { dst := some 38, op := AOp.iadr 1 (Opd.t 36) (Opd.t 37), grd := none }, { dst := some 39, op := AOp.load false 1 (Opd.t 38), grd := none }, { dst := some 40, op := AOp.call (Opd.c (AV.fn (AFn.func 8) [] [])) [Opd.t 39], grd := none }, { dst := some 35, op := AOp.mv (Opd.t 40), grd := none }, { dst := some 41, op := AOp.ext (Opd.t 35) 0, grd := none }, { dst := some 42, op := AOp.ext (Opd.t 35) 1, grd := none }, { dst := some 43, op := AOp.ext (Opd.t 35) 2, grd := none }, { dst := some 4, op := AOp.mv (Opd.t 41), grd := none }, { dst := some 5, op := AOp.mv (Opd.t 42), grd := none }, { dst := some 6, op := AOp.mv (Opd.t 43), grd := none }]
def c3_21 : ACode := .seq c3_22 c3_23
def c3_20 : ACode := .skip
def c3_19 : ACode := .exit 1
def c3_18 : ACode := .cond (.t 34) c3_19 c3_20
def c3_17 : ACode := .reg [{ dst := some 21, op := AOp.mv (Opd.t 0), grd := none }, { dst := some 22, op := AOp.mv (Opd.t 3), grd := none }, { dst := some 23, op := AOp.iadr 1 (Opd.t 21) (Opd.t 22), grd := none }, { dst := some 24, op := AOp.load false 1 (Opd.t 23), grd := none }, { dst := some 25, op := AOp.len 0 (Opd.t 24), grd := none }, { dst := some 26, op := AOp.bin (BinOp.gtr) (Opd.t 25) (Opd.c (AV.int (IntKind.i64) 20000)), grd := none }, { dst := some 27, op := AOp.mv (Opd.t 26), grd := none }, { dst := some 28, op := AOp.mv (Opd.t 0), grd := some (27, true) }, { dst := some 29, op := AOp.mv (Opd.t 3), grd := some (27, true) }, { dst := some 30, op := AOp.iadr 1 (Opd.t 28) (Opd.t 29), grd := some (27, true) }, { dst := some 31, op := AOp.load false 1 (Opd.t 30), grd := some (27, true) }, { dst := some 32, op := AOp.len 0 (Opd.t 31), grd := some (27, true) }, { dst := some 33, op := AOp.bin (BinOp.leq) (Opd.t 32) (Opd.c (AV.int (IntKind.i64) 65536)), grd := some (27, true) }, { dst := some 34, op := AOp.pick (Opd.t 27) (Opd.t 33) (Opd.c (AV.bool false)), grd := none }]
def c3_16 : ACode := .seq c3_17 c3_18
def c3_15 : ACode := .seq c3_16 c3_21
def c3_14 : ACode := .block 1 c3_15
def c3_13 : ACode := .seq c3_14 c3_61
def c3_12 : ACode := .exit 0
def c3_11 : ACode := .skip
def c3_10 : ACode := .cond (.t 18) c3_11 c3_12
def c3_9 : ACode := .reg [{ dst := some 11, op := AOp.mv (Opd.t 3), grd := none }, { dst := some 12, op := AOp.mv (Opd.t 0), grd := none }, { dst := some 13, op := AOp.len 1 (Opd.t 12), grd := none }, { dst := some 14, op := AOp.bin (BinOp.lss) (Opd.t 11) (Opd.t 13), grd := none }, { dst := some 15, op := AOp.mv (Opd.t 14), grd := none }, { dst := some 16, op := AOp.mv (Opd.t 3), grd := some (15, true) }, { dst := some 17, op := AOp.bin (BinOp.lss) (Opd.t 16) (Opd.c (AV.int (IntKind.i64) 8)), grd := some (15, true) }, { dst := some 18, op := AOp.pick (Opd.t 15) (Opd.t 17) (Opd.c (AV.bool false)), grd := none }]
def c3_8 : ACode := .seq c3_9 c3_10
def c3_7 : ACode := .seq c3_8 c3_13
def c3_6 : ACode := .loop c3_7
def c3_5 : ACode := .block 0 c3_6
def c3_4 : ACode := .reg [{ dst := some 3, op := AOp.mv (Opd.c (AV.int (IntKind.i64) 0)), grd := none }]
def c3_3 : ACode := .seq c3_4 c3_5
def c3_2 : ACode := .seq c3_3 c3_62
def c3_1 : ACode := .reg [{ dst := some 2, op := AOp.mv (Opd.c (AV.bool false)), grd := none }]
def c3_0 : ACode := .seq c3_1 c3_2
def A3 : AFun := { np := 1, res := [(2, none)], body := c3_0 }

def c4_84 : ACode := .ret
def c4_83 : ACode := .reg [{ dst := some 161, op := AOp.call (Opd.c (AV.fn (AFn.func 14) [] [])) [], grd := none }, { dst := some 2, op := AOp.mv (Opd.t 161), grd := none }]
def c4_82 : ACode := .seq c4_83 c4_84
def c4_81 : ACode := .reg [{ dst := some 21, op := AOp.mv (Opd.t 3), grd := none }, { dst := some 22, op := AOp.bin (BinOp.add) (Opd.t 21) (Opd.c (AV.int (IntKind.i64) 1)), grd := none }, { dst := some 3, op := AOp.mv (Opd.t 22), grd := none }]
def c4_80 : ACode := .skip
def c4_79 : ACode := .ret
def c4_78 : ACode := .reg [{ dst := some 2, op := AOp.mv (Opd.c (AV.bool false)), grd := none }]
def c4_77 : ACode := .seq c4_78 c4_79
def c4_76 : ACode := .cond (.t 160) c4_77 c4_80
def c4_75 : ACode := .reg [{ dst := some 156, op := AOp.mv (Opd.t 4), grd := none }, { dst := some 157, op := AOp.mv (Opd.t 8), grd := none }, { dst := some 158, op := AOp.sls (Opd.t 156) (some (Opd.t 157)) none, grd := none }, { dst := some 159, op := AOp.call (Opd.c (AV.fn (AFn.func 15) [] [])) [Opd.t 158], grd := none }, { dst := some 160, op := AOp.not (Opd.t 159), grd := none }]
def c4_74 : ACode := .seq c4_75 c4_76
def c4_73 : ACode := .reg [{ dst := some 59, op := AOp.mv (Opd.t 9), grd := none }, { dst := some 60, op := AOp.bin (BinOp.add) (Opd.t 59) (Opd.c (AV.int (IntKind.i64) 1)), grd := none }, { dst := some 9, op := AOp.mv (Opd.t 60), grd := none }]
def c4_72 : ACode := .skip
def c4_71 : ACode := .ret
def c4_70 : ACode := .reg [{ dst := some 2, op := AOp.mv (Opd.c (AV.bool false)), grd := none }]
def c4_69 : ACode := .seq c4_70 c4_71
def c4_68 : ACode := .cond (.t 155) c4_69 c4_72
set_option maxRecDepth 100000 in
def c4_67 : ACode := .dreg [{ dst := some 125, op := AOp.mv (Opd.t 12), grd := none }, { dst := some 126, op := AOp.bin (BinOp.neq) (Opd.t 125) (Opd.c (AV.int (IntKind.i64) 0)), grd := none }, { dst := some 127, op := AOp.mv (Opd.t 126), grd := none }, { dst := some 128, op := AOp.mv (Opd.t 10), grd := some (127, false) }, { dst := some 129, op := AOp.len 1 (Opd.t 128), grd := some (127, false) }, { dst := some 130, op := AOp.bin (BinOp.neq) (Opd.t 129) (Opd.c (AV.int (IntKind.i64) 1)), grd := some (127, false) }, { dst := some 131, op := AOp.pick (Opd.t 127) (Opd.c (AV.bool true)) (Opd.t 130), grd := none }, { dst := some 132, op := AOp.mv (Opd.t 131), grd := none }, { dst := some 133, op := AOp.mv (Opd.t 10), grd := some (132, false) }, { dst := some 134, op := AOp.iadr 4 (Opd.t 133) (Opd.c (AV.int (IntKind.i64) 0)), grd := some (132, false) }, { dst := some 135, op := AOp.fadr 0 (Opd.t 134), grd := some (132, false) }, { dst := some 136, op := AOp.load false 1 (Opd.t 135), grd := some (132, false) }, { dst := some 137, op := AOp.mv (Opd.t 5), grd := some (132, false) }, { dst := some 138, op := AOp.mv (Opd.t 9), grd := some (132, false) }, { dst := some 139, op := AOp.iadr 4 (Opd.t 137) (Opd.t 138), grd := some (132, false) }, { dst := some 140, op := AOp.fadr 0 (Opd.t 139), grd := some (132, false) }, { dst := some 141, op := AOp.load false 1 (Opd.t 140), grd := some (132, false) }, { dst := some 142, op := AOp.bin (BinOp.neq) (Opd.t 136) (Opd.t 141), grd := some (132, false) }, { dst := some 143, op := AOp.pick (Opd.t 132) (Opd.c (AV.bool true)) (Opd.t 142), grd := none }, { dst := some 144, op := AOp.mv (Opd.t 143), grd := none }, { dst := some 145, op := AOp.mv (Opd.t 10), grd := some (144, false) }, { dst := some 146, op := AOp.iadr 4 (Opd.t 145) (Opd.c (AV.int (IntKind.i64) 0)), grd := some (144, false) }, { dst := some 147, op := AOp.fadr 1 (Opd.t 146), grd := some (144, false) }, { dst := some 148, op := AOp.load false 1 (Opd.t 147), grd := some (144, false) }, { dst := some 149, op := AOp.mv (Opd.t 5), grd := some (144, false) }, { dst := some 150, op := AOp.mv (Opd.t 9), grd := some (144, false) }, { dst := some 151, op := AOp.iadr 4 (Opd.t 149) (Opd.t 150), grd := some (144, false) }, { dst := some 152, op := AOp.fadr 1 (Opd.t 151), grd := some (144, false) }, { dst := some 153, op := AOp.load false 1 (Opd.t 152), grd := some (144, false) }, { dst := some 154, op := AOp.bin (BinOp.neq) (Opd.t 148) (Opd.t 153), grd := some (144, false) }, { dst := some 155, op := AOp.pick (Opd.t 144) (Opd.c (AV.bool true)) (Opd.t 154), grd := none }] []
def c4_66 : ACode := .seq c4_67 c4_68
def c4_65 : ACode := .dreg [{ dst := some 109, op := AOp.mv (Opd.t 4), grd := none }, { dst := some 110, op := AOp.mv (Opd.t 5), grd := none }, { dst := some 111, op := AOp.mv (Opd.t 9), grd := none }, { dst := some 112, op := AOp.iadr 4 (Opd.t 110) (Opd.t 111), grd := none }, { dst := some 113, op := AOp.fadr 2 (Opd.t 112), grd := none }, { dst := some 114, op := AOp.load false 1 (Opd.t 113), grd := none }, { dst := some 115, op := AOp.mv (Opd.t 5), grd := none }, { dst := some 116, op := AOp.mv (Opd.t 9), grd := none }, { dst := some 117, op := AOp.iadr 4 (Opd.t 115) (Opd.t 116), grd := none }, { dst := some 118, op := AOp.fadr 3 (Opd.t 117), grd := none }, { dst := some 119, op := AOp.load false 1 (Opd.t 118), grd := none }, { dst := some 120, op := AOp.sls (Opd.t 109) (some (Opd.t 114)) (some (Opd.t 119)), grd := none }] [({ dst := some 121, op := AOp.call (Opd.c (AV.fn (AFn.func 8) [] [])) [Opd.t 120], grd := none }, [], [{ dst := some 108, op := AOp.mv (Opd.t 121), grd := none }, { dst := some 122, op := AOp.ext (Opd.t 108) 0, grd := none }, { dst := some 123, op := AOp.ext (Opd.t 108) 1, grd := none }, { dst := some 124, op := AOp.ext (Opd.t 108) 2, grd := none }, { dst := some 10, op := AOp.mv (Opd.t 122), grd := none }, { dst := some 11, op := AOp.mv (Opd.t 123), grd := none }, { dst := some 12, op := AOp.mv (Opd.t 124), grd := none }])]
def c4_64 : ACode := .seq c4_65 c4_66
def c4_63 : ACode := .reg [{ dst := some 103, op := AOp.mv (Opd.t 5), grd := none }, { dst := some 104, op := AOp.mv (Opd.t 9), grd := none }, { dst := some 105, op := AOp.iadr 4 (Opd.t 103) (Opd.t 104), grd := none }, { dst := some 106, op := AOp.fadr 3 (Opd.t 105), grd := none }, { dst := some 107, op := AOp.load false 1 (Opd.t 106), grd := none }, { dst := some 8, op := AOp.mv (Opd.t 107), grd := none }]
def c4_62 : ACode := .seq c4_63 c4_64
def c4_61 : ACode := .skip
def c4_60 : ACode := .ret
def c4_59 : ACode := .reg [{ dst := some 2, op := AOp.mv (Opd.c (AV.bool false)), grd := none }]
def c4_58 : ACode := .seq c4_59 c4_60
def c4_57 : ACode := .cond (.t 102) c4_58 c4_61
set_option maxRecDepth 100000 in
def c4_56 : ACode := .dreg [{ dst := some 61, op := AOp.mv (Opd.t 5), grd := none }, { dst := some 62, op := AOp.mv (Opd.t 9), grd := none }, { dst := some 63, op := AOp.iadr 4 (Opd.t 61) (Opd.t 62), grd := none }, { dst := some 64, op := AOp.fadr 2 (Opd.t 63), grd := none }, { dst := some 65, op := AOp.load false 1 (Opd.t 64), grd := none }, { dst := some 66, op := AOp.mv (Opd.t 8), grd := none }, { dst := some 67, op := AOp.bin (BinOp.lss) (Opd.t 65) (Opd.t 66), grd := none }, { dst := some 68, op := AOp.mv (Opd.t 67), grd := none }, { dst := some 69, op := AOp.mv (Opd.t 5), grd := some (68, false) }, { dst := some 70, op := AOp.mv (Opd.t 9), grd := some (68, false) }, { dst := some 71, op := AOp.iadr 4 (Opd.t 69) (Opd.t 70), grd := some (68, false) }, { dst := some 72, op := AOp.fadr 3 (Opd.t 71), grd := some (68, false) }, { dst := some 73, op := AOp.load false 1 (Opd.t 72), grd := some (68, false) }, { dst := some 74, op := AOp.mv (Opd.t 5), grd := some (68, false) }, { dst := some 75, op := AOp.mv (Opd.t 9), grd := some (68, false) }, { dst := some 76, op := AOp.iadr 4 (Opd.t 74) (Opd.t 75), grd := some (68, false) }, { dst := some 77, op := AOp.fadr 2 (Opd.t 76), grd := some (68, false) }, { dst := some 78, op := AOp.load false 1 (Opd.t 77), grd := some (68, false) }, { dst := some 79, op := AOp.bin (BinOp.leq) (Opd.t 73) (Opd.t 78), grd := some (68, false) }, { dst := some 80, op := AOp.pick (Opd.t 68) (Opd.c (AV.bool true)) (Opd.t 79), grd := none }, { dst := some 81, op := AOp.mv (Opd.t 80), grd := none }, { dst := some 82, op := AOp.mv (Opd.t 5), grd := some (81, false) }, { dst := some 83, op := AOp.mv (Opd.t 9), grd := some (81, false) }, { dst := some 84, op := AOp.iadr 4 (Opd.t 82) (Opd.t 83), grd := some (81, false) }, { dst := some 85, op := AOp.fadr 3 (Opd.t 84), grd := some (81, false) }, { dst := some 86, op := AOp.load false 1 (Opd.t 85), grd := some (81, false) }, { dst := some 87, op := AOp.mv (Opd.t 4), grd := some (81, false) }, { dst := some 88, op := AOp.len 0 (Opd.t 87), grd := some (81, false) }, { dst := some 89, op := AOp.bin (BinOp.gtr) (Opd.t 86) (Opd.t 88), grd := some (81, false) }, { dst := some 90, op := AOp.pick (Opd.t 81) (Opd.c (AV.bool true)) (Opd.t 89), grd := none }, { dst := some 91, op := AOp.mv (Opd.t 90), grd := none }, { dst := some 92, op := AOp.mv (Opd.t 4), grd := some (91, false) }, { dst := some 93, op := AOp.mv (Opd.t 8), grd := some (91, false) }, { dst := some 94, op := AOp.mv (Opd.t 5), grd := some (91, false) }, { dst := some 95, op := AOp.mv (Opd.t 9), grd := some (91, false) }, { dst := some 96, op := AOp.iadr 4 (Opd.t 94) (Opd.t 95), grd := some (91, false) }, { dst := some 97, op := AOp.fadr 2 (Opd.t 96), grd := some (91, false) }, { dst := some 98, op := AOp.load false 1 (Opd.t 97), grd := some (91, false) }, { dst := some 99, op := AOp.sls (Opd.t 92) (some (Opd.t 93)) (some (Opd.t 98)), grd := some (91, false) }] [({ dst := some 100, op := AOp.call (Opd.c (AV.fn (AFn.func 15) [] [])) [Opd.t 99], grd := some (91, false) }, [], [{ dst := some 101, op := AOp.not (Opd.t 100), grd := some (91, false) }, { dst := some 102, op := AOp.pick (Opd.t 91) (Opd.c (AV.bool true)) (Opd.t 101), grd := none }])]
def c4_55 : ACode := .seq c4_56 c4_57
def c4_54 : ACode := .seq c4_55 c4_62
def c4_53 : ACode := .block 3 c4_54
def c4_52 : ACode := .seq c4_53 c4_73
def c4_51 : ACode := .exit 2
def c4_50 : ACode := .skip
def c4_49 : ACode := .cond (.t 58) c4_50 c4_51
def c4_48 : ACode := .reg [{ dst := some 55, op := AOp.mv (Opd.t 9), grd := none }, { dst := some 56, op := AOp.mv (Opd.t 5), grd := none }, { dst := some 57, op := AOp.len 1 (Opd.t 56), grd := none }, { dst := some 58, op := AOp.bin (BinOp.lss) (Opd.t 55) (Opd.t 57), grd := none }]
def c4_47 : ACode := .seq c4_48 c4_49
def c4_46 : ACode := .seq c4_47 c4_52
def c4_45 : ACode := .loop c4_46
def c4_44 : ACode := .block 2 c4_45
def c4_43 : ACode := .reg [{ dst := some 9, op := AOp.mv (Opd.c (AV.int (IntKind.i64) 0)), grd := none }]
def c4_42 : ACode := .seq c4_43 c4_44
def c4_41 : ACode := .seq c4_42 c4_74
def c4_40 : ACode := .reg [{ dst := some 8, op := AOp.mv (Opd.c (AV.int (IntKind.i64) 0)), grd := none }]
def c4_39 : ACode := .seq c4_40 c4_41
def c4_38 : ACode := .skip
def c4_37 : ACode := .exit 1
def c4_36 : ACode := .skip
def c4_35 : ACode := .ret
def c4_34 : ACode := .reg [{ dst := some 2, op := AOp.mv (Opd.c (AV.bool false)), grd := none }]
def c4_33 : ACode := .seq c4_34 c4_35
def c4_32 : ACode := .cond (.t 54) c4_33 c4_36
def c4_31 : ACode := .reg [{ dst := some 38, op := AOp.mv (Opd.t 7), grd := none }, { dst := some 39, op := AOp.bin (BinOp.neq) (Opd.t 38) (Opd.c (AV.int (IntKind.i64) 20)), grd := none }, { dst := some 40, op := AOp.mv (Opd.t 39), grd := none }, { dst := some 41, op := AOp.mv (Opd.t 6), grd := some (40, false) }, { dst := some 42, op := AOp.bin (BinOp.lss) (Opd.t 41) (Opd.c (AV.int (IntKind.i64) 0)), grd := some (40, false) }, { dst := some 43, op := AOp.pick (Opd.t 40) (Opd.c (AV.bool true)) (Opd.t 42), grd := none }, { dst := some 44, op := AOp.mv (Opd.t 43), grd := none }, { dst := some 45, op := AOp.mv (Opd.t 6), grd := some (44, false) }, { dst := some 46, op := AOp.mv (Opd.t 4), grd := some (44, false) }, { dst := some 47, op := AOp.len 0 (Opd.t 46), grd := some (44, false) }, { dst := some 48, op := AOp.bin (BinOp.geq) (Opd.t 45) (Opd.t 47), grd := some (44, false) }, { dst := some 49, op := AOp.pick (Opd.t 44) (Opd.c (AV.bool true)) (Opd.t 48), grd := none }, { dst := some 50, op := AOp.mv (Opd.t 49), grd := none }, { dst := some 51, op := AOp.mv (Opd.t 5), grd := some (50, false) }, { dst := some 52, op := AOp.len 1 (Opd.t 51), grd := some (50, false) }, { dst := some 53, op := AOp.bin (BinOp.gtr) (Opd.t 52) (Opd.c (AV.int (IntKind.i64) 0)), grd := some (50, false) }, { dst := some 54, op := AOp.pick (Opd.t 50) (Opd.c (AV.bool true)) (Opd.t 53), grd := none }]
def c4_30 : ACode := .seq c4_31 c4_32
def c4_29 : ACode := .seq c4_30 c4_37
def c4_28 : ACode := .cond (.t 37) c4_29 c4_38
def c4_27 : ACode := .reg [{ dst := some 36, op := AOp.mv (Opd.t 7), grd := none }, { dst := some 37, op := AOp.bin (BinOp.neq) (Opd.t 36) (Opd.c (AV.int (IntKind.i64) 0)), grd := none }]
def c4_26 : ACode := .seq c4_27 c4_28
def c4_25 : ACode := .seq c4_26 c4_39
def c4_24 : ACode := .reg [{ dst := some 31, op := AOp.mv (Opd.t 4), grd := none }, { dst := some 32, op := AOp.call (Opd.c (AV.fn (AFn.func 8) [] [])) [Opd.t 31], grd := none }, { dst := some 30, op := AOp.mv (Opd.t 32), grd := none }, { dst := some 33, op := AOp.ext (Opd.t 30) 0, grd := none }, { dst := some 34, op := AOp.ext (Opd.t 30) 1, grd := none }, { dst := some 35, op := AOp.ext (Opd.t 30) 2, grd := none }, { dst := some 5, op := AOp.mv (Opd.t 33), grd := none }, { dst := some 6, op := AOp.mv (Opd.t 34), grd := none }, { dst := some 7, op := AOp.mv (Opd.t 35), grd := none }]
def c4_23 : ACode := .seq c4_24 c4_25
def c4_22 : ACode := .skip
def c4_21 : ACode := .exit 1
def c4_20 : ACode := .cond (.t 29) c4_21 c4_22
def c4_19 : ACode := .reg [{ dst := some 27, op := AOp.mv (Opd.t 4), grd := none }, { dst := some 28, op := AOp.len 0 (Opd.t 27), grd := none }, { dst := some 29, op := AOp.bin (BinOp.gtr) (Opd.t 28) (Opd.c (AV.int (IntKind.i64) 2000)), grd := none }]
def c4_18 : ACode := .seq c4_19 c4_20
def c4_17 : ACode := .seq c4_18 c4_23
def c4_16 : ACode := .reg [{ dst := some 23, op := AOp.mv (Opd.t 0), grd := none }, { dst := some 24, op := AOp.mv (Opd.t 3), grd := none }, { dst := some 25, op := AOp.iadr 1 (Opd.t 23) (Opd.t 24), grd := none }, { dst := some 26, op := AOp.load false 1 (Opd.t 25), grd := none }, { dst := some 4, op := AOp.mv (Opd.t 26), grd := none }]
def c4_15 : ACode := .seq c4_16 c4_17
def c4_14 : ACode := .block 1 c4_15
def c4_13 : ACode := .seq c4_14 c4_81
def c4_12 : ACode := .exit 0
def c4_11 : ACode := .skip
def c4_10 : ACode := .cond (.t 20) c4_11 c4_12
def c4_9 : ACode := .reg [{ dst := some 13, op := AOp.mv (Opd.t 3), grd := none }, { dst := some 14, op := AOp.mv (Opd.t 0), grd := none }, { dst := some 15, op := AOp.len 1 (Opd.t 14), grd := none }, { dst := some 16, op := AOp.bin (BinOp.lss) (Opd.t 13) (Opd.t 15), grd := none }, { dst := some 17, op := AOp.mv (Opd.t 16), grd := none }, { dst := some 18, op := AOp.mv (Opd.t 3), grd := some (17, true) }, { dst := some 19, op := AOp.bin (BinOp.lss) (Opd.t 18) (Opd.c (AV.int (IntKind.i64) 8)), grd := some (17, true) }, { dst := some 20, op := AOp.pick (Opd.t 17) (Opd.t 19) (Opd.c (AV.bool false)), grd := none }]
def c4_8 : ACode := .seq c4_9 c4_10
def c4_7 : ACode := .seq c4_8 c4_13
def c4_6 : ACode := .loop c4_7
def c4_5 : ACode := .block 0 c4_6
def c4_4 : ACode := .reg [{ dst := some 3, op := AOp.mv (Opd.c (AV.int (IntKind.i64) 0)), grd := none }]
def c4_3 : ACode := .seq c4_4 c4_5
def c4_2 : ACode := .seq c4_3 c4_82
def c4_1 : ACode := .reg [{ dst := some 2, op := AOp.mv (Opd.c (AV.bool false)), grd := none }]
def c4_0 : ACode := .seq c4_1 c4_2
def A4 : AFun := { np := 1, res := [(2, none)], body := c4_0 }

def c5_66 : ACode := .ret
def c5_65 : ACode := .reg [{ dst := some 97, op := AOp.call (Opd.c (AV.fn (AFn.func 14) [] [])) [], grd := none }, { dst := some 2, op := AOp.mv (Opd.t 97), grd := none }]
def c5_64 : ACode := .seq c5_65 c5_66
def c5_63 : ACode := .reg [{ dst := some 18, op := AOp.mv (Opd.t 3), grd := none }, { dst := some 19, op := AOp.bin (BinOp.add) (Opd.t 18) (Opd.c (AV.int (IntKind.i64) 1)), grd := none }, { dst := some 3, op := AOp.mv (Opd.t 19), grd := none }]
def c5_62 : ACode := .skip
def c5_61 : ACode := .ret
def c5_60 : ACode := .reg [{ dst := some 2, op := AOp.mv (Opd.c (AV.bool false)), grd := none }]
def c5_59 : ACode := .seq c5_60 c5_61
def c5_58 : ACode := .cond (.t 96) c5_59 c5_62
set_option maxRecDepth 100000 in
def c5_57 : ACode := .reg [{ dst := some 68, op := AOp.mv (Opd.t 9), grd := none }, { dst := some 69, op := AOp.bin (BinOp.neq) (Opd.t 68) (Opd.c (AV.int (IntKind.i64) 0)), grd := none }, { dst := some 70, op := AOp.mv (Opd.t 69), grd := none }, { dst := some 71, op := AOp.mv (Opd.t 7), grd := some (70, false) }, { dst := some 72, op := AOp.len 1 (Opd.t 71), grd := some (70, false) }, { dst := some 73, op := AOp.bin (BinOp.neq) (Opd.t 72) (Opd.c (AV.int (IntKind.i64) 1)), grd := some (70, false) }, { dst := some 74, op := AOp.pick (Opd.t 70) (Opd.c (AV.bool true)) (Opd.t 73), grd := none }, { dst := some 75, op := AOp.mv (Opd.t 74), grd := none }, { dst := some 76, op := AOp.mv (Opd.t 7), grd := some (75, false) }, { dst := some 77, op := AOp.iadr 4 (Opd.t 76) (Opd.c (AV.int (IntKind.i64) 0)), grd := some (75, false) }, { dst := some 78, op := AOp.fadr 0 (Opd.t 77), grd := some (75, false) }, { dst := some 79, op := AOp.load false 1 (Opd.t 78), grd := some (75, false) }, { dst := some 80, op := AOp.bin (BinOp.neq) (Opd.t 79) (Opd.c (AV.int (IntKind.i64) 3)), grd := some (75, false) }, { dst := some 81, op := AOp.pick (Opd.t 75) (Opd.c (AV.bool true)) (Opd.t 80), grd := none }, { dst := some 82, op := AOp.mv (Opd.t 81), grd := none }, { dst := some 83, op := AOp.mv (Opd.t 7), grd := some (82, false) }, { dst := some 84, op := AOp.iadr 4 (Opd.t 83) (Opd.c (AV.int (IntKind.i64) 0)), grd := some (82, false) }, { dst := some 85, op := AOp.fadr 1 (Opd.t 84), grd := some (82, false) }, { dst := some 86, op := AOp.load false 1 (Opd.t 85), grd := some (82, false) }, { dst := some 87, op := AOp.mv (Opd.t 4), grd := some (82, false) }, { dst := some 88, op := AOp.bin (BinOp.neq) (Opd.t 86) (Opd.t 87), grd := some (82, false) }, { dst := some 89, op := AOp.pick (Opd.t 82) (Opd.c (AV.bool true)) (Opd.t 88), grd := none }, { dst := some 90, op := AOp.mv (Opd.t 89), grd := none }, { dst := some 91, op := AOp.mv (Opd.t 7), grd := some (90, false) }, { dst := some 92, op := AOp.iadr 4 (Opd.t 91) (Opd.c (AV.int (IntKind.i64) 0)), grd := some (90, false) }, { dst := some 93, op := AOp.fadr 2 (Opd.t 92), grd := some (90, false) }, { dst := some 94, op := AOp.load false 1 (Opd.t 93), grd := some (90, false) }, { dst := some 95, op := AOp.bin (BinOp.neq) (Opd.t 94) (Opd.c (AV.int (IntKind.i64) 1)), grd := some (90, false) }, { dst := some 96, op := AOp.pick (Opd.t 90) (Opd.c (AV.bool true)) (Opd.t 95), grd := none }]
def c5_56 : ACode := .seq c5_57 c5_58
def c5_55 : ACode := .skip
def c5_54 : ACode := .exit 1
def c5_53 : ACode := .skip
def c5_52 : ACode := .ret
def c5_51 : ACode := .reg [{ dst := some 2, op := AOp.mv (Opd.c (AV.bool false)), grd := none }]
def c5_50 : ACode := .seq c5_51 c5_52
def c5_49 : ACode := .cond (.t 67) c5_50 c5_53
def c5_48 : ACode := .reg [{ dst := some 62, op := AOp.mv (Opd.t 9), grd := none }, { dst := some 63, op := AOp.bin (BinOp.neq) (Opd.t 62) (Opd.c (AV.int (IntKind.i64) 20)), grd := none }, { dst := some 64, op := AOp.mv (Opd.t 63), grd := none }, { dst := some 65, op := AOp.mv (Opd.t 8), grd := some (64, false) }, { dst := some 66, op := AOp.bin (BinOp.neq) (Opd.t 65) (Opd.c (AV.int (IntKind.i64) 1)), grd := some (64, false) }, { dst := some 67, op := AOp.pick (Opd.t 64) (Opd.c (AV.bool true)) (Opd.t 66), grd := none }]
def c5_47 : ACode := .seq c5_48 c5_49
def c5_46 : ACode := .seq c5_47 c5_54
def c5_45 : ACode := .cond (.t 61) c5_46 c5_55
def c5_44 : ACode := .reg [{ dst := some 61, op := AOp.mv (Opd.t 5), grd := none }]
def c5_43 : ACode := .seq c5_44 c5_45
def c5_42 : ACode := .seq c5_43 c5_56
def c5_41 : ACode := .reg [{ dst := some 53, op := AOp.mv (Opd.t 4), grd := none }, { dst := some 54, op := AOp.call (Opd.c (AV.fn (AFn.func 12) [] [])) [Opd.t 53], grd := none }, { dst := some 55, op := AOp.bin (BinOp.add) (Opd.c (AV.str [32])) (Opd.t 54), grd := none }, { dst := some 56, op := AOp.bin (BinOp.add) (Opd.t 55) (Opd.c (AV.str [32])), grd := none }, { dst := some 57, op := AOp.call (Opd.c (AV.fn (AFn.func 8) [] [])) [Opd.t 56], grd := none }, { dst := some 52, op := AOp.mv (Opd.t 57), grd := none }, { dst := some 58, op := AOp.ext (Opd.t 52) 0, grd := none }, { dst := some 59, op := AOp.ext (Opd.t 52) 1, grd := none }, { dst := some 60, op := AOp.ext (Opd.t 52) 2, grd := none }, { dst := some 7, op := AOp.mv (Opd.t 58), grd := none }, { dst := some 8, op := AOp.mv (Opd.t 59), grd := none }, { dst := some 9, op := AOp.mv (Opd.t 60), grd := none }]
def c5_40 : ACode := .seq c5_41 c5_42
def c5_39 : ACode := .reg [{ dst := some 31, op := AOp.mv (Opd.t 6), grd := none }, { dst := some 32, op := AOp.bin (BinOp.add) (Opd.t 31) (Opd.c (AV.int (IntKind.i64) 1)), grd := none }, { dst := some 6, op := AOp.mv (Opd.t 32), grd := none }]
set_option maxRecDepth 100000 in
def c5_38 : ACode := .reg [{ dst := some 33, op := AOp.mv (Opd.t 5), grd := none }, { dst := some 34, op := AOp.mv (Opd.t 33), grd := none }, { dst := some 35, op := AOp.mv (Opd.t 4), grd := some (34, false) }, { dst := some 36, op := AOp.mv (Opd.t 6), grd := some (34, false) }, { dst := some 37, op := AOp.idxs (Opd.t 35) (Opd.t 36), grd := some (34, false) }, { dst := some 38, op := AOp.bin (BinOp.lss) (Opd.t 37) (Opd.c (AV.int (IntKind.u8) 32)), grd := some (34, false) }, { dst := some 39, op := AOp.mv (Opd.t 38), grd := some (34, false) }, { dst := some 40, op := AOp.mv (Opd.t 4), grd := some (39, true) }, { dst := some 41, op := AOp.mv (Opd.t 6), grd := some (39, true) }, { dst := some 42, op := AOp.idxs (Opd.t 40) (Opd.t 41), grd := some (39, true) }, { dst := some 43, op := AOp.bin (BinOp.neq) (Opd.t 42) (Opd.c (AV.int (IntKind.u8) 10)), grd := some (39, true) }, { dst := some 44, op := AOp.pick (Opd.t 39) (Opd.t 43) (Opd.c (AV.bool false)), grd := some (34, false) }, { dst := some 45, op := AOp.mv (Opd.t 44), grd := some (34, false) }, { dst := some 46, op := AOp.mv (Opd.t 4), grd := some (45, true) }, { dst := some 47, op := AOp.mv (Opd.t 6), grd := some (45, true) }, { dst := some 48, op := AOp.idxs (Opd.t 46) (Opd.t 47), grd := some (45, true) }, { dst := some 49, op := AOp.bin (BinOp.neq) (Opd.t 48) (Opd.c (AV.int (IntKind.u8) 9)), grd := some (45, true) }, { dst := some 50, op := AOp.pick (Opd.t 45) (Opd.t 49) (Opd.c (AV.bool false)), grd := some (34, false) }, { dst := some 51, op := AOp.pick (Opd.t 34) (Opd.c (AV.bool true)) (Opd.t 50), grd := none }, { dst := some 5, op := AOp.mv (Opd.t 51), grd := none }]
def c5_37 : ACode := .block 3 c5_38
def c5_36 : ACode := .seq c5_37 c5_39
def c5_35 : ACode := .exit 2
def c5_34 : ACode := .skip
def c5_33 : ACode := .cond (.t 30) c5_34 c5_35
def c5_32 : ACode := .reg [{ dst := some 27, op := AOp.mv (Opd.t 6), grd := none }, { dst := some 28, op := AOp.mv (Opd.t 4), grd := none }, { dst := some 29, op := AOp.len 0 (Opd.t 28), grd := none }, { dst := some 30, op := AOp.bin (BinOp.lss) (Opd.t 27) (Opd.t 29), grd := none }]
def c5_31 : ACode := .seq c5_32 c5_33
def c5_30 : ACode := .seq c5_31 c5_36
def c5_29 : ACode := .loop c5_30
def c5_28 : ACode := .block 2 c5_29
def c5_27 : ACode := .reg [{ dst := some 6, op := AOp.mv (Opd.c (AV.int (IntKind.i64) 0)), grd := none }]
def c5_26 : ACode := .seq c5_27 c5_28
def c5_25 : ACode := .seq c5_26 c5_40
def c5_24 : ACode := .reg [{ dst := some 5, op := AOp.mv (Opd.c (AV.bool false)), grd := none }]
def c5_23 : ACode := .seq c5_24 c5_25
def c5_22 : ACode := .skip
def c5_21 : ACode := .exit 1
def c5_20 : ACode := .cond (.t 26) c5_21 c5_22
def c5_19 : ACode := .reg [{ dst := some 24, op := AOp.mv (Opd.t 4), grd := none }, { dst := some 25, op := AOp.len 0 (Opd.t 24), grd := none }, { dst := some 26, op := AOp.bin (BinOp.gtr) (Opd.t 25) (Opd.c (AV.int (IntKind.i64) 2000)), grd := none }]
def c5_18 : ACode := .seq c5_19 c5_20
def c5_17 : ACode := .seq c5_18 c5_23
def c5_16 : ACode := .reg [{ dst := some 20, op := AOp.mv (Opd.t 0), grd := none }, { dst := some 21, op := AOp.mv (Opd.t 3), grd := none }, { dst := some 22, op := AOp.iadr 1 (Opd.t 20) (Opd.t 21), grd := none }, { dst := some 23, op := AOp.load false 1 (Opd.t 22), grd := none }, { dst := some 4, op := AOp.mv (Opd.t 23), grd := none }]
def c5_15 : ACode := .seq c5_16 c5_17
def c5_14 : ACode := .block 1 c5_15
def c5_13 : ACode := .seq c5_14 c5_63
def c5_12 : ACode := .exit 0
def c5_11 : ACode := .skip
def c5_10 : ACode := .cond (.t 17) c5_11 c5_12
def c5_9 : ACode := .reg [{ dst := some 10, op := AOp.mv (Opd.t 3), grd := none }, { dst := some 11, op := AOp.mv (Opd.t 0), grd := none }, { dst := some 12, op := AOp.len 1 (Opd.t 11), grd := none }, { dst := some 13, op := AOp.bin (BinOp.lss) (Opd.t 10) (Opd.t 12), grd := none }, { dst := some 14, op := AOp.mv (Opd.t 13), grd := none }, { dst := some 15, op := AOp.mv (Opd.t 3), grd := some (14, true) }, { dst := some 16, op := AOp.bin (BinOp.lss) (Opd.t 15) (Opd.c (AV.int (IntKind.i64) 8)), grd := some (14, true) }, { dst := some 17, op := AOp.pick (Opd.t 14) (Opd.t 16) (Opd.c (AV.bool false)), grd := none }]
def c5_8 : ACode := .seq c5_9 c5_10
def c5_7 : ACode := .seq c5_8 c5_13
def c5_6 : ACode := .loop c5_7
def c5_5 : ACode := .block 0 c5_6
def c5_4 : ACode := .reg [{ dst := some 3, op := AOp.mv (Opd.c (AV.int (IntKind.i64) 0)), grd := none }]
def c5_3 : ACode := .seq c5_4 c5_5
def c5_2 : ACode := .seq c5_3 c5_64
def c5_1 : ACode := .reg [{ dst := some 2, op := AOp.mv (Opd.c (AV.bool false)), grd := none }]
def c5_0 : ACode := .seq c5_1 c5_2
def A5 : AFun := { np := 1, res := [(2, none)], body := c5_0 }

def c6_88 : ACode := .ret
def c6_87 : ACode := .reg [{ dst := some 148, op := AOp.call (Opd.c (AV.fn (AFn.func 14) [] [])) [], grd := none }, { dst := some 2, op := AOp.mv (Opd.t 148), grd := none }]
def c6_86 : ACode := .seq c6_87 c6_88
def c6_85 : ACode := .reg [{ dst := some 24, op := AOp.mv (Opd.t 3), grd := none }, { dst := some 25, op := AOp.bin (BinOp.add) (Opd.t 24) (Opd.c (AV.int (IntKind.i64) 1)), grd := none }, { dst := some 3, op := AOp.mv (Opd.t 25), grd := none }]
def c6_84 : ACode := .reg [{ dst := some 96, op := AOp.mv (Opd.t 15), grd := none }, { dst := some 97, op := AOp.bin (BinOp.add) (Opd.t 96) (Opd.c (AV.int (IntKind.i64) 1)), grd := none }, { dst := some 15, op := AOp.mv (Opd.t 97), grd := none }]
def c6_83 : ACode := .skip
def c6_82 : ACode := .ret
def c6_81 : ACode := .reg [{ dst := some 2, op := AOp.mv (Opd.c (AV.bool false)), grd := none }]
def c6_80 : ACode := .seq c6_81 c6_82
def c6_79 : ACode := .cond (.t 147) c6_80 c6_83
set_option maxRecDepth 100000 in
def c6_78 : ACode := .dreg [{ dst := some 98, op := AOp.mv (Opd.t 12), grd := none }, { dst := some 99, op := AOp.mv (Opd.t 6), grd := none }, { dst := some 100, op := AOp.len 1 (Opd.t 99), grd := none }, { dst := some 101, op := AOp.mv (Opd.t 15), grd := none }, { dst := some 102, op := AOp.bin (BinOp.add) (Opd.t 100) (Opd.t 101), grd := none }, { dst := some 103, op := AOp.iadr 4 (Opd.t 98) (Opd.t 102), grd := none }, { dst := some 104, op := AOp.fadr 2 (Opd.t 103), grd := none }, { dst := some 105, op := AOp.load false 1 (Opd.t 104), grd := none }, { dst := some 106, op := AOp.mv (Opd.t 9), grd := none }, { dst := some 107, op := AOp.mv (Opd.t 15), grd := none }, { dst := some 108, op := AOp.iadr 4 (Opd.t 106) (Opd.t 107), grd := none }, { dst := some 109, op := AOp.fadr 2 (Opd.t 108), grd := none }, { dst := some 110, op := AOp.load false 1 (Opd.t 109), grd := none }, { dst := some 111, op := AOp.mv (Opd.t 4), grd := none }, { dst := some 112, op := AOp.len 0 (Opd.t 111), grd := none }, { dst := some 113, op := AOp.bin (BinOp.add) (Opd.t 110) (Opd.t 112), grd := none }, { dst := some 114, op := AOp.bin (BinOp.add) (Opd.t 113) (Opd.c (AV.int (IntKind.i64) 1)), grd := none }, { dst := some 115, op := AOp.bin (BinOp.neq) (Opd.t 105) (Opd.t 114), grd := none }, { dst := some 116, op := AOp.mv (Opd.t 115), grd := none }, { dst := some 117, op := AOp.mv (Opd.t 12), grd := some (116, false) }, { dst := some 118, op := AOp.mv (Opd.t 6), grd := some (116, false) }, { dst := some 119, op := AOp.len 1 (Opd.t 118), grd := some (116, false) }, { dst := some 120, op := AOp.mv (Opd.t 15), grd := some (116, false) }, { dst := some 121, op := AOp.bin (BinOp.add) (Opd.t 119) (Opd.t 120), grd := some (116, false) }, { dst := some 122, op := AOp.iadr 4 (Opd.t 117) (Opd.t 121), grd := some (116, false) }, { dst := some 123, op := AOp.fadr 1 (Opd.t 122), grd := some (116, false) }, { dst := some 124, op := AOp.load false 1 (Opd.t 123), grd := some (116, false) }, { dst := some 125, op := AOp.mv (Opd.t 9), grd := some (116, false) }, { dst := some 126, op := AOp.mv (Opd.t 15), grd := some (116, false) }, { dst := some 127, op := AOp.iadr 4 (Opd.t 125) (Opd.t 126), grd := some (116, false) }, { dst := some 128, op := AOp.fadr 1 (Opd.t 127), grd := some (116, false) }, { dst := some 129, op := AOp.load false 1 (Opd.t 128), grd := some (116, false) }, { dst := some 130, op := AOp.bin (BinOp.neq) (Opd.t 124) (Opd.t 129), grd := some (116, false) }, { dst := some 131, op := AOp.pick (Opd.t 116) (Opd.c (AV.bool true)) (Opd.t 130), grd := none }, { dst := some 132, op := AOp.mv (Opd.t 131), grd := none }, { dst := some 133, op := AOp.mv (Opd.t 12), grd := some (132, false) }, { dst := some 134, op := AOp.mv (Opd.t 6), grd := some (132, false) }, { dst := some 135, op := AOp.len 1 (Opd.t 134), grd := some (132, false) }, { dst := some 136, op := AOp.mv (Opd.t 15), grd := some (132, false) }, { dst := some 137, op := AOp.bin (BinOp.add) (Opd.t 135) (Opd.t 136), grd := some (132, false) }, { dst := some 138, op := AOp.iadr 4 (Opd.t 133) (Opd.t 137), grd := some (132, false) }, { dst := some 139, op := AOp.fadr 0 (Opd.t 138), grd := some (132, false) }, { dst := some 140, op := AOp.load false 1 (Opd.t 139), grd := some (132, false) }, { dst := some 141, op := AOp.mv (Opd.t 9), grd := some (132, false) }, { dst := some 142, op := AOp.mv (Opd.t 15), grd := some (132, false) }, { dst := some 143, op := AOp.iadr 4 (Opd.t 141) (Opd.t 142), grd := some (132, false) }, { dst := some 144, op := AOp.fadr 0 (Opd.t 143), grd := some (132, false) }, { dst := some 145, op := AOp.load false 1 (Opd.t 144), grd := some (132, false) }, { dst := some 146, op := AOp.bin (BinOp.neq) (Opd.t 140) (Opd.t 145), grd := some (132, false) }, { dst := some 147, op := AOp.pick (Opd.t 132) (Opd.c (AV.bool true)) (Opd.t 146), grd := none }] []
def c6_77 : ACode := .seq c6_78 c6_79
def c6_76 : ACode := .block 3 c6_77
def c6_75 : ACode := .seq c6_76 c6_84
def c6_74 : ACode := .exit 2
def c6_73 : ACode := .skip
def c6_72 : ACode := .cond (.t 95) c6_73 c6_74
def c6_71 : ACode := .reg [{ dst := some 92, op := AOp.mv (Opd.t 15), grd := none }, { dst := some 93, op := AOp.mv (Opd.t 9), grd := none }, { dst := some 94, op := AOp.len 1 (Opd.t 93), grd := none }, { dst := some 95, op := AOp.bin (BinOp.lss) (Opd.t 92) (Opd.t 94), grd := none }]
def c6_70 : ACode := .seq c6_71 c6_72
def c6_69 : ACode := .seq c6_70 c6_75
def c6_68 : ACode := .loop c6_69
def c6_67 : ACode := .block 2 c6_68
def c6_66 : ACode := .reg [{ dst := some 15, op := AOp.mv (Opd.c (AV.int (IntKind.i64) 0)), grd := none }]
def c6_65 : ACode := .seq c6_66 c6_67
def c6_64 : ACode := .skip
def c6_63 : ACode := .ret
def c6_62 : ACode := .reg [{ dst := some 2, op := AOp.mv (Opd.c (AV.bool false)), grd := none }]
def c6_61 : ACode := .seq c6_62 c6_63
def c6_60 : ACode := .cond (.t 91) c6_61 c6_64
def c6_59 : ACode := .reg [{ dst := some 80, op := AOp.mv (Opd.t 14), grd := none }, { dst := some 81, op := AOp.bin (BinOp.neq) (Opd.t 80) (Opd.c (AV.int (IntKind.i64) 0)), grd := none }, { dst := some 82, op := AOp.mv (Opd.t 81), grd := none }, { dst := some 83, op := AOp.mv (Opd.t 12), grd := some (82, false) }, { dst := some 84, op := AOp.len 1 (Opd.t 83), grd := some (82, false) }, { dst := some 85, op := AOp.mv (Opd.t 6), grd := some (82, false) }, { dst := some 86, op := AOp.len 1 (Opd.t 85), grd := some (82, false) }, { dst := some 87, op := AOp.mv (Opd.t 9), grd := some (82, false) }, { dst := some 88, op := AOp.len 1 (Opd.t 87), grd := some (82, false) }, { dst := some 89, op := AOp.bin (BinOp.add) (Opd.t 86) (Opd.t 88), grd := some (82, false) }, { dst := some 90, op := AOp.bin (BinOp.neq) (Opd.t 84) (Opd.t 89), grd := some (82, false) }, { dst := some 91, op := AOp.pick (Opd.t 82) (Opd.c (AV.bool true)) (Opd.t 90), grd := none }]
def c6_58 : ACode := .seq c6_59 c6_60
def c6_57 : ACode := .seq c6_58 c6_65
def c6_56 : ACode := .skip
def c6_55 : ACode := .exit 1
def c6_54 : ACode := .skip
def c6_53 : ACode := .ret
def c6_52 : ACode := .reg [{ dst := some 2, op := AOp.mv (Opd.c (AV.bool false)), grd := none }]
def c6_51 : ACode := .seq c6_52 c6_53
def c6_50 : ACode := .cond (.t 79) c6_51 c6_54
def c6_49 : ACode := .reg [{ dst := some 68, op := AOp.mv (Opd.t 14), grd := none }, { dst := some 69, op := AOp.mv (Opd.t 11), grd := none }, { dst := some 70, op := AOp.bin (BinOp.neq) (Opd.t 68) (Opd.t 69), grd := none }, { dst := some 71, op := AOp.mv (Opd.t 70), grd := none }, { dst := some 72, op := AOp.mv (Opd.t 13), grd := some (71, false) }, { dst := some 73, op := AOp.mv (Opd.t 4), grd := some (71, false) }, { dst := some 74, op := AOp.len 0 (Opd.t 73), grd := some (71, false) }, { dst := some 75, op := AOp.bin (BinOp.add) (Opd.t 74) (Opd.c (AV.int (IntKind.i64) 1)), grd := some (71, false) }, { dst := some 76, op := AOp.mv (Opd.t 10), grd := some (71, false) }, { dst := some 77, op := AOp.bin (BinOp.add) (Opd.t 75) (Opd.t 76), grd := some (71, false) }, { dst := some 78, op := AOp.bin (BinOp.neq) (Opd.t 72) (Opd.t 77), grd := some (71, false) }, { dst := some 79, op := AOp.pick (Opd.t 71) (Opd.c (AV.bool true)) (Opd.t 78), grd := none }]
def c6_48 : ACode := .seq c6_49 c6_50
def c6_47 : ACode := .seq c6_48 c6_55
def c6_46 : ACode := .cond (.t 67) c6_47 c6_56
def c6_45 : ACode := .reg [{ dst := some 66, op := AOp.mv (Opd.t 11), grd := none }, { dst := some 67, op := AOp.bin (BinOp.neq) (Opd.t 66) (Opd.c (AV.int (IntKind.i64) 0)), grd := none }]
def c6_44 : ACode := .seq c6_45 c6_46
def c6_43 : ACode := .seq c6_44 c6_57
def c6_42 : ACode := .skip
def c6_41 : ACode := .exit 1
def c6_40 : ACode := .skip
def c6_39 : ACode := .ret
def c6_38 : ACode := .reg [{ dst := some 2, op := AOp.mv (Opd.c (AV.bool false)), grd := none }]
def c6_37 : ACode := .seq c6_38 c6_39
def c6_36 : ACode := .cond (.t 65) c6_37 c6_40
def c6_35 : ACode := .reg [{ dst := some 64, op := AOp.mv (Opd.t 14), grd := none }, { dst := some 65, op := AOp.bin (BinOp.neq) (Opd.t 64) (Opd.c (AV.int (IntKind.i64) 20)), grd := none }]
def c6_34 : ACode := .seq c6_35 c6_36
def c6_33 : ACode := .seq c6_34 c6_41
def c6_32 : ACode := .cond (.t 63) c6_33 c6_42
def c6_31 : ACode := .reg [{ dst := some 62, op := AOp.mv (Opd.t 8), grd := none }, { dst := some 63, op := AOp.bin (BinOp.neq) (Opd.t 62) (Opd.c (AV.int (IntKind.i64) 0)), grd := none }]
def c6_30 : ACode := .seq c6_31 c6_32
def c6_29 : ACode := .seq c6_30 c6_43
def c6_28 : ACode := .reg [{ dst := some 54, op := AOp.mv (Opd.t 4), grd := none }, { dst := some 55, op := AOp.bin (BinOp.add) (Opd.t 54) (Opd.c (AV.str [10])), grd := none }, { dst := some 56, op := AOp.mv (Opd.t 5), grd := none }, { dst := some 57, op := AOp.bin (BinOp.add) (Opd.t 55) (Opd.t 56), grd := none }, { dst := some 58, op := AOp.call (Opd.c (AV.fn (AFn.func 8) [] [])) [Opd.t 57], grd := none }, { dst := some 53, op := AOp.mv (Opd.t 58), grd := none }, { dst := some 59, op := AOp.ext (Opd.t 53) 0, grd := none }, { dst := some 60, op := AOp.ext (Opd.t 53) 1, grd := none }, { dst := some 61, op := AOp.ext (Opd.t 53) 2, grd := none }, { dst := some 12, op := AOp.mv (Opd.t 59), grd := none }, { dst := some 13, op := AOp.mv (Opd.t 60), grd := none }, { dst := some 14, op := AOp.mv (Opd.t 61), grd := none }]
def c6_27 : ACode := .seq c6_28 c6_29
def c6_26 : ACode := .reg [{ dst := some 48, op := AOp.mv (Opd.t 5), grd := none }, { dst := some 49, op := AOp.call (Opd.c (AV.fn (AFn.func 8) [] [])) [Opd.t 48], grd := none }, { dst := some 47, op := AOp.mv (Opd.t 49), grd := none }, { dst := some 50, op := AOp.ext (Opd.t 47) 0, grd := none }, { dst := some 51, op := AOp.ext (Opd.t 47) 1, grd := none }, { dst := some 52, op := AOp.ext (Opd.t 47) 2, grd := none }, { dst := some 9, op := AOp.mv (Opd.t 50), grd := none }, { dst := some 10, op := AOp.mv (Opd.t 51), grd := none }, { dst := some 11, op := AOp.mv (Opd.t 52), grd := none }]
def c6_25 : ACode := .seq c6_26 c6_27
def c6_24 : ACode := .reg [{ dst := some 42, op := AOp.mv (Opd.t 4), grd := none }, { dst := some 43, op := AOp.call (Opd.c (AV.fn (AFn.func 8) [] [])) [Opd.t 42], grd := none }, { dst := some 41, op := AOp.mv (Opd.t 43), grd := none }, { dst := some 44, op := AOp.ext (Opd.t 41) 0, grd := none }, { dst := some 45, op := AOp.ext (Opd.t 41) 1, grd := none }, { dst := some 46, op := AOp.ext (Opd.t 41) 2, grd := none }, { dst := some 6, op := AOp.mv (Opd.t 44), grd := none }, { dst := some 7, op := AOp.mv (Opd.t 45), grd := none }, { dst := some 8, op := AOp.mv (Opd.t 46), grd := none }]
def c6_23 : ACode := .seq c6_24 c6_25
def c6_22 : ACode := .skip
def c6_21 : ACode := .exit 1
def c6_20 : ACode := .cond (.t 40) c6_21 c6_22
def c6_19 : ACode := .reg [{ dst := some 35, op := AOp.mv (Opd.t 4), grd := none }, { dst := some 36, op := AOp.len 0 (Opd.t 35), grd := none }, { dst := some 37, op := AOp.mv (Opd.t 5), grd := none }, { dst := some 38, op := AOp.len 0 (Opd.t 37), grd := none }, { dst := some 39, op := AOp.bin (BinOp.add) (Opd.t 36) (Opd.t 38), grd := none }, { dst := some 40, op := AOp.bin (BinOp.gtr) (Opd.t 39) (Opd.c (AV.int (IntKind.i64) 2000)), grd := none }]
def c6_18 : ACode := .seq c6_19 c6_20
def c6_17 : ACode := .seq c6_18 c6_23
def c6_16 : ACode := .dreg [{ dst := some 26, op := AOp.mv (Opd.t 0), grd := none }, { dst := some 27, op := AOp.mv (Opd.t 3), grd := none }, { dst := some 28, op := AOp.bin (BinOp.sub) (Opd.t 27) (Opd.c (AV.int (IntKind.i64) 1)), grd := none }, { dst := some 29, op := AOp.iadr 1 (Opd.t 26) (Opd.t 28), grd := none }, { dst := some 30, op := AOp.load false 1 (Opd.t 29), grd := none }, { dst := some 31, op := AOp.mv (Opd.t 0), grd := none }, { dst := some 32, op := AOp.mv (Opd.t 3), grd := none }, { dst := some 33, op := AOp.iadr 1 (Opd.t 31) (Opd.t 32), grd := none }, { dst := some 34, op := AOp.load false 1 (Opd.t 33), grd := none }, { dst := some 4, op := AOp.mv (Opd.t 30), grd := none }, { dst := some 5, op := AOp.mv (Opd.t 34), grd := none }] []
def c6_15 : ACode := .seq c6_16 c6_17
def c6_14 : ACode := .block 1 c6_15
def c6_13 : ACode := .seq c6_14 c6_85
def c6_12 : ACode := .exit 0
def c6_11 : ACode := .skip
def c6_10 : ACode := .cond (.t 23) c6_11 c6_12
def c6_9 : ACode := .reg [{ dst := some 16, op := AOp.mv (Opd.t 3), grd := none }, { dst := some 17, op := AOp.mv (Opd.t 0), grd := none }, { dst := some 18, op := AOp.len 1 (Opd.t 17), grd := none }, { dst := some 19, op := AOp.bin (BinOp.lss) (Opd.t 16) (Opd.t 18), grd := none }, { dst := some 20, op := AOp.mv (Opd.t 19), grd := none }, { dst := some 21, op := AOp.mv (Opd.t 3), grd := some (20, true) }, { dst := some 22, op := AOp.bin (BinOp.lss) (Opd.t 21) (Opd.c (AV.int (IntKind.i64) 8)), grd := some (20, true) }, { dst := some 23, op := AOp.pick (Opd.t 20) (Opd.t 22) (Opd.c (AV.bool false)), grd := none }]
def c6_8 : ACode := .seq c6_9 c6_10
def c6_7 : ACode := .seq c6_8 c6_13
def c6_6 : ACode := .loop c6_7
def c6_5 : ACode := .block 0 c6_6
def c6_4 : ACode := .reg [{ dst := some 3, op := AOp.mv (Opd.c (AV.int (IntKind.i64) 1)), grd := none }]
def c6_3 : ACode := .seq c6_4 c6_5
def c6_2 : ACode := .seq c6_3 c6_86
def c6_1 : ACode := .reg [{ dst := some 2, op := AOp.mv (Opd.c (AV.bool false)), grd := none }]
def c6_0 : ACode := .seq c6_1 c6_2
def A6 : AFun := { np := 1, res := [(2, none)], body := c6_0 }

def c7_46 : ACode := .ret
set_option maxRecDepth 100000 in
def c7_45 : ACode := .reg [{ dst := some 65, op := AOp.mv (Opd.t 5), grd := none }, { dst := some 66, op := AOp.bin (BinOp.eql) (Opd.t 65) (Opd.c (AV.int (IntKind.i64) 0)), grd := none }, { dst := some 67, op := AOp.mv (Opd.t 66), grd := none }, { dst := some 68, op := AOp.mv (Opd.t 3), grd := some (67, true) }, { dst := some 69, op := AOp.len 1 (Opd.t 68), grd := some (67, true) }, { dst := some 70, op := AOp.bin (BinOp.eql) (Opd.t 69) (Opd.c (AV.int (IntKind.i64) 4096)), grd := some (67, true) }, { dst := some 71, op := AOp.pick (Opd.t 67) (Opd.t 70) (Opd.c (AV.bool false)), grd := none }, { dst := some 72, op := AOp.mv (Opd.t 71), grd := none }, { dst := some 73, op := AOp.mv (Opd.t 8), grd := some (72, true) }, { dst := some 74, op := AOp.bin (BinOp.eql) (Opd.t 73) (Opd.c (AV.int (IntKind.i64) 20)), grd := some (72, true) }, { dst := some 75, op := AOp.pick (Opd.t 72) (Opd.t 74) (Opd.c (AV.bool false)), grd := none }, { dst := some 76, op := AOp.mv (Opd.t 75), grd := none }, { dst := some 77, op := AOp.mv (Opd.t 7), grd := some (76, true) }, { dst := some 78, op := AOp.mv (Opd.t 1), grd := some (76, true) }, { dst := some 79, op := AOp.len 1 (Opd.t 78), grd := some (76, true) }, { dst := some 80, op := AOp.bin (BinOp.eql) (Opd.t 77) (Opd.t 79), grd := some (76, true) }, { dst := some 81, op := AOp.pick (Opd.t 76) (Opd.t 80) (Opd.c (AV.bool false)), grd := none }, { dst := some 82, op := AOp.mv (Opd.t 81), grd := none }, { dst := some 83, op := AOp.mv (Opd.t 13), grd := some (82, true) }, { dst := some 84, op := AOp.bin (BinOp.eql) (Opd.t 83) (Opd.c (AV.int (IntKind.i64) 0)), grd := some (82, true) }, { dst := some 85, op := AOp.pick (Opd.t 82) (Opd.t 84) (Opd.c (AV.bool false)), grd := none }, { dst := some 86, op := AOp.mv (Opd.t 85), grd := none }, { dst := some 87, op := AOp.mv (Opd.t 16), grd := some (86, true) }, { dst := some 88, op := AOp.bin (BinOp.eql) (Opd.t 87) (Opd.c (AV.int (IntKind.i64) 21)), grd := some (86, true) }, { dst := some 89, op := AOp.pick (Opd.t 86) (Opd.t 88) (Opd.c (AV.bool false)), grd := none }, { dst := some 90, op := AOp.mv (Opd.t 89), grd := none }, { dst := some 91, op := AOp.call (Opd.c (AV.fn (AFn.func 14) [] [])) [], grd := some (90, true) }, { dst := some 92, op := AOp.pick (Opd.t 90) (Opd.t 91) (Opd.c (AV.bool false)), grd := none }, { dst := some 0, op := AOp.mv (Opd.t 92), grd := none }]
def c7_44 : ACode := .seq c7_45 c7_46
def c7_43 : ACode := .reg [{ dst := some 58, op := AOp.mv (Opd.t 9), grd := none }, { dst := some 59, op := AOp.b2s (Opd.t 58), grd := none }, { dst := some 60, op := AOp.bin (BinOp.add) (Opd.t 59) (Opd.c (AV.str [32])), grd := none }, { dst := some 61, op := AOp.call (Opd.c (AV.fn (AFn.func 8) [] [])) [Opd.t 60], grd := none }, { dst := some 57, op := AOp.mv (Opd.t 61), grd := none }, { dst := some 62, op := AOp.ext (Opd.t 57) 0, grd := none }, { dst := some 63, op := AOp.ext (Opd.t 57) 1, grd := none }, { dst := some 64, op := AOp.ext (Opd.t 57) 2, grd := none }, { dst := some 14, op := AOp.mv (Opd.t 62), grd := none }, { dst := some 15, op := AOp.mv (Opd.t 63), grd := none }, { dst := some 16, op := AOp.mv (Opd.t 64), grd := none }]
def c7_42 : ACode := .seq c7_43 c7_44
def c7_41 : ACode := .reg [{ dst := some 51, op := AOp.mv (Opd.t 9), grd := none }, { dst := some 52, op := AOp.b2s (Opd.t 51), grd := none }, { dst := some 53, op := AOp.call (Opd.c (AV.fn (AFn.func 8) [] [])) [Opd.t 52], grd := none }, { dst := some 50, op := AOp.mv (Opd.t 53), grd := none }, { dst := some 54, op := AOp.ext (Opd.t 50) 0, grd := none }, { dst := some 55, op := AOp.ext (Opd.t 50) 1, grd := none }, { dst := some 56, op := AOp.ext (Opd.t 50) 2, grd := none }, { dst := some 11, op := AOp.mv (Opd.t 54), grd := none }, { dst := some 12, op := AOp.mv (Opd.t 55), grd := none }, { dst := some 13, op := AOp.mv (Opd.t 56), grd := none }]
def c7_40 : ACode := .seq c7_41 c7_42
def c7_39 : ACode := .reg [{ dst := some 45, op := AOp.mv (Opd.t 10), grd := none }, { dst := some 46, op := AOp.bin (BinOp.add) (Opd.t 45) (Opd.c (AV.int (IntKind.i64) 1)), grd := none }, { dst := some 10, op := AOp.mv (Opd.t 46), grd := none }]
def c7_38 : ACode := .reg [{ dst := some 47, op := AOp.mv (Opd.t 9), grd := none }, { dst := some 48, op := AOp.mv (Opd.t 10), grd := none }, { dst := some 49, op := AOp.iadr 1 (Opd.t 47) (Opd.t 48), grd := none }, { dst := none, op := AOp.store 1 (Opd.t 49) (Opd.c (AV.int (IntKind.u8) 32)), grd := none }]
def c7_37 : ACode := .block 3 c7_38
def c7_36 : ACode := .seq c7_37 c7_39
def c7_35 : ACode := .exit 2
def c7_34 : ACode := .skip
def c7_33 : ACode := .cond (.t 44) c7_34 c7_35
def c7_32 : ACode := .reg [{ dst := some 41, op := AOp.mv (Opd.t 10), grd := none }, { dst := some 42, op := AOp.mv (Opd.t 9), grd := none }, { dst := some 43, op := AOp.len 1 (Opd.t 42), grd := none }, { dst := some 44, op := AOp.bin (BinOp.lss) (Opd.t 41) (Opd.t 43), grd := none }]
def c7_31 : ACode := .seq c7_32 c7_33
def c7_30 : ACode := .seq c7_31 c7_36
def c7_29 : ACode := .loop c7_30
def c7_28 : ACode := .block 2 c7_29
def c7_27 : ACode := .reg [{ dst := some 10, op := AOp.mv (Opd.c (AV.int (IntKind.i64) 0)), grd := none }]
def c7_26 : ACode := .seq c7_27 c7_28
def c7_25 : ACode := .seq c7_26 c7_40
def c7_24 : ACode := .reg [{ dst := some 40, op := AOp.mksl 1 1 [AV.int (IntKind.u8) 0] (Opd.c (AV.int (IntKind.i64) 65536)) (Opd.c (AV.int (IntKind.i64) 65536)), grd := none }, { dst := some 9, op := AOp.mv (Opd.t 40), grd := none }]
def c7_23 : ACode := .seq c7_24 c7_25
def c7_22 : ACode := .reg [{ dst := some 33, op := AOp.mv (Opd.t 1), grd := none }, { dst := some 34, op := AOp.b2s (Opd.t 33), grd := none }, { dst := some 35, op := AOp.bin (BinOp.add) (Opd.t 34) (Opd.c (AV.str [98])), grd := none }, { dst := some 36, op := AOp.call (Opd.c (AV.fn (AFn.func 8) [] [])) [Opd.t 35], grd := none }, { dst := some 32, op := AOp.mv (Opd.t 36), grd := none }, { dst := some 37, op := AOp.ext (Opd.t 32) 0, grd := none }, { dst := some 38, op := AOp.ext (Opd.t 32) 1, grd := none }, { dst := some 39, op := AOp.ext (Opd.t 32) 2, grd := none }, { dst := some 6, op := AOp.mv (Opd.t 37), grd := none }, { dst := some 7, op := AOp.mv (Opd.t 38), grd := none }, { dst := some 8, op := AOp.mv (Opd.t 39), grd := none }]
def c7_21 : ACode := .seq c7_22 c7_23
def c7_20 : ACode := .reg [{ dst := some 26, op := AOp.mv (Opd.t 1), grd := none }, { dst := some 27, op := AOp.b2s (Opd.t 26), grd := none }, { dst := some 28, op := AOp.call (Opd.c (AV.fn (AFn.func 8) [] [])) [Opd.t 27], grd := none }, { dst := some 25, op := AOp.mv (Opd.t 28), grd := none }, { dst := some 29, op := AOp.ext (Opd.t 25) 0, grd := none }, { dst := some 30, op := AOp.ext (Opd.t 25) 1, grd := none }, { dst := some 31, op := AOp.ext (Opd.t 25) 2, grd := none }, { dst := some 3, op := AOp.mv (Opd.t 29), grd := none }, { dst := some 4, op := AOp.mv (Opd.t 30), grd := none }, { dst := some 5, op := AOp.mv (Opd.t 31), grd := none }]
def c7_19 : ACode := .seq c7_20 c7_21
def c7_18 : ACode := .reg [{ dst := some 20, op := AOp.mv (Opd.t 2), grd := none }, { dst := some 21, op := AOp.bin (BinOp.add) (Opd.t 20) (Opd.c (AV.int (IntKind.i64) 1)), grd := none }, { dst := some 2, op := AOp.mv (Opd.t 21), grd := none }]
def c7_17 : ACode := .reg [{ dst := some 22, op := AOp.mv (Opd.t 1), grd := none }, { dst := some 23, op := AOp.bslice 2 1 [AV.int (IntKind.u8) 0] [(0, Opd.c (AV.int (IntKind.u8) 97)), (1, Opd.c (AV.int (IntKind.u8) 32))], grd := none }, { dst := some 24, op := AOp.appb 5 (Opd.t 22) (Opd.t 23), grd := none }, { dst := some 1, op := AOp.mv (Opd.t 24), grd := none }]
def c7_16 : ACode := .block 1 c7_17
def c7_15 : ACode := .seq c7_16 c7_18
def c7_14 : ACode := .exit 0
def c7_13 : ACode := .skip
def c7_12 : ACode := .cond (.t 19) c7_13 c7_14
def c7_11 : ACode := .reg [{ dst := some 18, op := AOp.mv (Opd.t 2), grd := none }, { dst := some 19, op := AOp.bin (BinOp.lss) (Opd.t 18) (Opd.c (AV.int (IntKind.i64) 4096)), grd := none }]
def c7_10 : ACode := .seq c7_11 c7_12
def c7_9 : ACode := .seq c7_10 c7_15
def c7_8 : ACode := .loop c7_9
def c7_7 : ACode := .block 0 c7_8
def c7_6 : ACode := .reg [{ dst := some 2, op := AOp.mv (Opd.c (AV.int (IntKind.i64) 0)), grd := none }]
def c7_5 : ACode := .seq c7_6 c7_7
def c7_4 : ACode := .seq c7_5 c7_19
def c7_3 : ACode := .reg [{ dst := some 17, op := AOp.mksl 1 1 [AV.int (IntKind.u8) 0] (Opd.c (AV.int (IntKind.i64) 0)) (Opd.c (AV.int (IntKind.i64) 8192)), grd := none }, { dst := some 1, op := AOp.mv (Opd.t 17), grd := none }]
def c7_2 : ACode := .seq c7_3 c7_4
def c7_1 : ACode := .reg [{ dst := some 0, op := AOp.mv (Opd.c (AV.bool false)), grd := none }]
def c7_0 : ACode := .seq c7_1 c7_2
def A7 : AFun := { np := 0, res := [(0, none)], body := c7_0 }

def c8_12 : ACode := .ret
def c8_11 : ACode := .reg [{ dst := some 8, op := AOp.mv (Opd.t 0), grd := none }, { dst := some 9, op := AOp.call (Opd.c (AV.fn (AFn.func 16) [] [])) [Opd.t 8], grd := none }, { dst := some 10, op := AOp.ext (Opd.t 9) 0, grd := none }, { dst := some 11, op := AOp.ext (Opd.t 9) 1, grd := none }, { dst := some 12, op := AOp.ext (Opd.t 9) 2, grd := none }, { dst := some 2, op := AOp.mv (Opd.t 10), grd := none }, { dst := some 3, op := AOp.mv (Opd.t 11), grd := none }, { dst := some 4, op := AOp.mv (Opd.t 12), grd := none }]
def c8_10 : ACode := .seq c8_11 c8_12
def c8_9 : ACode := .skip
def c8_8 : ACode := .ret
def c8_7 : ACode := .reg [{ dst := some 2, op := AOp.mv (Opd.c (AV.nilSlc)), grd := none }, { dst := some 3, op := AOp.mv (Opd.c (AV.int (IntKind.i64) 0)), grd := none }, { dst := some 4, op := AOp.mv (Opd.c (AV.int (IntKind.i64) 21)), grd := none }]
def c8_6 : ACode := .seq c8_7 c8_8
def c8_5 : ACode := .cond (.t 7) c8_6 c8_9
def c8_4 : ACode := .reg [{ dst := some 5, op := AOp.mv (Opd.t 0), grd := none }, { dst := some 6, op := AOp.len 0 (Opd.t 5), grd := none }, { dst := some 7, op := AOp.bin (BinOp.gtr) (Opd.t 6) (Opd.c (AV.int (IntKind.i64) 65536)), grd := none }]
def c8_3 : ACode := .seq c8_4 c8_5
def c8_2 : ACode := .seq c8_3 c8_10
def c8_1 : ACode := .reg [{ dst := some 2, op := AOp.mv (Opd.c (AV.nilSlc)), grd := none }, { dst := some 3, op := AOp.mv (Opd.c (AV.int (IntKind.i64) 0)), grd := none }, { dst := some 4, op := AOp.mv (Opd.c (AV.int (IntKind.i64) 0)), grd := none }]
def c8_0 : ACode := .seq c8_1 c8_2
def A8 : AFun := { np := 1, res := [(2, none), (3, none), (4, none)], body := c8_0 }

def c9_12 : ACode := .ret
def c9_11 : ACode := .reg [{ dst := some 8, op := AOp.mv (Opd.t 0), grd := none }, { dst := some 9, op := AOp.call (Opd.c (AV.fn (AFn.func 17) [] [])) [Opd.t 8], grd := none }, { dst := some 10, op := AOp.ext (Opd.t 9) 0, grd := none }, { dst := some 11, op := AOp.ext (Opd.t 9) 1, grd := none }, { dst := some 12, op := AOp.ext (Opd.t 9) 2, grd := none }, { dst := some 2, op := AOp.mv (Opd.t 10), grd := none }, { dst := some 3, op := AOp.mv (Opd.t 11), grd := none }, { dst := some 4, op := AOp.mv (Opd.t 12), grd := none }]
def c9_10 : ACode := .seq c9_11 c9_12
def c9_9 : ACode := .skip
def c9_8 : ACode := .ret
def c9_7 : ACode := .reg [{ dst := some 2, op := AOp.mv (Opd.c (AV.nilSlc)), grd := none }, { dst := some 3, op := AOp.mv (Opd.c (AV.int (IntKind.i64) 0)), grd := none }, { dst := some 4, op := AOp.mv (Opd.c (AV.int (IntKind.i64) 21)), grd := none }]
def c9_6 : ACode := .seq c9_7 c9_8
def c9_5 : ACode := .cond (.t 7) c9_6 c9_9
def c9_4 : ACode := .reg [{ dst := some 5, op := AOp.mv (Opd.t 0), grd := none }, { dst := some 6, op := AOp.len 0 (Opd.t 5), grd := none }, { dst := some 7, op := AOp.bin (BinOp.gtr) (Opd.t 6) (Opd.c (AV.int (IntKind.i64) 65536)), grd := none }]
def c9_3 : ACode := .seq c9_4 c9_5
def c9_2 : ACode := .seq c9_3 c9_10
def c9_1 : ACode := .reg [{ dst := some 2, op := AOp.mv (Opd.c (AV.nilSlc)), grd := none }, { dst := some 3, op := AOp.mv (Opd.c (AV.int (IntKind.i64) 0)), grd := none }, { dst := some 4, op := AOp.mv (Opd.c (AV.int (IntKind.i64) 0)), grd := none }]
def c9_0 : ACode := .seq c9_1 c9_2
def A9 : AFun := { np := 1, res := [(2, none), (3, none), (4, none)], body := c9_0 }

def c10_163 : ACode := .ret
def c10_162 : ACode := .reg [{ dst := some 2, op := AOp.mv (Opd.c (AV.bool false)), grd := none }]
def c10_161 : ACode := .seq c10_162 c10_163
def c10_160 : ACode := .skip
def c10_159 : ACode := .ret
def c10_158 : ACode := .reg [{ dst := some 2, op := AOp.mv (Opd.c (AV.bool true)), grd := none }]
def c10_157 : ACode := .seq c10_158 c10_159
def c10_156 : ACode := .cond (.t 4) c10_157 c10_160
def c10_155 : ACode := .reg [{ dst := some 42, op := AOp.bin (BinOp.eql) (Opd.t 3) (Opd.c (AV.str [114, 101, 102])), grd := none }, { dst := some 4, op := AOp.mv (Opd.t 42), grd := none }]
def c10_154 : ACode := .skip
def c10_153 : ACode := .cond (.t 4) c10_154 c10_155
def c10_152 : ACode := .reg [{ dst := some 41, op := AOp.bin (BinOp.eql) (Opd.t 3) (Opd.c (AV.str [97, 110, 121])), grd := none }, { dst := some 4, op := AOp.mv (Opd.t 41), grd := none }]
def c10_151 : ACode := .seq c10_152 c10_153
def c10_150 : ACode := .skip
def c10_149 : ACode := .cond (.t 4) c10_150 c10_151
def c10_148 : ACode := .reg [{ dst := some 40, op := AOp.bin (BinOp.eql) (Opd.t 3) (Opd.c (AV.str [108, 105, 115, 116])), grd := none }, { dst := some 4, op := AOp.mv (Opd.t 40), grd := none }]
def c10_147 : ACode := .seq c10_148 c10_149
def c10_146 : ACode := .skip
def c10_145 : ACode := .cond (.t 4) c10_146 c10_147
def c10_144 : ACode := .reg [{ dst := some 39, op := AOp.bin (BinOp.eql) (Opd.t 3) (Opd.c (AV.str [116, 101, 120, 116])), grd := none }, { dst := some 4, op := AOp.mv (Opd.t 39), grd := none }]
def c10_143 : ACode := .seq c10_144 c10_145
def c10_142 : ACode := .skip
def c10_141 : ACode := .cond (.t 4) c10_142 c10_143
def c10_140 : ACode := .reg [{ dst := some 38, op := AOp.bin (BinOp.eql) (Opd.t 3) (Opd.c (AV.str [98, 111, 111, 108])), grd := none }, { dst := some 4, op := AOp.mv (Opd.t 38), grd := none }]
def c10_139 : ACode := .seq c10_140 c10_141
def c10_138 : ACode := .skip
def c10_137 : ACode := .cond (.t 4) c10_138 c10_139
def c10_136 : ACode := .reg [{ dst := some 37, op := AOp.bin (BinOp.eql) (Opd.t 3) (Opd.c (AV.str [105, 110, 116])), grd := none }, { dst := some 4, op := AOp.mv (Opd.t 37), grd := none }]
def c10_135 : ACode := .seq c10_136 c10_137
def c10_134 : ACode := .skip
def c10_133 : ACode := .cond (.t 4) c10_134 c10_135
def c10_132 : ACode := .reg [{ dst := some 36, op := AOp.bin (BinOp.eql) (Opd.t 3) (Opd.c (AV.str [104, 97, 115])), grd := none }, { dst := some 4, op := AOp.mv (Opd.t 36), grd := none }]
def c10_131 : ACode := .seq c10_132 c10_133
def c10_130 : ACode := .skip
def c10_129 : ACode := .cond (.t 4) c10_130 c10_131
def c10_128 : ACode := .reg [{ dst := some 35, op := AOp.bin (BinOp.eql) (Opd.t 3) (Opd.c (AV.str [115, 105, 122, 101])), grd := none }, { dst := some 4, op := AOp.mv (Opd.t 35), grd := none }]
def c10_127 : ACode := .seq c10_128 c10_129
def c10_126 : ACode := .skip
def c10_125 : ACode := .cond (.t 4) c10_126 c10_127
def c10_124 : ACode := .reg [{ dst := some 34, op := AOp.bin (BinOp.eql) (Opd.t 3) (Opd.c (AV.str [110, 117, 108, 108])), grd := none }, { dst := some 4, op := AOp.mv (Opd.t 34), grd := none }]
def c10_123 : ACode := .seq c10_124 c10_125
def c10_122 : ACode := .skip
def c10_121 : ACode := .cond (.t 4) c10_122 c10_123
def c10_120 : ACode := .reg [{ dst := some 33, op := AOp.bin (BinOp.eql) (Opd.t 3) (Opd.c (AV.str [102, 97, 108, 115, 101])), grd := none }, { dst := some 4, op := AOp.mv (Opd.t 33), grd := none }]
def c10_119 : ACode := .seq c10_120 c10_121
def c10_118 : ACode := .skip
def c10_117 : ACode := .cond (.t 4) c10_118 c10_119
def c10_116 : ACode := .reg [{ dst := some 32, op := AOp.bin (BinOp.eql) (Opd.t 3) (Opd.c (AV.str [116, 114, 117, 101])), grd := none }, { dst := some 4, op := AOp.mv (Opd.t 32), grd := none }]
def c10_115 : ACode := .seq c10_116 c10_117
def c10_114 : ACode := .skip
def c10_113 : ACode := .cond (.t 4) c10_114 c10_115
def c10_112 : ACode := .reg [{ dst := some 31, op := AOp.bin (BinOp.eql) (Opd.t 3) (Opd.c (AV.str [104, 97, 108, 116])), grd := none }, { dst := some 4, op := AOp.mv (Opd.t 31), grd := none }]
def c10_111 : ACode := .seq c10_112 c10_113
def c10_110 : ACode := .skip
def c10_109 : ACode := .cond (.t 4) c10_110 c10_111
def c10_108 : ACode := .reg [{ dst := some 30, op := AOp.bin (BinOp.eql) (Opd.t 3) (Opd.c (AV.str [112, 114, 105, 110, 116])), grd := none }, { dst := some 4, op := AOp.mv (Opd.t 30), grd := none }]
def c10_107 : ACode := .seq c10_108 c10_109
def c10_106 : ACode := .skip
def c10_105 : ACode := .cond (.t 4) c10_106 c10_107
def c10_104 : ACode := .reg [{ dst := some 29, op := AOp.bin (BinOp.eql) (Opd.t 3) (Opd.c (AV.str [102, 111, 99, 117, 115])), grd := none }, { dst := some 4, op := AOp.mv (Opd.t 29), grd := none }]
def c10_103 : ACode := .seq c10_104 c10_105
def c10_102 : ACode := .skip
def c10_101 : ACode := .cond (.t 4) c10_102 c10_103
def c10_100 : ACode := .reg [{ dst := some 28, op := AOp.bin (BinOp.eql) (Opd.t 3) (Opd.c (AV.str [100, 101, 108, 101, 116, 101])), grd := none }, { dst := some 4, op := AOp.mv (Opd.t 28), grd := none }]
def c10_99 : ACode := .seq c10_100 c10_101
def c10_98 : ACode := .skip
def c10_97 : ACode := .cond (.t 4) c10_98 c10_99
def c10_96 : ACode := .reg [{ dst := some 27, op := AOp.bin (BinOp.eql) (Opd.t 3) (Opd.c (AV.str [117, 112, 100, 97, 116, 101])), grd := none }, { dst := some 4, op := AOp.mv (Opd.t 27), grd := none }]
def c10_95 : ACode := .seq c10_96 c10_97
def c10_94 : ACode := .skip
def c10_93 : ACode := .cond (.t 4) c10_94 c10_95
def c10_92 : ACode := .reg [{ dst := some 26, op := AOp.bin (BinOp.eql) (Opd.t 3) (Opd.c (AV.str [108, 111, 103, 105, 99, 97, 108])), grd := none }, { dst := some 4, op := AOp.mv (Opd.t 26), grd := none }]
def c10_91 : ACode := .seq c10_92 c10_93
def c10_90 : ACode := .skip
def c10_89 : ACode := .cond (.t 4) c10_90 c10_91
def c10_88 : ACode := .reg [{ dst := some 25, op := AOp.bin (BinOp.eql) (Opd.t 3) (Opd.c (AV.str [105, 110, 115, 101, 114, 116])), grd := none }, { dst := some 4, op := AOp.mv (Opd.t 25), grd := none }]
def c10_87 : ACode := .seq c10_88 c10_89
def c10_86 : ACode := .skip
def c10_85 : ACode := .cond (.t 4) c10_86 c10_87
def c10_84 : ACode := .reg [{ dst := some 24, op := AOp.bin (BinOp.eql) (Opd.t 3) (Opd.c (AV.str [111, 118, 101, 114])), grd := none }, { dst := some 4, op := AOp.mv (Opd.t 24), grd := none }]
def c10_83 : ACode := .seq c10_84 c10_85
def c10_82 : ACode := .skip
def c10_81 : ACode := .cond (.t 4) c10_82 c10_83
def c10_80 : ACode := .reg [{ dst := some 23, op := AOp.bin (BinOp.eql) (Opd.t 3) (Opd.c (AV.str [97, 99, 99])), grd := none }, { dst := some 4, op := AOp.mv (Opd.t 23), grd := none }]
def c10_79 : ACode := .seq c10_80 c10_81
def c10_78 : ACode := .skip
def c10_77 : ACode := .cond (.t 4) c10_78 c10_79
def c10_76 : ACode := .reg [{ dst := some 22, op := AOp.bin (BinOp.eql) (Opd.t 3) (Opd.c (AV.str [101, 118, 97, 108])), grd := none }, { dst := some 4, op := AOp.mv (Opd.t 22), grd := none }]
def c10_75 : ACode := .seq c10_76 c10_77
def c10_74 : ACode := .skip
def c10_73 : ACode := .cond (.t 4) c10_74 c10_75
def c10_72 : ACode := .reg [{ dst := some 21, op := AOp.bin (BinOp.eql) (Opd.t 3) (Opd.c (AV.str [102, 114, 111, 109])), grd := none }, { dst := some 4, op := AOp.mv (Opd.t 21), grd := none }]
def c10_71 : ACode := .seq c10_72 c10_73
def c10_70 : ACode := .skip
def c10_69 : ACode := .cond (.t 4) c10_70 c10_71
def c10_68 : ACode := .reg [{ dst := some 20, op := AOp.bin (BinOp.eql) (Opd.t 3) (Opd.c (AV.str [111, 114])), grd := none }, { dst := some 4, op := AOp.mv (Opd.t 20), grd := none }]
def c10_67 : ACode := .seq c10_68 c10_69
def c10_66 : ACode := .skip
def c10_65 : ACode := .cond (.t 4) c10_66 c10_67
def c10_64 : ACode := .reg [{ dst := some 19, op := AOp.bin (BinOp.eql) (Opd.t 3) (Opd.c (AV.str [102, 111, 114, 97, 108, 108])), grd := none }, { dst := some 4, op := AOp.mv (Opd.t 19), grd := none }]
def c10_63 : ACode := .seq c10_64 c10_65
def c10_62 : ACode := .skip
def c10_61 : ACode := .cond (.t 4) c10_62 c10_63
def c10_60 : ACode := .reg [{ dst := some 18, op := AOp.bin (BinOp.eql) (Opd.t 3) (Opd.c (AV.str [101, 120, 105, 115, 116, 115])), grd := none }, { dst := some 4, op := AOp.mv (Opd.t 18), grd := none }]
def c10_59 : ACode := .seq c10_60 c10_61
def c10_58 : ACode := .skip
def c10_57 : ACode := .cond (.t 4) c10_58 c10_59
def c10_56 : ACode := .reg [{ dst := some 17, op := AOp.bin (BinOp.eql) (Opd.t 3) (Opd.c (AV.str [110, 111, 116])), grd := none }, { dst := some 4, op := AOp.mv (Opd.t 17), grd := none }]
def c10_55 : ACode := .seq c10_56 c10_57
def c10_54 : ACode := .skip
def c10_53 : ACode := .cond (.t 4) c10_54 c10_55
def c10_52 : ACode := .reg [{ dst := some 16, op := AOp.bin (BinOp.eql) (Opd.t 3) (Opd.c (AV.str [108, 111, 99, 107])), grd := none }, { dst := some 4, op := AOp.mv (Opd.t 16), grd := none }]
def c10_51 : ACode := .seq c10_52 c10_53
def c10_50 : ACode := .skip
def c10_49 : ACode := .cond (.t 4) c10_50 c10_51
def c10_48 : ACode := .reg [{ dst := some 15, op := AOp.bin (BinOp.eql) (Opd.t 3) (Opd.c (AV.str [110, 111, 108, 111, 111, 112])), grd := none }, { dst := some 4, op := AOp.mv (Opd.t 15), grd := none }]
def c10_47 : ACode := .seq c10_48 c10_49
def c10_46 : ACode := .skip
def c10_45 : ACode := .cond (.t 4) c10_46 c10_47
def c10_44 : ACode := .reg [{ dst := some 14, op := AOp.bin (BinOp.eql) (Opd.t 3) (Opd.c (AV.str [102, 108, 111, 119])), grd := none }, { dst := some 4, op := AOp.mv (Opd.t 14), grd := none }]
def c10_43 : ACode := .seq c10_44 c10_45
def c10_42 : ACode := .skip
def c10_41 : ACode := .cond (.t 4) c10_42 c10_43
def c10_40 : ACode := .reg [{ dst := some 13, op := AOp.bin (BinOp.eql) (Opd.t 3) (Opd.c (AV.str [103, 114, 111, 117, 112])), grd := none }, { dst := some 4, op := AOp.mv (Opd.t 13), grd := none }]
def c10_39 : ACode := .seq c10_40 c10_41
def c10_38 : ACode := .skip
def c10_37 : ACode := .cond (.t 4) c10_38 c10_39
def c10_36 : ACode := .reg [{ dst := some 12, op := AOp.bin (BinOp.eql) (Opd.t 3) (Opd.c (AV.str [115, 97, 108, 105, 101, 110, 99, 101])), grd := none }, { dst := some 4, op := AOp.mv (Opd.t 12), grd := none }]
def c10_35 : ACode := .seq c10_36 c10_37
def c10_34 : ACode := .skip
def c10_33 : ACode := .cond (.t 4) c10_34 c10_35
def c10_32 : ACode := .reg [{ dst := some 11, op := AOp.bin (BinOp.eql) (Opd.t 3) (Opd.c (AV.str [101, 110, 100])), grd := none }, { dst := some 4, op := AOp.mv (Opd.t 11), grd := none }]
def c10_31 : ACode := .seq c10_32 c10_33
def c10_30 : ACode := .skip
def c10_29 : ACode := .cond (.t 4) c10_30 c10_31
def c10_28 : ACode := .reg [{ dst := some 10, op := AOp.bin (BinOp.eql) (Opd.t 3) (Opd.c (AV.str [116, 104, 101, 110])), grd := none }, { dst := some 4, op := AOp.mv (Opd.t 10), grd := none }]
def c10_27 : ACode := .seq c10_28 c10_29
def c10_26 : ACode := .skip
def c10_25 : ACode := .cond (.t 4) c10_26 c10_27
def c10_24 : ACode := .reg [{ dst := some 9, op := AOp.bin (BinOp.eql) (Opd.t 3) (Opd.c (AV.str [119, 104, 101, 110])), grd := none }, { dst := some 4, op := AOp.mv (Opd.t 9), grd := none }]
def c10_23 : ACode := .seq c10_24 c10_25
def c10_22 : ACode := .skip
def c10_21 : ACode := .cond (.t 4) c10_22 c10_23
def c10_20 : ACode := .reg [{ dst := some 8, op := AOp.bin (BinOp.eql) (Opd.t 3) (Opd.c (AV.str [113, 117, 101, 114, 121])), grd := none }, { dst := some 4, op := AOp.mv (Opd.t 8), grd := none }]
def c10_19 : ACode := .seq c10_20 c10_21
def c10_18 : ACode := .skip
def c10_17 : ACode := .cond (.t 4) c10_18 c10_19
def c10_16 : ACode := .reg [{ dst := some 7, op := AOp.bin (BinOp.eql) (Opd.t 3) (Opd.c (AV.str [114, 117, 108, 101])), grd := none }, { dst := some 4, op := AOp.mv (Opd.t 7), grd := none }]
def c10_15 : ACode := .seq c10_16 c10_17
def c10_14 : ACode := .skip
def c10_13 : ACode := .cond (.t 4) c10_14 c10_15
def c10_12 : ACode := .reg [{ dst := some 6, op := AOp.bin (BinOp.eql) (Opd.t 3) (Opd.c (AV.str [101, 120, 116, 101, 110, 100, 115])), grd := none }, { dst := some 4, op := AOp.mv (Opd.t 6), grd := none }]
def c10_11 : ACode := .seq c10_12 c10_13
def c10_10 : ACode := .skip
def c10_9 : ACode := .cond (.t 4) c10_10 c10_11
def c10_8 : ACode := .reg [{ dst := some 5, op := AOp.bin (BinOp.eql) (Opd.t 3) (Opd.c (AV.str [99, 108, 97, 115, 115])), grd := none }, { dst := some 4, op := AOp.mv (Opd.t 5), grd := none }]
def c10_7 : ACode := .seq c10_8 c10_9
def c10_6 : ACode := .seq c10_7 c10_156
def c10_5 : ACode := .block 0 c10_6
def c10_4 : ACode := .reg [{ dst := some 3, op := AOp.mv (Opd.t 0), grd := none }]
def c10_3 : ACode := .seq c10_4 c10_5
def c10_2 : ACode := .seq c10_3 c10_161
def c10_1 : ACode := .reg [{ dst := some 2, op := AOp.mv (Opd.c (AV.bool false)), grd := none }]
def c10_0 : ACode := .seq c10_1 c10_2
def A10 : AFun := { np := 1, res := [(2, none)], body := c10_0 }

def c11_4 : ACode := .ret
set_option maxRecDepth 100000 in
def c11_3 : ACode := .reg [{ dst := some 3, op := AOp.bslice 38 1 [AV.str []] [(0, Opd.c (AV.str [99, 108, 97, 115, 115])), (1, Opd.c (AV.str [101, 120, 116, 101, 110, 100, 115])), (2, Opd.c (AV.str [114, 117, 108, 101])), (3, Opd.c (AV.str [113, 117, 101, 114, 121])), (4, Opd.c (AV.str [119, 104, 101, 110])), (5, Opd.c (AV.str [116, 104, 101, 110])), (6, Opd.c (AV.str [101, 110, 100])), (7, Opd.c (AV.str [115, 97, 108, 105, 101, 110, 99, 101])), (8, Opd.c (AV.str [103, 114, 111, 117, 112])), (9, Opd.c (AV.str [102, 108, 111, 119])), (10, Opd.c (AV.str [110, 111, 108, 111, 111, 112])), (11, Opd.c (AV.str [108, 111, 99, 107])), (12, Opd.c (AV.str [110, 111, 116])), (13, Opd.c (AV.str [101, 120, 105, 115, 116, 115])), (14, Opd.c (AV.str [102, 111, 114, 97, 108, 108])), (15, Opd.c (AV.str [111, 114])), (16, Opd.c (AV.str [102, 114, 111, 109])), (17, Opd.c (AV.str [101, 118, 97, 108])), (18, Opd.c (AV.str [97, 99, 99])), (19, Opd.c (AV.str [111, 118, 101, 114])), (20, Opd.c (AV.str [105, 110, 115, 101, 114, 116])), (21, Opd.c (AV.str [108, 111, 103, 105, 99, 97, 108])), (22, Opd.c (AV.str [117, 112, 100, 97, 116, 101])), (23, Opd.c (AV.str [100, 101, 108, 101, 116, 101])), (24, Opd.c (AV.str [102, 111, 99, 117, 115])), (25, Opd.c (AV.str [112, 114, 105, 110, 116])), (26, Opd.c (AV.str [104, 97, 108, 116])), (27, Opd.c (AV.str [116, 114, 117, 101])), (28, Opd.c (AV.str [102, 97, 108, 115, 101])), (29, Opd.c (AV.str [110, 117, 108, 108])), (30, Opd.c (AV.str [115, 105, 122, 101])), (31, Opd.c (AV.str [104, 97, 115])), (32, Opd.c (AV.str [105, 110, 116])), (33, Opd.c (AV.str [98, 111, 111, 108])), (34, Opd.c (AV.str [116, 101, 120, 116])), (35, Opd.c (AV.str [108, 105, 115, 116])), (36, Opd.c (AV.str [97, 110, 121])), (37, Opd.c (AV.str [114, 101, 102]))], grd := none }, { dst := some 4, op := AOp.mv (Opd.t 0), grd := none }, { dst := some 5, op := AOp.call (Opd.c (AV.fn (AFn.func 18) [] [])) [Opd.t 3, Opd.t 4], grd := none }, { dst := some 6, op := AOp.bin (BinOp.geq) (Opd.t 5) (Opd.c (AV.int (IntKind.i64) 0)), grd := none }, { dst := some 2, op := AOp.mv (Opd.t 6), grd := none }]
def c11_2 : ACode := .seq c11_3 c11_4
def c11_1 : ACode := .reg [{ dst := some 2, op := AOp.mv (Opd.c (AV.bool false)), grd := none }]
def c11_0 : ACode := .seq c11_1 c11_2
def A11 : AFun := { np := 1, res := [(2, none)], body := c11_0 }

def c12_35 : ACode := .ret
def c12_34 : ACode := .reg [{ dst := some 28, op := AOp.call (Opd.c (AV.fn (AFn.func 21) [] [])) [Opd.t 3], grd := none }, { dst := some 2, op := AOp.mv (Opd.t 28), grd := none }]
def c12_33 : ACode := .seq c12_34 c12_35
def c12_32 : ACode := .reg [{ dst := some 27, op := AOp.call (Opd.c (AV.fn (AFn.func 19) [] [])) [Opd.t 3, Opd.c (AV.int (IntKind.u8) 34)], grd := none }]
def c12_31 : ACode := .seq c12_32 c12_33
def c12_30 : ACode := .reg [{ dst := some 26, op := AOp.bin (BinOp.add) (Opd.t 9) (Opd.c (AV.int (IntKind.i64) 1)), grd := none }, { dst := some 9, op := AOp.mv (Opd.t 26), grd := none }]
def c12_29 : ACode := .reg [{ dst := some 22, op := AOp.mv (Opd.t 0), grd := none }, { dst := some 23, op := AOp.mv (Opd.t 4), grd := none }, { dst := some 24, op := AOp.idxs (Opd.t 22) (Opd.t 23), grd := none }, { dst := some 25, op := AOp.call (Opd.c (AV.fn (AFn.func 19) [] [])) [Opd.t 3, Opd.t 24], grd := none }]
def c12_28 : ACode := .reg [{ dst := some 19, op := AOp.mv (Opd.t 5), grd := none }, { dst := some 20, op := AOp.idxs (Opd.c (AV.str [34, 92, 110, 116])) (Opd.t 19), grd := none }, { dst := some 21, op := AOp.call (Opd.c (AV.fn (AFn.func 19) [] [])) [Opd.t 3, Opd.t 20], grd := none }]
def c12_27 : ACode := .reg [{ dst := some 18, op := AOp.call (Opd.c (AV.fn (AFn.func 19) [] [])) [Opd.t 3, Opd.c (AV.int (IntKind.u8) 92)], grd := none }]
def c12_26 : ACode := .seq c12_27 c12_28
def c12_25 : ACode := .cond (.t 17) c12_26 c12_29
def c12_24 : ACode := .reg [{ dst := some 16, op := AOp.mv (Opd.t 5), grd := none }, { dst := some 17, op := AOp.bin (BinOp.geq) (Opd.t 16) (Opd.c (AV.int (IntKind.i64) 0)), grd := none }]
def c12_23 : ACode := .seq c12_24 c12_25
def c12_22 : ACode := .reg [{ dst := some 12, op := AOp.mv (Opd.t 0), grd := none }, { dst := some 13, op := AOp.mv (Opd.t 4), grd := none }, { dst := some 14, op := AOp.idxs (Opd.t 12) (Opd.t 13), grd := none }, { dst := some 15, op := AOp.call (Opd.c (AV.fn (AFn.func 20) [] [])) [Opd.c (AV.str [34, 92, 10, 9]), Opd.t 14], grd := none }, { dst := some 5, op := AOp.mv (Opd.t 15), grd := none }]
def c12_21 : ACode := .seq c12_22 c12_23
def c12_20 : ACode := .reg [{ dst := some 11, op := AOp.mv (Opd.t 9), grd := none }, { dst := some 4, op := AOp.mv (Opd.t 11), grd := none }]
def c12_19 : ACode := .seq c12_20 c12_21
def c12_18 : ACode := .block 1 c12_19
def c12_17 : ACode := .seq c12_18 c12_30
def c12_16 : ACode := .exit 0
def c12_15 : ACode := .skip
def c12_14 : ACode := .cond (.t 10) c12_15 c12_16
def c12_13 : ACode := .seq c12_14 c12_17
def c12_12 : ACode := .reg [{ dst := some 10, op := AOp.bin (BinOp.lss) (Opd.t 9) (Opd.t 8), grd := none }]
def c12_11 : ACode := .seq c12_12 c12_13
def c12_10 : ACode := .loop c12_11
def c12_9 : ACode := .block 0 c12_10
def c12_8 : ACode := .reg [{ dst := some 7, op := AOp.mv (Opd.t 0), grd := none }, { dst := some 8, op := AOp.len 0 (Opd.t 7), grd := none }, { dst := some 9, op := AOp.mv (Opd.c (AV.int (IntKind.i64) 0)), grd := none }]
def c12_7 : ACode := .seq c12_8 c12_9
def c12_6 : ACode := .seq c12_7 c12_31
def c12_5 : ACode := .reg [{ dst := some 6, op := AOp.call (Opd.c (AV.fn (AFn.func 19) [] [])) [Opd.t 3, Opd.c (AV.int (IntKind.u8) 34)], grd := none }]
def c12_4 : ACode := .seq c12_5 c12_6
def c12_3 : ACode := .reg [{ dst := some 3, op := AOp.allot 41 [AV.nilPtr, AV.nilSlc], grd := none }]
def c12_2 : ACode := .seq c12_3 c12_4
def c12_1 : ACode := .reg [{ dst := some 2, op := AOp.mv (Opd.c (AV.str [])), grd := none }]
def c12_0 : ACode := .seq c12_1 c12_2
def A12 : AFun := { np := 1, res := [(2, none)], body := c12_0 }

def c13_40 : ACode := .ret
def c13_39 : ACode := .reg [{ dst := some 40, op := AOp.mv (Opd.t 3), grd := none }, { dst := some 41, op := AOp.bslice 1 1 [AV.int (IntKind.u8) 0] [(0, Opd.c (AV.int (IntKind.u8) 34))], grd := none }, { dst := some 42, op := AOp.appb 5 (Opd.t 40) (Opd.t 41), grd := none }, { dst := some 43, op := AOp.b2s (Opd.t 42), grd := none }, { dst := some 2, op := AOp.mv (Opd.t 43), grd := none }]
def c13_38 : ACode := .seq c13_39 c13_40
def c13_37 : ACode := .reg [{ dst := some 10, op := AOp.mv (Opd.t 4), grd := none }, { dst := some 11, op := AOp.bin (BinOp.add) (Opd.t 10) (Opd.c (AV.int (IntKind.i64) 1)), grd := none }, { dst := some 4, op := AOp.mv (Opd.t 11), grd := none }]
def c13_36 : ACode := .reg [{ dst := some 15, op := AOp.mv (Opd.t 3), grd := none }, { dst := some 16, op := AOp.mv (Opd.t 0), grd := none }, { dst := some 17, op := AOp.mv (Opd.t 4), grd := none }, { dst := some 18, op := AOp.idxs (Opd.t 16) (Opd.t 17), grd := none }, { dst := some 19, op := AOp.bslice 1 1 [AV.int (IntKind.u8) 0] [(0, Opd.t 18)], grd := none }, { dst := some 20, op := AOp.appb 5 (Opd.t 15) (Opd.t 19), grd := none }, { dst := some 3, op := AOp.mv (Opd.t 20), grd := none }]
def c13_35 : ACode := .reg [{ dst := some 37, op := AOp.mv (Opd.t 3), grd := none }, { dst := some 38, op := AOp.bslice 2 1 [AV.int (IntKind.u8) 0] [(0, Opd.c (AV.int (IntKind.u8) 92)), (1, Opd.c (AV.int (IntKind.u8) 116))], grd := none }, { dst := some 39, op := AOp.appb 5 (Opd.t 37) (Opd.t 38), grd := none }, { dst := some 3, op := AOp.mv (Opd.t 39), grd := none }]
def c13_34 : ACode := .cond (.t 35) c13_35 c13_36
def c13_33 : ACode := .reg [{ dst := some 36, op := AOp.bin (BinOp.eql) (Opd.t 14) (Opd.c (AV.int (IntKind.u8) 9)), grd := none }, { dst := some 35, op := AOp.mv (Opd.t 36), grd := none }]
def c13_32 : ACode := .seq c13_33 c13_34
def c13_31 : ACode := .reg [{ dst := some 32, op := AOp.mv (Opd.t 3), grd := none }, { dst := some 33, op := AOp.bslice 2 1 [AV.int (IntKind.u8) 0] [(0, Opd.c (AV.int (IntKind.u8) 92)), (1, Opd.c (AV.int (IntKind.u8) 110))], grd := none }, { dst := some 34, op := AOp.appb 5 (Opd.t 32) (Opd.t 33), grd := none }, { dst := some 3, op := AOp.mv (Opd.t 34), grd := none }]
def c13_30 : ACode := .cond (.t 30) c13_31 c13_32
def c13_29 : ACode := .reg [{ dst := some 31, op := AOp.bin (BinOp.eql) (Opd.t 14) (Opd.c (AV.int (IntKind.u8) 10)), grd := none }, { dst := some 30, op := AOp.mv (Opd.t 31), grd := none }]
def c13_28 : ACode := .seq c13_29 c13_30
def c13_27 : ACode := .reg [{ dst := some 24, op := AOp.mv (Opd.t 3), grd := none }, { dst := some 25, op := AOp.mv (Opd.t 0), grd := none }, { dst := some 26, op := AOp.mv (Opd.t 4), grd := none }, { dst := some 27, op := AOp.idxs (Opd.t 25) (Opd.t 26), grd := none }, { dst := some 28, op := AOp.bslice 2 1 [AV.int (IntKind.u8) 0] [(0, Opd.c (AV.int (IntKind.u8) 92)), (1, Opd.t 27)], grd := none }, { dst := some 29, op := AOp.appb 5 (Opd.t 24) (Opd.t 28), grd := none }, { dst := some 3, op := AOp.mv (Opd.t 29), grd := none }]
def c13_26 : ACode := .cond (.t 21) c13_27 c13_28
def c13_25 : ACode := .reg [{ dst := some 23, op := AOp.bin (BinOp.eql) (Opd.t 14) (Opd.c (AV.int (IntKind.u8) 92)), grd := none }, { dst := some 21, op := AOp.mv (Opd.t 23), grd := none }]
def c13_24 : ACode := .skip
def c13_23 : ACode := .cond (.t 21) c13_24 c13_25
def c13_22 : ACode := .reg [{ dst := some 22, op := AOp.bin (BinOp.eql) (Opd.t 14) (Opd.c (AV.int (IntKind.u8) 34)), grd := none }, { dst := some 21, op := AOp.mv (Opd.t 22), grd := none }]
def c13_21 : ACode := .seq c13_22 c13_23
def c13_20 : ACode := .seq c13_21 c13_26
def c13_19 : ACode := .block 2 c13_20
def c13_18 : ACode := .reg [{ dst := some 12, op := AOp.mv (Opd.t 0), grd := none }, { dst := some 13, op := AOp.mv (Opd.t 4), grd := none }, { dst := some 14, op := AOp.idxs (Opd.t 12) (Opd.t 13), grd := none }]
def c13_17 : ACode := .seq c13_18 c13_19
def c13_16 : ACode := .block 1 c13_17
def c13_15 : ACode := .seq c13_16 c13_37
def c13_14 : ACode := .exit 0
def c13_13 : ACode := .skip
def c13_12 : ACode := .cond (.t 9) c13_13 c13_14
def c13_11 : ACode := .reg [{ dst := some 6, op := AOp.mv (Opd.t 4), grd := none }, { dst := some 7, op := AOp.mv (Opd.t 0), grd := none }, { dst := some 8, op := AOp.len 0 (Opd.t 7), grd := none }, { dst := some 9, op := AOp.bin (BinOp.lss) (Opd.t 6) (Opd.t 8), grd := none }]
def c13_10 : ACode := .seq c13_11 c13_12
def c13_9 : ACode := .seq c13_10 c13_15
def c13_8 : ACode := .loop c13_9
def c13_7 : ACode := .block 0 c13_8
def c13_6 : ACode := .reg [{ dst := some 4, op := AOp.mv (Opd.c (AV.int (IntKind.i64) 0)), grd := none }]
def c13_5 : ACode := .seq c13_6 c13_7
def c13_4 : ACode := .seq c13_5 c13_38
def c13_3 : ACode := .reg [{ dst := some 5, op := AOp.bslice 1 1 [AV.int (IntKind.u8) 0] [(0, Opd.c (AV.int (IntKind.u8) 34))], grd := none }, { dst := some 3, op := AOp.mv (Opd.t 5), grd := none }]
def c13_2 : ACode := .seq c13_3 c13_4
def c13_1 : ACode := .reg [{ dst := some 2, op := AOp.mv (Opd.c (AV.str [])), grd := none }]
def c13_0 : ACode := .seq c13_1 c13_2
def A13 : AFun := { np := 1, res := [(2, none)], body := c13_0 }

def c14_6 : ACode := .ret
set_option maxRecDepth 100000 in
def c14_5 : ACode := .reg [{ dst := some 9, op := AOp.mv (Opd.t 3), grd := none }, { dst := some 10, op := AOp.bin (BinOp.eql) (Opd.t 9) (Opd.c (AV.int (IntKind.i64) 0)), grd := none }, { dst := some 11, op := AOp.mv (Opd.t 10), grd := none }, { dst := some 12, op := AOp.mv (Opd.t 1), grd := some (11, true) }, { dst := some 13, op := AOp.len 1 (Opd.t 12), grd := some (11, true) }, { dst := some 14, op := AOp.bin (BinOp.eql) (Opd.t 13) (Opd.c (AV.int (IntKind.i64) 8)), grd := some (11, true) }, { dst := some 15, op := AOp.pick (Opd.t 11) (Opd.t 14) (Opd.c (AV.bool false)), grd := none }, { dst := some 16, op := AOp.mv (Opd.t 15), grd := none }, { dst := some 17, op := AOp.mv (Opd.t 1), grd := some (16, true) }, { dst := some 18, op := AOp.iadr 4 (Opd.t 17) (Opd.c (AV.int (IntKind.i64) 0)), grd := some (16, true) }, { dst := some 19, op := AOp.fadr 0 (Opd.t 18), grd := some (16, true) }, { dst := some 20, op := AOp.load false 1 (Opd.t 19), grd := some (16, true) }, { dst := some 21, op := AOp.bin (BinOp.eql) (Opd.t 20) (Opd.c (AV.int (IntKind.i64) 1)), grd := some (16, true) }, { dst := some 22, op := AOp.pick (Opd.t 16) (Opd.t 21) (Opd.c (AV.bool false)), grd := none }, { dst := some 23, op := AOp.mv (Opd.t 22), grd := none }, { dst := some 24, op := AOp.mv (Opd.t 1), grd := some (23, true) }, { dst := some 25, op := AOp.iadr 4 (Opd.t 24) (Opd.c (AV.int (IntKind.i64) 5)), grd := some (23, true) }, { dst := some 26, op := AOp.fadr 1 (Opd.t 25), grd := some (23, true) }, { dst := some 27, op := AOp.load false 1 (Opd.t 26), grd := some (23, true) }, { dst := some 28, op := AOp.bin (BinOp.eql) (Opd.t 27) (Opd.c (AV.str [62, 61])), grd := some (23, true) }, { dst := some 29, op := AOp.pick (Opd.t 23) (Opd.t 28) (Opd.c (AV.bool false)), grd := none }, { dst := some 30, op := AOp.mv (Opd.t 29), grd := none }, { dst := some 31, op := AOp.call (Opd.c (AV.fn (AFn.func 10) [] [])) [Opd.c (AV.str [114, 117, 108, 101])], grd := some (30, true) }, { dst := some 32, op := AOp.pick (Opd.t 30) (Opd.t 31) (Opd.c (AV.bool false)), grd := none }, { dst := some 33, op := AOp.mv (Opd.t 32), grd := none }, { dst := some 34, op := AOp.call (Opd.c (AV.fn (AFn.func 12) [] [])) [Opd.c (AV.str [97, 10])], grd := some (33, true) }, { dst := some 35, op := AOp.bin (BinOp.eql) (Opd.t 34) (Opd.c (AV.str [34, 97, 92, 110, 34])), grd := some (33, true) }, { dst := some 36, op := AOp.pick (Opd.t 33) (Opd.t 35) (Opd.c (AV.bool false)), grd := none }, { dst := some 0, op := AOp.mv (Opd.t 36), grd := none }]
def c14_4 : ACode := .seq c14_5 c14_6
def c14_3 : ACode := .reg [{ dst := some 5, op := AOp.call (Opd.c (AV.fn (AFn.func 8) [] [])) [Opd.c (AV.str [36, 120, 32, 58, 32, 80, 40, 97, 32, 62, 61, 32, 49, 41, 32, 47, 47, 32, 101, 110, 100])], grd := none }, { dst := some 4, op := AOp.mv (Opd.t 5), grd := none }, { dst := some 6, op := AOp.ext (Opd.t 4) 0, grd := none }, { dst := some 7, op := AOp.ext (Opd.t 4) 1, grd := none }, { dst := some 8, op := AOp.ext (Opd.t 4) 2, grd := none }, { dst := some 1, op := AOp.mv (Opd.t 6), grd := none }, { dst := some 2, op := AOp.mv (Opd.t 7), grd := none }, { dst := some 3, op := AOp.mv (Opd.t 8), grd := none }]
def c14_2 : ACode := .seq c14_3 c14_4
def c14_1 : ACode := .reg [{ dst := some 0, op := AOp.mv (Opd.c (AV.bool false)), grd := none }]
def c14_0 : ACode := .seq c14_1 c14_2
def A14 : AFun := { np := 0, res := [(0, none)], body := c14_0 }

def c15_42 : ACode := .ret
def c15_41 : ACode := .reg [{ dst := some 2, op := AOp.mv (Opd.c (AV.bool true)), grd := none }]
def c15_40 : ACode := .seq c15_41 c15_42
def c15_39 : ACode := .reg [{ dst := some 8, op := AOp.mv (Opd.t 3), grd := none }, { dst := some 9, op := AOp.bin (BinOp.add) (Opd.t 8) (Opd.c (AV.int (IntKind.i64) 1)), grd := none }, { dst := some 3, op := AOp.mv (Opd.t 9), grd := none }]
def c15_38 : ACode := .skip
def c15_37 : ACode := .ret
def c15_36 : ACode := .reg [{ dst := some 2, op := AOp.mv (Opd.c (AV.bool false)), grd := none }]
def c15_35 : ACode := .seq c15_36 c15_37
def c15_34 : ACode := .cond (.t 61) c15_35 c15_38
set_option maxRecDepth 100000 in
def c15_33 : ACode := .reg [{ dst := some 40, op := AOp.mv (Opd.t 0), grd := none }, { dst := some 41, op := AOp.mv (Opd.t 3), grd := none }, { dst := some 42, op := AOp.idxs (Opd.t 40) (Opd.t 41), grd := none }, { dst := some 43, op := AOp.bin (BinOp.neq) (Opd.t 42) (Opd.c (AV.int (IntKind.u8) 32)), grd := none }, { dst := some 44, op := AOp.mv (Opd.t 43), grd := none }, { dst := some 45, op := AOp.mv (Opd.t 0), grd := some (44, true) }, { dst := some 46, op := AOp.mv (Opd.t 3), grd := some (44, true) }, { dst := some 47, op := AOp.idxs (Opd.t 45) (Opd.t 46), grd := some (44, true) }, { dst := some 48, op := AOp.bin (BinOp.neq) (Opd.t 47) (Opd.c (AV.int (IntKind.u8) 9)), grd := some (44, true) }, { dst := some 49, op := AOp.pick (Opd.t 44) (Opd.t 48) (Opd.c (AV.bool false)), grd := none }, { dst := some 50, op := AOp.mv (Opd.t 49), grd := none }, { dst := some 51, op := AOp.mv (Opd.t 0), grd := some (50, true) }, { dst := some 52, op := AOp.mv (Opd.t 3), grd := some (50, true) }, { dst := some 53, op := AOp.idxs (Opd.t 51) (Opd.t 52), grd := some (50, true) }, { dst := some 54, op := AOp.bin (BinOp.neq) (Opd.t 53) (Opd.c (AV.int (IntKind.u8) 13)), grd := some (50, true) }, { dst := some 55, op := AOp.pick (Opd.t 50) (Opd.t 54) (Opd.c (AV.bool false)), grd := none }, { dst := some 56, op := AOp.mv (Opd.t 55), grd := none }, { dst := some 57, op := AOp.mv (Opd.t 0), grd := some (56, true) }, { dst := some 58, op := AOp.mv (Opd.t 3), grd := some (56, true) }, { dst := some 59, op := AOp.idxs (Opd.t 57) (Opd.t 58), grd := some (56, true) }, { dst := some 60, op := AOp.bin (BinOp.neq) (Opd.t 59) (Opd.c (AV.int (IntKind.u8) 10)), grd := some (56, true) }, { dst := some 61, op := AOp.pick (Opd.t 56) (Opd.t 60) (Opd.c (AV.bool false)), grd := none }]
def c15_32 : ACode := .seq c15_33 c15_34
def c15_31 : ACode := .skip
def c15_30 : ACode := .exit 1
def c15_29 : ACode := .reg [{ dst := some 38, op := AOp.mv (Opd.t 3), grd := none }, { dst := some 39, op := AOp.bin (BinOp.add) (Opd.t 38) (Opd.c (AV.int (IntKind.i64) 1)), grd := none }, { dst := some 3, op := AOp.mv (Opd.t 39), grd := none }]
def c15_28 : ACode := .block 3 c15_29
def c15_27 : ACode := .exit 2
def c15_26 : ACode := .skip
def c15_25 : ACode := .cond (.t 37) c15_26 c15_27
def c15_24 : ACode := .reg [{ dst := some 28, op := AOp.mv (Opd.t 3), grd := none }, { dst := some 29, op := AOp.mv (Opd.t 0), grd := none }, { dst := some 30, op := AOp.len 0 (Opd.t 29), grd := none }, { dst := some 31, op := AOp.bin (BinOp.lss) (Opd.t 28) (Opd.t 30), grd := none }, { dst := some 32, op := AOp.mv (Opd.t 31), grd := none }, { dst := some 33, op := AOp.mv (Opd.t 0), grd := some (32, true) }, { dst := some 34, op := AOp.mv (Opd.t 3), grd := some (32, true) }, { dst := some 35, op := AOp.idxs (Opd.t 33) (Opd.t 34), grd := some (32, true) }, { dst := some 36, op := AOp.bin (BinOp.neq) (Opd.t 35) (Opd.c (AV.int (IntKind.u8) 10)), grd := some (32, true) }, { dst := some 37, op := AOp.pick (Opd.t 32) (Opd.t 36) (Opd.c (AV.bool false)), grd := none }]
def c15_23 : ACode := .seq c15_24 c15_25
def c15_22 : ACode := .seq c15_23 c15_28
def c15_21 : ACode := .loop c15_22
def c15_20 : ACode := .block 2 c15_21
def c15_19 : ACode := .seq c15_20 c15_30
def c15_18 : ACode := .cond (.t 27) c15_19 c15_31
def c15_17 : ACode := .reg [{ dst := some 10, op := AOp.mv (Opd.t 0), grd := none }, { dst := some 11, op := AOp.mv (Opd.t 3), grd := none }, { dst := some 12, op := AOp.idxs (Opd.t 10) (Opd.t 11), grd := none }, { dst := some 13, op := AOp.bin (BinOp.eql) (Opd.t 12) (Opd.c (AV.int (IntKind.u8) 47)), grd := none }, { dst := some 14, op := AOp.mv (Opd.t 13), grd := none }, { dst := some 15, op := AOp.mv (Opd.t 3), grd := some (14, true) }, { dst := some 16, op := AOp.bin (BinOp.add) (Opd.t 15) (Opd.c (AV.int (IntKind.i64) 1)), grd := some (14, true) }, { dst := some 17, op := AOp.mv (Opd.t 0), grd := some (14, true) }, { dst := some 18, op := AOp.len 0 (Opd.t 17), grd := some (14, true) }, { dst := some 19, op := AOp.bin (BinOp.lss) (Opd.t 16) (Opd.t 18), grd := some (14, true) }, { dst := some 20, op := AOp.pick (Opd.t 14) (Opd.t 19) (Opd.c (AV.bool false)), grd := none }, { dst := some 21, op := AOp.mv (Opd.t 20), grd := none }, { dst := some 22, op := AOp.mv (Opd.t 0), grd := some (21, true) }, { dst := some 23, op := AOp.mv (Opd.t 3), grd := some (21, true) }, { dst := some 24, op := AOp.bin (BinOp.add) (Opd.t 23) (Opd.c (AV.int (IntKind.i64) 1)), grd := some (21, true) }, { dst := some 25, op := AOp.idxs (Opd.t 22) (Opd.t 24), grd := some (21, true) }, { dst := some 26, op := AOp.bin (BinOp.eql) (Opd.t 25) (Opd.c (AV.int (IntKind.u8) 47)), grd := some (21, true) }, { dst := some 27, op := AOp.pick (Opd.t 21) (Opd.t 26) (Opd.c (AV.bool false)), grd := none }]
def c15_16 : ACode := .seq c15_17 c15_18
def c15_15 : ACode := .seq c15_16 c15_32
def c15_14 : ACode := .block 1 c15_15
def c15_13 : ACode := .seq c15_14 c15_39
def c15_12 : ACode := .exit 0
def c15_11 : ACode := .skip
def c15_10 : ACode := .cond (.t 7) c15_11 c15_12
def c15_9 : ACode := .reg [{ dst := some 4, op := AOp.mv (Opd.t 3), grd := none }, { dst := some 5, op := AOp.mv (Opd.t 0), grd := none }, { dst := some 6, op := AOp.len 0 (Opd.t 5), grd := none }, { dst := some 7, op := AOp.bin (BinOp.lss) (Opd.t 4) (Opd.t 6), grd := none }]
def c15_8 : ACode := .seq c15_9 c15_10
def c15_7 : ACode := .seq c15_8 c15_13
def c15_6 : ACode := .loop c15_7
def c15_5 : ACode := .block 0 c15_6
def c15_4 : ACode := .reg [{ dst := some 3, op := AOp.mv (Opd.c (AV.int (IntKind.i64) 0)), grd := none }]
def c15_3 : ACode := .seq c15_4 c15_5
def c15_2 : ACode := .seq c15_3 c15_40
def c15_1 : ACode := .reg [{ dst := some 2, op := AOp.mv (Opd.c (AV.bool false)), grd := none }]
def c15_0 : ACode := .seq c15_1 c15_2
def A15 : AFun := { np := 1, res := [(2, none)], body := c15_0 }

def c16_32 : ACode := .ret
def c16_31 : ACode := .reg [{ dst := some 31, op := AOp.load false 1 (Opd.t 6), grd := none }, { dst := none, op := AOp.store 1 (Opd.t 2) (Opd.t 31), grd := none }, { dst := none, op := AOp.store 1 (Opd.t 3) (Opd.c (AV.int (IntKind.i64) 0)), grd := none }, { dst := none, op := AOp.store 1 (Opd.t 4) (Opd.c (AV.int (IntKind.i64) 0)), grd := none }]
def c16_30 : ACode := .seq c16_31 c16_32
def c16_29 : ACode := .skip
def c16_28 : ACode := .ret
def c16_27 : ACode := .dreg [{ dst := some 27, op := AOp.mv (Opd.t 5), grd := none }, { dst := some 28, op := AOp.nilck (Opd.t 27), grd := none }, { dst := some 29, op := AOp.fadr 1 (Opd.t 28), grd := none }, { dst := some 30, op := AOp.load false 1 (Opd.t 29), grd := none }] [({ dst := none, op := AOp.store 1 (Opd.t 2) (Opd.c (AV.nilSlc)), grd := none }, [{ dst := some 30, op := AOp.load false 1 (Opd.t 29), grd := none }], []), ({ dst := none, op := AOp.store 1 (Opd.t 3) (Opd.t 30), grd := none }, [], []), ({ dst := none, op := AOp.store 1 (Opd.t 4) (Opd.c (AV.int (IntKind.i64) 20)), grd := none }, [], [])]
def c16_26 : ACode := .seq c16_27 c16_28
def c16_25 : ACode := .cond (.t 26) c16_26 c16_29
def c16_24 : ACode := .reg [{ dst := some 23, op := AOp.mv (Opd.t 5), grd := none }, { dst := some 24, op := AOp.nilck (Opd.t 23), grd := none }, { dst := some 25, op := AOp.fadr 2 (Opd.t 24), grd := none }, { dst := some 26, op := AOp.load false 1 (Opd.t 25), grd := none }]
def c16_23 : ACode := .seq c16_24 c16_25
def c16_22 : ACode := .seq c16_23 c16_30
def c16_21 : ACode := .reg [{ dst := some 19, op := AOp.load false 1 (Opd.t 6), grd := none }, { dst := some 20, op := AOp.load true 4 (Opd.t 7), grd := none }, { dst := some 21, op := AOp.bslice 1 4 [AV.int (IntKind.i64) 0, AV.str [], AV.int (IntKind.i64) 0, AV.int (IntKind.i64) 0] [(0, Opd.t 20)], grd := none }, { dst := some 22, op := AOp.app 4 40 (Opd.t 19) (Opd.t 21), grd := none }, { dst := none, op := AOp.store 1 (Opd.t 6) (Opd.t 22), grd := none }]
def c16_20 : ACode := .skip
def c16_19 : ACode := .ret
def c16_18 : ACode := .dreg [{ dst := some 17, op := AOp.fadr 2 (Opd.t 7), grd := none }, { dst := some 18, op := AOp.load false 1 (Opd.t 17), grd := none }] [({ dst := none, op := AOp.store 1 (Opd.t 2) (Opd.c (AV.nilSlc)), grd := none }, [{ dst := some 18, op := AOp.load false 1 (Opd.t 17), grd := none }], []), ({ dst := none, op := AOp.store 1 (Opd.t 3) (Opd.t 18), grd := none }, [], []), ({ dst := none, op := AOp.store 1 (Opd.t 4) (Opd.c (AV.int (IntKind.i64) 20)), grd := none }, [], [])]
def c16_17 : ACode := .seq c16_18 c16_19
def c16_16 : ACode := .cond (.t 16) c16_17 c16_20
def c16_15 : ACode := .reg [{ dst := some 14, op := AOp.load false 1 (Opd.t 6), grd := none }, { dst := some 15, op := AOp.len 1 (Opd.t 14), grd := none }, { dst := some 16, op := AOp.bin (BinOp.geq) (Opd.t 15) (Opd.c (AV.int (IntKind.i64) 4096)), grd := none }]
def c16_14 : ACode := .seq c16_15 c16_16
def c16_13 : ACode := .seq c16_14 c16_21
def c16_12 : ACode := .block 1 c16_13
def c16_11 : ACode := .reg [{ dst := some 7, op := AOp.alloc [AV.int (IntKind.i64) 0, AV.str [], AV.int (IntKind.i64) 0, AV.int (IntKind.i64) 0], grd := none }, { dst := none, op := AOp.store 4 (Opd.t 7) (Opd.t 13), grd := none }]
def c16_10 : ACode := .keep [2, 3, 4, 5, 6, 12] (.rf (.t 12) [13] c16_11 c16_12)
def c16_9 : ACode := .block 0 c16_10
def c16_8 : ACode := .reg [{ dst := some 11, op := AOp.mv (Opd.t 5), grd := none }, { dst := some 12, op := AOp.call (Opd.c (AV.fn (AFn.func 22) [] [])) [Opd.t 11], grd := none }]
def c16_7 : ACode := .seq c16_8 c16_9
def c16_6 : ACode := .seq c16_7 c16_22
def c16_5 : ACode := .reg [{ dst := some 6, op := AOp.alloc [AV.nilSlc], grd := none }]
def c16_4 : ACode := .seq c16_5 c16_6
def c16_3 : ACode := .reg [{ dst := some 8, op := AOp.mv (Opd.t 0), grd := none }, { dst := some 9, op := AOp.build [AV.str [], AV.int (IntKind.i64) 0, AV.bool false] [(0, 1, Opd.t 8)], grd := none }, { dst := some 10, op := AOp.box 3 (Opd.t 9), grd := none }, { dst := some 5, op := AOp.mv (Opd.t 10), grd := none }]
def c16_2 : ACode := .seq c16_3 c16_4
def c16_1 : ACode := .reg [{ dst := some 2, op := AOp.alloc [AV.nilSlc], grd := none }, { dst := some 3, op := AOp.alloc [AV.int (IntKind.i64) 0], grd := none }, { dst := some 4, op := AOp.alloc [AV.int (IntKind.i64) 0], grd := none }]
def c16_0 : ACode := .seq c16_1 c16_2
def A16 : AFun := { np := 1, res := [(2, some (false, 1)), (3, some (false, 1)), (4, some (false, 1))], body := c16_0 }

def c17_31 : ACode := .ret
def c17_30 : ACode := .reg [{ dst := some 35, op := AOp.mv (Opd.t 5), grd := none }, { dst := some 2, op := AOp.mv (Opd.t 35), grd := none }, { dst := some 3, op := AOp.mv (Opd.c (AV.int (IntKind.i64) 0)), grd := none }, { dst := some 4, op := AOp.mv (Opd.c (AV.int (IntKind.i64) 0)), grd := none }]
def c17_29 : ACode := .seq c17_30 c17_31
def c17_28 : ACode := .reg [{ dst := some 31, op := AOp.mv (Opd.t 0), grd := none }, { dst := some 32, op := AOp.fadr 3 (Opd.t 7), grd := none }, { dst := some 33, op := AOp.load false 1 (Opd.t 32), grd := none }, { dst := some 34, op := AOp.call (Opd.c (AV.fn (AFn.func 23) [] [])) [Opd.t 31, Opd.t 33], grd := none }, { dst := some 6, op := AOp.mv (Opd.t 34), grd := none }]
def c17_27 : ACode := .reg [{ dst := some 27, op := AOp.mv (Opd.t 5), grd := none }, { dst := some 28, op := AOp.load true 4 (Opd.t 7), grd := none }, { dst := some 29, op := AOp.bslice 1 4 [AV.int (IntKind.i64) 0, AV.str [], AV.int (IntKind.i64) 0, AV.int (IntKind.i64) 0] [(0, Opd.t 28)], grd := none }, { dst := some 30, op := AOp.app 4 40 (Opd.t 27) (Opd.t 29), grd := none }, { dst := some 5, op := AOp.mv (Opd.t 30), grd := none }]
def c17_26 : ACode := .seq c17_27 c17_28
def c17_25 : ACode := .skip
def c17_24 : ACode := .ret
def c17_23 : ACode := .reg [{ dst := some 26, op := AOp.mv (Opd.t 6), grd := none }, { dst := some 2, op := AOp.mv (Opd.c (AV.nilSlc)), grd := none }, { dst := some 3, op := AOp.mv (Opd.t 26), grd := none }, { dst := some 4, op := AOp.mv (Opd.c (AV.int (IntKind.i64) 20)), grd := none }]
def c17_22 : ACode := .seq c17_23 c17_24
def c17_21 : ACode := .cond (.t 25) c17_22 c17_25
def c17_20 : ACode := .reg [{ dst := some 17, op := AOp.fadr 3 (Opd.t 7), grd := none }, { dst := some 18, op := AOp.load false 1 (Opd.t 17), grd := none }, { dst := some 19, op := AOp.mv (Opd.t 6), grd := none }, { dst := some 20, op := AOp.bin (BinOp.leq) (Opd.t 18) (Opd.t 19), grd := none }, { dst := some 21, op := AOp.mv (Opd.t 20), grd := none }, { dst := some 22, op := AOp.mv (Opd.t 5), grd := some (21, false) }, { dst := some 23, op := AOp.len 1 (Opd.t 22), grd := some (21, false) }, { dst := some 24, op := AOp.bin (BinOp.eql) (Opd.t 23) (Opd.c (AV.int (IntKind.i64) 4096)), grd := some (21, false) }, { dst := some 25, op := AOp.pick (Opd.t 21) (Opd.c (AV.bool true)) (Opd.t 24), grd := none }]
def c17_19 : ACode := .seq c17_20 c17_21
def c17_18 : ACode := .seq c17_19 c17_26
def c17_17 : ACode := .reg [{ dst := some 14, op := AOp.mv (Opd.t 0), grd := none }, { dst := some 15, op := AOp.mv (Opd.t 6), grd := none }, { dst := some 16, op := AOp.call (Opd.c (AV.fn (AFn.func 24) [] [])) [Opd.t 14, Opd.t 15], grd := none }, { dst := some 7, op := AOp.alloc [AV.int (IntKind.i64) 0, AV.str [], AV.int (IntKind.i64) 0, AV.int (IntKind.i64) 0], grd := none }, { dst := none, op := AOp.store 4 (Opd.t 7) (Opd.t 16), grd := none }]
def c17_16 : ACode := .seq c17_17 c17_18
def c17_15 : ACode := .block 1 c17_16
def c17_14 : ACode := .exit 0
def c17_13 : ACode := .skip
def c17_12 : ACode := .cond (.t 13) c17_13 c17_14
def c17_11 : ACode := .reg [{ dst := some 10, op := AOp.mv (Opd.t 6), grd := none }, { dst := some 11, op := AOp.mv (Opd.t 0), grd := none }, { dst := some 12, op := AOp.len 0 (Opd.t 11), grd := none }, { dst := some 13, op := AOp.bin (BinOp.lss) (Opd.t 10) (Opd.t 12), grd := none }]
def c17_10 : ACode := .seq c17_11 c17_12
def c17_9 : ACode := .seq c17_10 c17_15
def c17_8 : ACode := .loop c17_9
def c17_7 : ACode := .block 0 c17_8
def c17_6 : ACode := .reg [{ dst := some 8, op := AOp.mv (Opd.t 0), grd := none }, { dst := some 9, op := AOp.call (Opd.c (AV.fn (AFn.func 23) [] [])) [Opd.t 8, Opd.c (AV.int (IntKind.i64) 0)], grd := none }, { dst := some 6, op := AOp.mv (Opd.t 9), grd := none }]
def c17_5 : ACode := .seq c17_6 c17_7
def c17_4 : ACode := .seq c17_5 c17_29
def c17_3 : ACode := .reg [{ dst := some 5, op := AOp.mv (Opd.c (AV.nilSlc)), grd := none }]
def c17_2 : ACode := .seq c17_3 c17_4
def c17_1 : ACode := .reg [{ dst := some 2, op := AOp.mv (Opd.c (AV.nilSlc)), grd := none }, { dst := some 3, op := AOp.mv (Opd.c (AV.int (IntKind.i64) 0)), grd := none }, { dst := some 4, op := AOp.mv (Opd.c (AV.int (IntKind.i64) 0)), grd := none }]
def c17_0 : ACode := .seq c17_1 c17_2
def A17 : AFun := { np := 1, res := [(2, none), (3, none), (4, none)], body := c17_0 }

def c18_25 : ACode := .ret
def c18_24 : ACode := .reg [{ dst := some 4, op := AOp.mv (Opd.c (AV.int (IntKind.i64) (-1))), grd := none }]
def c18_23 : ACode := .seq c18_24 c18_25
def c18_22 : ACode := .reg [{ dst := some 10, op := AOp.mv (Opd.t 5), grd := none }, { dst := some 11, op := AOp.bin (BinOp.add) (Opd.t 10) (Opd.c (AV.int (IntKind.i64) 1)), grd := none }, { dst := some 5, op := AOp.mv (Opd.t 11), grd := none }]
def c18_21 : ACode := .skip
def c18_20 : ACode := .ret
def c18_19 : ACode := .reg [{ dst := some 18, op := AOp.mv (Opd.t 5), grd := none }, { dst := some 4, op := AOp.mv (Opd.t 18), grd := none }]
def c18_18 : ACode := .seq c18_19 c18_20
def c18_17 : ACode := .cond (.t 17) c18_18 c18_21
def c18_16 : ACode := .reg [{ dst := some 12, op := AOp.mv (Opd.t 0), grd := none }, { dst := some 13, op := AOp.mv (Opd.t 5), grd := none }, { dst := some 14, op := AOp.iadr 1 (Opd.t 12) (Opd.t 13), grd := none }, { dst := some 15, op := AOp.load false 1 (Opd.t 14), grd := none }, { dst := some 16, op := AOp.mv (Opd.t 1), grd := none }, { dst := some 17, op := AOp.bin (BinOp.eql) (Opd.t 15) (Opd.t 16), grd := none }]
def c18_15 : ACode := .seq c18_16 c18_17
def c18_14 : ACode := .block 1 c18_15
def c18_13 : ACode := .seq c18_14 c18_22
def c18_12 : ACode := .exit 0
def c18_11 : ACode := .skip
def c18_10 : ACode := .cond (.t 9) c18_11 c18_12
def c18_9 : ACode := .reg [{ dst := some 6, op := AOp.mv (Opd.t 5), grd := none }, { dst := some 7, op := AOp.mv (Opd.t 0), grd := none }, { dst := some 8, op := AOp.len 1 (Opd.t 7), grd := none }, { dst := some 9, op := AOp.bin (BinOp.lss) (Opd.t 6) (Opd.t 8), grd := none }]
def c18_8 : ACode := .seq c18_9 c18_10
def c18_7 : ACode := .seq c18_8 c18_13
def c18_6 : ACode := .loop c18_7
def c18_5 : ACode := .block 0 c18_6
def c18_4 : ACode := .reg [{ dst := some 5, op := AOp.mv (Opd.c (AV.int (IntKind.i64) 0)), grd := none }]
def c18_3 : ACode := .seq c18_4 c18_5
def c18_2 : ACode := .seq c18_3 c18_23
def c18_1 : ACode := .reg [{ dst := some 4, op := AOp.mv (Opd.c (AV.int (IntKind.i64) 0)), grd := none }]
def c18_0 : ACode := .seq c18_1 c18_2
def A18 : AFun := { np := 2, res := [(4, none)], body := c18_0 }

def c19_8 : ACode := .ret
def c19_7 : ACode := .reg [{ dst := some 4, op := AOp.mv (Opd.c (AV.nilIf)), grd := none }]
def c19_6 : ACode := .seq c19_7 c19_8
def c19_5 : ACode := .reg [{ dst := some 7, op := AOp.mv (Opd.t 0), grd := none }, { dst := some 8, op := AOp.mv (Opd.t 0), grd := none }, { dst := some 9, op := AOp.nilck (Opd.t 8), grd := none }, { dst := some 10, op := AOp.fadr 1 (Opd.t 9), grd := none }, { dst := some 11, op := AOp.load false 1 (Opd.t 10), grd := none }, { dst := some 12, op := AOp.mv (Opd.t 1), grd := none }, { dst := some 13, op := AOp.bslice 1 1 [AV.int (IntKind.u8) 0] [(0, Opd.t 12)], grd := none }, { dst := some 14, op := AOp.appb 5 (Opd.t 11) (Opd.t 13), grd := none }, { dst := some 15, op := AOp.nilck (Opd.t 7), grd := none }, { dst := some 16, op := AOp.fadr 1 (Opd.t 15), grd := none }, { dst := none, op := AOp.store 1 (Opd.t 16) (Opd.t 14), grd := none }]
def c19_4 : ACode := .seq c19_5 c19_6
def c19_3 : ACode := .reg [{ dst := some 5, op := AOp.mv (Opd.t 0), grd := none }, { dst := some 6, op := AOp.call (Opd.c (AV.fn (AFn.func 25) [] [])) [Opd.t 5], grd := none }]
def c19_2 : ACode := .seq c19_3 c19_4
def c19_1 : ACode := .reg [{ dst := some 4, op := AOp.mv (Opd.c (AV.nilIf)), grd := none }]
def c19_0 : ACode := .seq c19_1 c19_2
def A19 : AFun := { np := 2, res := [(4, none)], body := c19_0 }

def c20_4 : ACode := .ret
def c20_3 : ACode := .reg [{ dst := some 5, op := AOp.mv (Opd.t 0), grd := none }, { dst := some 6, op := AOp.mv (Opd.t 1), grd := none }, { dst := some 7, op := AOp.call (Opd.c (AV.fn (AFn.func 26) [] [])) [Opd.t 5, Opd.t 6], grd := none }, { dst := some 4, op := AOp.mv (Opd.t 7), grd := none }]
def c20_2 : ACode := .seq c20_3 c20_4
def c20_1 : ACode := .reg [{ dst := some 4, op := AOp.mv (Opd.c (AV.int (IntKind.i64) 0)), grd := none }]
def c20_0 : ACode := .seq c20_1 c20_2
def A20 : AFun := { np := 2, res := [(4, none)], body := c20_0 }

def c21_4 : ACode := .ret
def c21_3 : ACode := .dreg [{ dst := some 3, op := AOp.mv (Opd.t 0), grd := none }, { dst := some 4, op := AOp.nilck (Opd.t 3), grd := none }, { dst := some 5, op := AOp.fadr 1 (Opd.t 4), grd := none }, { dst := some 6, op := AOp.load false 1 (Opd.t 5), grd := none }, { dst := some 7, op := AOp.sdat (Opd.t 6), grd := none }, { dst := some 8, op := AOp.mv (Opd.t 0), grd := none }, { dst := some 9, op := AOp.nilck (Opd.t 8), grd := none }, { dst := some 10, op := AOp.fadr 1 (Opd.t 9), grd := none }, { dst := some 11, op := AOp.load false 1 (Opd.t 10), grd := none }, { dst := some 12, op := AOp.len 1 (Opd.t 11), grd := none }] [({ dst := some 13, op := AOp.ustr 5 (Opd.t 7) (Opd.t 12), grd := none }, [], [{ dst := some 2, op := AOp.mv (Opd.t 13), grd := none }])]
def c21_2 : ACode := .seq c21_3 c21_4
def c21_1 : ACode := .reg [{ dst := some 2, op := AOp.mv (Opd.c (AV.str [])), grd := none }]
def c21_0 : ACode := .seq c21_1 c21_2
def A21 : AFun := { np := 1, res := [(2, none)], body := c21_0 }

def c22_4 : ACode := .ret
def c22_3 : ACode := .reg [{ dst := some 3, op := AOp.mkfn 27 [] [Opd.t 1], grd := none }, { dst := some 2, op := AOp.mv (Opd.t 3), grd := none }]
def c22_2 : ACode := .seq c22_3 c22_4
def c22_1 : ACode := .reg [{ dst := some 1, op := AOp.box 1 (Opd.t 0), grd := none }, { dst := some 2, op := AOp.mv (Opd.c (AV.nilFn)), grd := none }]
def c22_0 : ACode := .seq c22_1 c22_2
def A22 : AFun := { np := 1, res := [(2, none)], body := c22_0 }

def c23_35 : ACode := .ret
def c23_34 : ACode := .reg [{ dst := some 66, op := AOp.mv (Opd.t 1), grd := none }, { dst := some 4, op := AOp.mv (Opd.t 66), grd := none }]
def c23_33 : ACode := .seq c23_34 c23_35
def c23_32 : ACode := .ret
def c23_31 : ACode := .reg [{ dst := some 9, op := AOp.mv (Opd.t 1), grd := none }, { dst := some 4, op := AOp.mv (Opd.t 9), grd := none }]
def c23_30 : ACode := .seq c23_31 c23_32
def c23_29 : ACode := .reg [{ dst := some 64, op := AOp.mv (Opd.t 1), grd := none }, { dst := some 65, op := AOp.bin (BinOp.add) (Opd.t 64) (Opd.c (AV.int (IntKind.i64) 1)), grd := none }, { dst := some 1, op := AOp.mv (Opd.t 65), grd := none }]
def c23_28 : ACode := .block 4 c23_29
def c23_27 : ACode := .exit 3
def c23_26 : ACode := .skip
def c23_25 : ACode := .cond (.t 63) c23_26 c23_27
def c23_24 : ACode := .reg [{ dst := some 54, op := AOp.mv (Opd.t 1), grd := none }, { dst := some 55, op := AOp.mv (Opd.t 0), grd := none }, { dst := some 56, op := AOp.len 0 (Opd.t 55), grd := none }, { dst := some 57, op := AOp.bin (BinOp.lss) (Opd.t 54) (Opd.t 56), grd := none }, { dst := some 58, op := AOp.mv (Opd.t 57), grd := none }, { dst := some 59, op := AOp.mv (Opd.t 0), grd := some (58, true) }, { dst := some 60, op := AOp.mv (Opd.t 1), grd := some (58, true) }, { dst := some 61, op := AOp.idxs (Opd.t 59) (Opd.t 60), grd := some (58, true) }, { dst := some 62, op := AOp.bin (BinOp.neq) (Opd.t 61) (Opd.c (AV.int (IntKind.u8) 10)), grd := some (58, true) }, { dst := some 63, op := AOp.pick (Opd.t 58) (Opd.t 62) (Opd.c (AV.bool false)), grd := none }]
def c23_23 : ACode := .seq c23_24 c23_25
def c23_22 : ACode := .seq c23_23 c23_28
def c23_21 : ACode := .loop c23_22
def c23_20 : ACode := .block 3 c23_21
def c23_19 : ACode := .cond (.t 35) c23_20 c23_30
set_option maxRecDepth 100000 in
def c23_18 : ACode := .reg [{ dst := some 36, op := AOp.mv (Opd.t 0), grd := none }, { dst := some 37, op := AOp.mv (Opd.t 1), grd := none }, { dst := some 38, op := AOp.idxs (Opd.t 36) (Opd.t 37), grd := none }, { dst := some 39, op := AOp.bin (BinOp.eql) (Opd.t 38) (Opd.c (AV.int (IntKind.u8) 47)), grd := none }, { dst := some 40, op := AOp.mv (Opd.t 39), grd := none }, { dst := some 41, op := AOp.mv (Opd.t 1), grd := some (40, true) }, { dst := some 42, op := AOp.bin (BinOp.add) (Opd.t 41) (Opd.c (AV.int (IntKind.i64) 1)), grd := some (40, true) }, { dst := some 43, op := AOp.mv (Opd.t 0), grd := some (40, true) }, { dst := some 44, op := AOp.len 0 (Opd.t 43), grd := some (40, true) }, { dst := some 45, op := AOp.bin (BinOp.lss) (Opd.t 42) (Opd.t 44), grd := some (40, true) }, { dst := some 46, op := AOp.pick (Opd.t 40) (Opd.t 45) (Opd.c (AV.bool false)), grd := none }, { dst := some 47, op := AOp.mv (Opd.t 46), grd := none }, { dst := some 48, op := AOp.mv (Opd.t 0), grd := some (47, true) }, { dst := some 49, op := AOp.mv (Opd.t 1), grd := some (47, true) }, { dst := some 50, op := AOp.bin (BinOp.add) (Opd.t 49) (Opd.c (AV.int (IntKind.i64) 1)), grd := some (47, true) }, { dst := some 51, op := AOp.idxs (Opd.t 48) (Opd.t 50), grd := some (47, true) }, { dst := some 52, op := AOp.bin (BinOp.eql) (Opd.t 51) (Opd.c (AV.int (IntKind.u8) 47)), grd := some (47, true) }, { dst := some 53, op := AOp.pick (Opd.t 47) (Opd.t 52) (Opd.c (AV.bool false)), grd := none }, { dst := some 35, op := AOp.mv (Opd.t 53), grd := none }]
def c23_17 : ACode := .seq c23_18 c23_19
def c23_16 : ACode := .reg [{ dst := some 33, op := AOp.mv (Opd.t 1), grd := none }, { dst := some 34, op := AOp.bin (BinOp.add) (Opd.t 33) (Opd.c (AV.int (IntKind.i64) 1)), grd := none }, { dst := some 1, op := AOp.mv (Opd.t 34), grd := none }]
def c23_15 : ACode := .cond (.t 10) c23_16 c23_17
set_option maxRecDepth 100000 in
def c23_14 : ACode := .reg [{ dst := some 11, op := AOp.mv (Opd.t 0), grd := none }, { dst := some 12, op := AOp.mv (Opd.t 1), grd := none }, { dst := some 13, op := AOp.idxs (Opd.t 11) (Opd.t 12), grd := none }, { dst := some 14, op := AOp.bin (BinOp.eql) (Opd.t 13) (Opd.c (AV.int (IntKind.u8) 32)), grd := none }, { dst := some 15, op := AOp.mv (Opd.t 14), grd := none }, { dst := some 16, op := AOp.mv (Opd.t 0), grd := some (15, false) }, { dst := some 17, op := AOp.mv (Opd.t 1), grd := some (15, false) }, { dst := some 18, op := AOp.idxs (Opd.t 16) (Opd.t 17), grd := some (15, false) }, { dst := some 19, op := AOp.bin (BinOp.eql) (Opd.t 18) (Opd.c (AV.int (IntKind.u8) 9)), grd := some (15, false) }, { dst := some 20, op := AOp.pick (Opd.t 15) (Opd.c (AV.bool true)) (Opd.t 19), grd := none }, { dst := some 21, op := AOp.mv (Opd.t 20), grd := none }, { dst := some 22, op := AOp.mv (Opd.t 0), grd := some (21, false) }, { dst := some 23, op := AOp.mv (Opd.t 1), grd := some (21, false) }, { dst := some 24, op := AOp.idxs (Opd.t 22) (Opd.t 23), grd := some (21, false) }, { dst := some 25, op := AOp.bin (BinOp.eql) (Opd.t 24) (Opd.c (AV.int (IntKind.u8) 13)), grd := some (21, false) }, { dst := some 26, op := AOp.pick (Opd.t 21) (Opd.c (AV.bool true)) (Opd.t 25), grd := none }, { dst := some 27, op := AOp.mv (Opd.t 26), grd := none }, { dst := some 28, op := AOp.mv (Opd.t 0), grd := some (27, false) }, { dst := some 29, op := AOp.mv (Opd.t 1), grd := some (27, false) }, { dst := some 30, op := AOp.idxs (Opd.t 28) (Opd.t 29), grd := some (27, false) }, { dst := some 31, op := AOp.bin (BinOp.eql) (Opd.t 30) (Opd.c (AV.int (IntKind.u8) 10)), grd := some (27, false) }, { dst := some 32, op := AOp.pick (Opd.t 27) (Opd.c (AV.bool true)) (Opd.t 31), grd := none }, { dst := some 10, op := AOp.mv (Opd.t 32), grd := none }]
def c23_13 : ACode := .seq c23_14 c23_15
def c23_12 : ACode := .block 2 c23_13
def c23_11 : ACode := .block 1 c23_12
def c23_10 : ACode := .exit 0
def c23_9 : ACode := .skip
def c23_8 : ACode := .cond (.t 8) c23_9 c23_10
def c23_7 : ACode := .reg [{ dst := some 5, op := AOp.mv (Opd.t 1), grd := none }, { dst := some 6, op := AOp.mv (Opd.t 0), grd := none }, { dst := some 7, op := AOp.len 0 (Opd.t 6), grd := none }, { dst := some 8, op := AOp.bin (BinOp.lss) (Opd.t 5) (Opd.t 7), grd := none }]
def c23_6 : ACode := .seq c23_7 c23_8
def c23_5 : ACode := .seq c23_6 c23_11
def c23_4 : ACode := .loop c23_5
def c23_3 : ACode := .block 0 c23_4
def c23_2 : ACode := .seq c23_3 c23_33
def c23_1 : ACode := .reg [{ dst := some 4, op := AOp.mv (Opd.c (AV.int (IntKind.i64) 0)), grd := none }]
def c23_0 : ACode := .seq c23_1 c23_2
def A23 : AFun := { np := 2, res := [(4, none)], body := c23_0 }

def c24_69 : ACode := .ret
def c24_68 : ACode := .reg [{ dst := some 125, op := AOp.mv (Opd.t 1), grd := none }, { dst := some 126, op := AOp.mv (Opd.t 1), grd := none }, { dst := some 127, op := AOp.build [AV.int (IntKind.i64) 0, AV.str [], AV.int (IntKind.i64) 0, AV.int (IntKind.i64) 0] [(2, 1, Opd.t 125), (3, 1, Opd.t 126)], grd := none }, { dst := none, op := AOp.store 4 (Opd.t 4) (Opd.t 127), grd := none }]
def c24_67 : ACode := .seq c24_68 c24_69
def c24_66 : ACode := .skip
def c24_65 : ACode := .ret
def c24_64 : ACode := .reg [{ dst := some 116, op := AOp.mv (Opd.t 0), grd := none }, { dst := some 117, op := AOp.mv (Opd.t 1), grd := none }, { dst := some 118, op := AOp.mv (Opd.t 1), grd := none }, { dst := some 119, op := AOp.bin (BinOp.add) (Opd.t 118) (Opd.c (AV.int (IntKind.i64) 1)), grd := none }, { dst := some 120, op := AOp.sls (Opd.t 116) (some (Opd.t 117)) (some (Opd.t 119)), grd := none }, { dst := some 121, op := AOp.mv (Opd.t 1), grd := none }, { dst := some 122, op := AOp.mv (Opd.t 1), grd := none }, { dst := some 123, op := AOp.bin (BinOp.add) (Opd.t 122) (Opd.c (AV.int (IntKind.i64) 1)), grd := none }, { dst := some 124, op := AOp.build [AV.int (IntKind.i64) 0, AV.str [], AV.int (IntKind.i64) 0, AV.int (IntKind.i64) 0] [(0, 1, Opd.c (AV.int (IntKind.i64) 4)), (1, 1, Opd.t 120), (2, 1, Opd.t 121), (3, 1, Opd.t 123)], grd := none }, { dst := none, op := AOp.store 4 (Opd.t 4) (Opd.t 124), grd := none }]
def c24_63 : ACode := .seq c24_64 c24_65
def c24_62 : ACode := .cond (.t 115) c24_63 c24_66
def c24_61 : ACode := .reg [{ dst := some 108, op := AOp.bslice 20 1 [AV.str []] [(0, Opd.c (AV.str [40])), (1, Opd.c (AV.str [41])), (2, Opd.c (AV.str [91])), (3, Opd.c (AV.str [93])), (4, Opd.c (AV.str [123])), (5, Opd.c (AV.str [125])), (6, Opd.c (AV.str [44])), (7, Opd.c (AV.str [46])), (8, Opd.c (AV.str [58])), (9, Opd.c (AV.str [59])), (10, Opd.c (AV.str [63])), (11, Opd.c (AV.str [60])), (12, Opd.c (AV.str [62])), (13, Opd.c (AV.str [61])), (14, Opd.c (AV.str [43])), (15, Opd.c (AV.str [45])), (16, Opd.c (AV.str [42])), (17, Opd.c (AV.str [47])), (18, Opd.c (AV.str [37])), (19, Opd.c (AV.str [33]))], grd := none }, { dst := some 109, op := AOp.mv (Opd.t 0), grd := none }, { dst := some 110, op := AOp.mv (Opd.t 1), grd := none }, { dst := some 111, op := AOp.mv (Opd.t 1), grd := none }, { dst := some 112, op := AOp.bin (BinOp.add) (Opd.t 111) (Opd.c (AV.int (IntKind.i64) 1)), grd := none }, { dst := some 113, op := AOp.sls (Opd.t 109) (some (Opd.t 110)) (some (Opd.t 112)), grd := none }, { dst := some 114, op := AOp.call (Opd.c (AV.fn (AFn.func 18) [] [])) [Opd.t 108, Opd.t 113], grd := none }, { dst := some 115, op := AOp.bin (BinOp.geq) (Opd.t 114) (Opd.c (AV.int (IntKind.i64) 0)), grd := none }]
def c24_60 : ACode := .seq c24_61 c24_62
def c24_59 : ACode := .seq c24_60 c24_67
def c24_58 : ACode := .skip
def c24_57 : ACode := .ret
def c24_56 : ACode := .reg [{ dst := some 99, op := AOp.mv (Opd.t 0), grd := none }, { dst := some 100, op := AOp.mv (Opd.t 1), grd := none }, { dst := some 101, op := AOp.mv (Opd.t 1), grd := none }, { dst := some 102, op := AOp.bin (BinOp.add) (Opd.t 101) (Opd.c (AV.int (IntKind.i64) 2)), grd := none }, { dst := some 103, op := AOp.sls (Opd.t 99) (some (Opd.t 100)) (some (Opd.t 102)), grd := none }, { dst := some 104, op := AOp.mv (Opd.t 1), grd := none }, { dst := some 105, op := AOp.mv (Opd.t 1), grd := none }, { dst := some 106, op := AOp.bin (BinOp.add) (Opd.t 105) (Opd.c (AV.int (IntKind.i64) 2)), grd := none }, { dst := some 107, op := AOp.build [AV.int (IntKind.i64) 0, AV.str [], AV.int (IntKind.i64) 0, AV.int (IntKind.i64) 0] [(0, 1, Opd.c (AV.int (IntKind.i64) 4)), (1, 1, Opd.t 103), (2, 1, Opd.t 104), (3, 1, Opd.t 106)], grd := none }, { dst := none, op := AOp.store 4 (Opd.t 4) (Opd.t 107), grd := none }]
def c24_55 : ACode := .seq c24_56 c24_57
def c24_54 : ACode := .cond (.t 98) c24_55 c24_58
def c24_53 : ACode := .reg [{ dst := some 84, op := AOp.mv (Opd.t 1), grd := none }, { dst := some 85, op := AOp.bin (BinOp.add) (Opd.t 84) (Opd.c (AV.int (IntKind.i64) 1)), grd := none }, { dst := some 86, op := AOp.mv (Opd.t 0), grd := none }, { dst := some 87, op := AOp.len 0 (Opd.t 86), grd := none }, { dst := some 88, op := AOp.bin (BinOp.lss) (Opd.t 85) (Opd.t 87), grd := none }, { dst := some 89, op := AOp.mv (Opd.t 88), grd := none }, { dst := some 90, op := AOp.bslice 6 1 [AV.str []] [(0, Opd.c (AV.str [61, 61])), (1, Opd.c (AV.str [33, 61])), (2, Opd.c (AV.str [60, 61])), (3, Opd.c (AV.str [62, 61])), (4, Opd.c (AV.str [38, 38])), (5, Opd.c (AV.str [124, 124]))], grd := some (89, true) }, { dst := some 91, op := AOp.mv (Opd.t 0), grd := some (89, true) }, { dst := some 92, op := AOp.mv (Opd.t 1), grd := some (89, true) }, { dst := some 93, op := AOp.mv (Opd.t 1), grd := some (89, true) }, { dst := some 94, op := AOp.bin (BinOp.add) (Opd.t 93) (Opd.c (AV.int (IntKind.i64) 2)), grd := some (89, true) }, { dst := some 95, op := AOp.sls (Opd.t 91) (some (Opd.t 92)) (some (Opd.t 94)), grd := some (89, true) }, { dst := some 96, op := AOp.call (Opd.c (AV.fn (AFn.func 18) [] [])) [Opd.t 90, Opd.t 95], grd := some (89, true) }, { dst := some 97, op := AOp.bin (BinOp.geq) (Opd.t 96) (Opd.c (AV.int (IntKind.i64) 0)), grd := some (89, true) }, { dst := some 98, op := AOp.pick (Opd.t 89) (Opd.t 97) (Opd.c (AV.bool false)), grd := none }]
def c24_52 : ACode := .seq c24_53 c24_54
def c24_51 : ACode := .seq c24_52 c24_59
def c24_50 : ACode := .skip
def c24_49 : ACode := .ret
def c24_48 : ACode := .reg [{ dst := some 80, op := AOp.mv (Opd.t 7), grd := none }, { dst := some 81, op := AOp.mv (Opd.t 1), grd := none }, { dst := some 82, op := AOp.mv (Opd.t 8), grd := none }, { dst := some 83, op := AOp.build [AV.int (IntKind.i64) 0, AV.str [], AV.int (IntKind.i64) 0, AV.int (IntKind.i64) 0] [(0, 1, Opd.c (AV.int (IntKind.i64) 3)), (1, 1, Opd.t 80), (2, 1, Opd.t 81), (3, 1, Opd.t 82)], grd := none }, { dst := none, op := AOp.store 4 (Opd.t 4) (Opd.t 83), grd := none }]
def c24_47 : ACode := .seq c24_48 c24_49
def c24_46 : ACode := .reg [{ dst := some 75, op := AOp.mv (Opd.t 0), grd := none }, { dst := some 76, op := AOp.mv (Opd.t 1), grd := none }, { dst := some 77, op := AOp.call (Opd.c (AV.fn (AFn.func 33) [] [])) [Opd.t 75, Opd.t 76], grd := none }, { dst := some 74, op := AOp.mv (Opd.t 77), grd := none }, { dst := some 78, op := AOp.ext (Opd.t 74) 0, grd := none }, { dst := some 79, op := AOp.ext (Opd.t 74) 1, grd := none }, { dst := some 7, op := AOp.mv (Opd.t 78), grd := none }, { dst := some 8, op := AOp.mv (Opd.t 79), grd := none }]
def c24_45 : ACode := .seq c24_46 c24_47
def c24_44 : ACode := .cond (.t 73) c24_45 c24_50
def c24_43 : ACode := .reg [{ dst := some 72, op := AOp.mv (Opd.t 5), grd := none }, { dst := some 73, op := AOp.bin (BinOp.eql) (Opd.t 72) (Opd.c (AV.int (IntKind.u8) 34)), grd := none }]
def c24_42 : ACode := .seq c24_43 c24_44
def c24_41 : ACode := .seq c24_42 c24_51
def c24_40 : ACode := .skip
def c24_39 : ACode := .ret
def c24_38 : ACode := .reg [{ dst := some 65, op := AOp.mv (Opd.t 0), grd := none }, { dst := some 66, op := AOp.mv (Opd.t 1), grd := none }, { dst := some 67, op := AOp.mv (Opd.t 6), grd := none }, { dst := some 68, op := AOp.sls (Opd.t 65) (some (Opd.t 66)) (some (Opd.t 67)), grd := none }, { dst := some 69, op := AOp.mv (Opd.t 1), grd := none }, { dst := some 70, op := AOp.mv (Opd.t 6), grd := none }, { dst := some 71, op := AOp.build [AV.int (IntKind.i64) 0, AV.str [], AV.int (IntKind.i64) 0, AV.int (IntKind.i64) 0] [(0, 1, Opd.c (AV.int (IntKind.i64) 2)), (1, 1, Opd.t 68), (2, 1, Opd.t 69), (3, 1, Opd.t 70)], grd := none }, { dst := none, op := AOp.store 4 (Opd.t 4) (Opd.t 71), grd := none }]
def c24_37 : ACode := .seq c24_38 c24_39
def c24_36 : ACode := .reg [{ dst := some 63, op := AOp.mv (Opd.t 6), grd := none }, { dst := some 64, op := AOp.bin (BinOp.add) (Opd.t 63) (Opd.c (AV.int (IntKind.i64) 1)), grd := none }, { dst := some 6, op := AOp.mv (Opd.t 64), grd := none }]
def c24_35 : ACode := .block 1 c24_36
def c24_34 : ACode := .exit 0
def c24_33 : ACode := .skip
def c24_32 : ACode := .cond (.t 62) c24_33 c24_34
def c24_31 : ACode := .reg [{ dst := some 53, op := AOp.mv (Opd.t 6), grd := none }, { dst := some 54, op := AOp.mv (Opd.t 0), grd := none }, { dst := some 55, op := AOp.len 0 (Opd.t 54), grd := none }, { dst := some 56, op := AOp.bin (BinOp.lss) (Opd.t 53) (Opd.t 55), grd := none }, { dst := some 57, op := AOp.mv (Opd.t 56), grd := none }, { dst := some 58, op := AOp.mv (Opd.t 0), grd := some (57, true) }, { dst := some 59, op := AOp.mv (Opd.t 6), grd := some (57, true) }, { dst := some 60, op := AOp.idxs (Opd.t 58) (Opd.t 59), grd := some (57, true) }, { dst := some 61, op := AOp.call (Opd.c (AV.fn (AFn.func 32) [] [])) [Opd.t 60], grd := some (57, true) }, { dst := some 62, op := AOp.pick (Opd.t 57) (Opd.t 61) (Opd.c (AV.bool false)), grd := none }]
def c24_30 : ACode := .seq c24_31 c24_32
def c24_29 : ACode := .seq c24_30 c24_35
def c24_28 : ACode := .loop c24_29
def c24_27 : ACode := .block 0 c24_28
def c24_26 : ACode := .seq c24_27 c24_37
def c24_25 : ACode := .reg [{ dst := some 52, op := AOp.mv (Opd.t 1), grd := none }, { dst := some 6, op := AOp.mv (Opd.t 52), grd := none }]
def c24_24 : ACode := .seq c24_25 c24_26
def c24_23 : ACode := .cond (.t 51) c24_24 c24_40
def c24_22 : ACode := .reg [{ dst := some 50, op := AOp.mv (Opd.t 5), grd := none }, { dst := some 51, op := AOp.call (Opd.c (AV.fn (AFn.func 32) [] [])) [Opd.t 50], grd := none }]
def c24_21 : ACode := .seq c24_22 c24_23
def c24_20 : ACode := .seq c24_21 c24_41
def c24_19 : ACode := .skip
def c24_18 : ACode := .ret
def c24_17 : ACode := .dreg [{ dst := some 36, op := AOp.mv (Opd.t 0), grd := none }, { dst := some 37, op := AOp.mv (Opd.t 1), grd := none }, { dst := some 38, op := AOp.bin (BinOp.add) (Opd.t 37) (Opd.c (AV.int (IntKind.i64) 1)), grd := none }, { dst := some 39, op := AOp.mv (Opd.t 0), grd := none }, { dst := some 40, op := AOp.mv (Opd.t 1), grd := none }, { dst := some 41, op := AOp.bin (BinOp.add) (Opd.t 40) (Opd.c (AV.int (IntKind.i64) 1)), grd := none }, { dst := some 44, op := AOp.mv (Opd.t 1), grd := none }, { dst := some 45, op := AOp.mv (Opd.t 0), grd := none }, { dst := some 46, op := AOp.mv (Opd.t 1), grd := none }, { dst := some 47, op := AOp.bin (BinOp.add) (Opd.t 46) (Opd.c (AV.int (IntKind.i64) 1)), grd := none }] [({ dst := some 42, op := AOp.call (Opd.c (AV.fn (AFn.func 31) [] [])) [Opd.t 39, Opd.t 41], grd := none }, [], [{ dst := some 43, op := AOp.sls (Opd.t 36) (some (Opd.t 38)) (some (Opd.t 42)), grd := none }]), ({ dst := some 48, op := AOp.call (Opd.c (AV.fn (AFn.func 31) [] [])) [Opd.t 45, Opd.t 47], grd := none }, [], [{ dst := some 49, op := AOp.build [AV.int (IntKind.i64) 0, AV.str [], AV.int (IntKind.i64) 0, AV.int (IntKind.i64) 0] [(0, 1, Opd.c (AV.int (IntKind.i64) 1)), (1, 1, Opd.t 43), (2, 1, Opd.t 44), (3, 1, Opd.t 48)], grd := none }]), ({ dst := none, op := AOp.store 4 (Opd.t 4) (Opd.t 49), grd := none }, [], [])]
def c24_16 : ACode := .seq c24_17 c24_18
def c24_15 : ACode := .cond (.t 35) c24_16 c24_19
def c24_14 : ACode := .reg [{ dst := some 25, op := AOp.mv (Opd.t 5), grd := none }, { dst := some 26, op := AOp.bin (BinOp.eql) (Opd.t 25) (Opd.c (AV.int (IntKind.u8) 36)), grd := none }, { dst := some 27, op := AOp.mv (Opd.t 26), grd := none }, { dst := some 28, op := AOp.mv (Opd.t 0), grd := some (27, true) }, { dst := some 29, op := AOp.mv (Opd.t 1), grd := some (27, true) }, { dst := some 30, op := AOp.bin (BinOp.add) (Opd.t 29) (Opd.c (AV.int (IntKind.i64) 1)), grd := some (27, true) }, { dst := some 31, op := AOp.call (Opd.c (AV.fn (AFn.func 31) [] [])) [Opd.t 28, Opd.t 30], grd := some (27, true) }, { dst := some 32, op := AOp.mv (Opd.t 1), grd := some (27, true) }, { dst := some 33, op := AOp.bin (BinOp.add) (Opd.t 32) (Opd.c (AV.int (IntKind.i64) 1)), grd := some (27, true) }, { dst := some 34, op := AOp.bin (BinOp.gtr) (Opd.t 31) (Opd.t 33), grd := some (27, true) }, { dst := some 35, op := AOp.pick (Opd.t 27) (Opd.t 34) (Opd.c (AV.bool false)), grd := none }]
def c24_13 : ACode := .seq c24_14 c24_15
def c24_12 : ACode := .seq c24_13 c24_20
def c24_11 : ACode := .skip
def c24_10 : ACode := .ret
def c24_9 : ACode := .dreg [{ dst := some 14, op := AOp.mv (Opd.t 0), grd := none }, { dst := some 15, op := AOp.mv (Opd.t 1), grd := none }, { dst := some 16, op := AOp.mv (Opd.t 0), grd := none }, { dst := some 17, op := AOp.mv (Opd.t 1), grd := none }, { dst := some 20, op := AOp.mv (Opd.t 1), grd := none }, { dst := some 21, op := AOp.mv (Opd.t 0), grd := none }, { dst := some 22, op := AOp.mv (Opd.t 1), grd := none }] [({ dst := some 18, op := AOp.call (Opd.c (AV.fn (AFn.func 31) [] [])) [Opd.t 16, Opd.t 17], grd := none }, [], [{ dst := some 19, op := AOp.sls (Opd.t 14) (some (Opd.t 15)) (some (Opd.t 18)), grd := none }]), ({ dst := some 23, op := AOp.call (Opd.c (AV.fn (AFn.func 31) [] [])) [Opd.t 21, Opd.t 22], grd := none }, [], [{ dst := some 24, op := AOp.build [AV.int (IntKind.i64) 0, AV.str [], AV.int (IntKind.i64) 0, AV.int (IntKind.i64) 0] [(0, 1, Opd.c (AV.int (IntKind.i64) 0)), (1, 1, Opd.t 19), (2, 1, Opd.t 20), (3, 1, Opd.t 23)], grd := none }]), ({ dst := none, op := AOp.store 4 (Opd.t 4) (Opd.t 24), grd := none }, [], [])]
def c24_8 : ACode := .seq c24_9 c24_10
def c24_7 : ACode := .cond (.t 13) c24_8 c24_11
def c24_6 : ACode := .reg [{ dst := some 12, op := AOp.mv (Opd.t 5), grd := none }, { dst := some 13, op := AOp.call (Opd.c (AV.fn (AFn.func 30) [] [])) [Opd.t 12], grd := none }]
def c24_5 : ACode := .seq c24_6 c24_7
def c24_4 : ACode := .seq c24_5 c24_12
def c24_3 : ACode := .reg [{ dst := some 9, op := AOp.mv (Opd.t 0), grd := none }, { dst := some 10, op := AOp.mv (Opd.t 1), grd := none }, { dst := some 11, op := AOp.idxs (Opd.t 9) (Opd.t 10), grd := none }, { dst := some 5, op := AOp.mv (Opd.t 11), grd := none }]
def c24_2 : ACode := .seq c24_3 c24_4
def c24_1 : ACode := .reg [{ dst := some 4, op := AOp.alloc [AV.int (IntKind.i64) 0, AV.str [], AV.int (IntKind.i64) 0, AV.int (IntKind.i64) 0], grd := none }]
def c24_0 : ACode := .seq c24_1 c24_2
def A24 : AFun := { np := 2, res := [(4, some (true, 4))], body := c24_0 }

def c25_8 : ACode := .skip
def c25_7 : ACode := .refuse
def c25_6 : ACode := .cond (.t 19) c25_7 c25_8
def c25_5 : ACode := .reg [{ dst := some 14, op := AOp.mv (Opd.t 0), grd := none }, { dst := some 15, op := AOp.nilck (Opd.t 14), grd := none }, { dst := some 16, op := AOp.fadr 0 (Opd.t 15), grd := none }, { dst := some 17, op := AOp.load false 1 (Opd.t 16), grd := none }, { dst := some 18, op := AOp.mv (Opd.t 0), grd := none }, { dst := some 19, op := AOp.eq true (EqK.ptr) (Opd.t 17) (Opd.t 18), grd := none }]
def c25_4 : ACode := .seq c25_5 c25_6
def c25_3 : ACode := .reg [{ dst := some 7, op := AOp.mv (Opd.t 0), grd := none }, { dst := some 8, op := AOp.mv (Opd.t 0), grd := none }, { dst := some 9, op := AOp.uto (Opd.t 8), grd := none }, { dst := some 10, op := AOp.call (Opd.c (AV.fn (AFn.func 34) [] [])) [Opd.t 9], grd := none }, { dst := some 11, op := AOp.ufr 41 2 (Opd.t 10), grd := none }, { dst := some 12, op := AOp.nilck (Opd.t 7), grd := none }, { dst := some 13, op := AOp.fadr 0 (Opd.t 12), grd := none }, { dst := none, op := AOp.store 1 (Opd.t 13) (Opd.t 11), grd := none }]
def c25_2 : ACode := .cond (.t 6) c25_3 c25_4
def c25_1 : ACode := .reg [{ dst := some 2, op := AOp.mv (Opd.t 0), grd := none }, { dst := some 3, op := AOp.nilck (Opd.t 2), grd := none }, { dst := some 4, op := AOp.fadr 0 (Opd.t 3), grd := none }, { dst := some 5, op := AOp.load false 1 (Opd.t 4), grd := none }, { dst := some 6, op := AOp.eq false (EqK.ptr) (Opd.t 5) (Opd.c (AV.nilPtr)), grd := none }]
def c25_0 : ACode := .seq c25_1 c25_2
def A25 : AFun := { np := 1, res := [], body := c25_0 }

def c26_4 : ACode := .ret
def c26_3 : ACode := .reg [{ dst := some 5, op := AOp.mv (Opd.t 0), grd := none }, { dst := some 6, op := AOp.mv (Opd.t 1), grd := none }, { dst := some 7, op := AOp.call (Opd.c (AV.fn (AFn.func 35) [] [])) [Opd.t 5, Opd.t 6], grd := none }, { dst := some 4, op := AOp.mv (Opd.t 7), grd := none }]
def c26_2 : ACode := .seq c26_3 c26_4
def c26_1 : ACode := .reg [{ dst := some 4, op := AOp.mv (Opd.c (AV.int (IntKind.i64) 0)), grd := none }]
def c26_0 : ACode := .seq c26_1 c26_2
def A26 : AFun := { np := 2, res := [(4, none)], body := c26_0 }

def c27_29 : ACode := .skip
def c27_28 : ACode := .ret
def c27_27 : ACode := .cond (.t 50) c27_28 c27_29
def c27_26 : ACode := .reg [{ dst := some 47, op := AOp.mv (Opd.t 0), grd := none }, { dst := some 48, op := AOp.load true 4 (Opd.t 3), grd := none }, { dst := some 49, op := AOp.call (Opd.t 47) [Opd.t 48], grd := none }, { dst := some 50, op := AOp.not (Opd.t 49), grd := none }]
def c27_25 : ACode := .seq c27_26 c27_27
def c27_24 : ACode := .reg [{ dst := some 39, op := AOp.load false 1 (Opd.t 1), grd := none }, { dst := some 40, op := AOp.nilck (Opd.t 39), grd := none }, { dst := some 41, op := AOp.fadr 1 (Opd.t 40), grd := none }, { dst := some 42, op := AOp.load false 1 (Opd.t 41), grd := none }, { dst := some 43, op := AOp.mv (Opd.t 4), grd := none }, { dst := some 44, op := AOp.bin (BinOp.add) (Opd.t 42) (Opd.t 43), grd := none }, { dst := some 45, op := AOp.nilck (Opd.t 39), grd := none }, { dst := some 46, op := AOp.fadr 1 (Opd.t 45), grd := none }, { dst := none, op := AOp.store 1 (Opd.t 46) (Opd.t 44), grd := none }]
def c27_23 : ACode := .seq c27_24 c27_25
def c27_22 : ACode := .dreg [{ dst := some 27, op := AOp.load false 1 (Opd.t 1), grd := none }, { dst := some 28, op := AOp.nilck (Opd.t 27), grd := none }, { dst := some 29, op := AOp.fadr 1 (Opd.t 28), grd := none }, { dst := some 30, op := AOp.load false 1 (Opd.t 29), grd := none }, { dst := some 31, op := AOp.load false 1 (Opd.t 1), grd := none }, { dst := some 32, op := AOp.nilck (Opd.t 31), grd := none }, { dst := some 33, op := AOp.fadr 1 (Opd.t 32), grd := none }, { dst := some 34, op := AOp.load false 1 (Opd.t 33), grd := none }, { dst := some 35, op := AOp.mv (Opd.t 4), grd := none }, { dst := some 36, op := AOp.bin (BinOp.add) (Opd.t 34) (Opd.t 35), grd := none }, { dst := some 37, op := AOp.fadr 2 (Opd.t 3), grd := none }] [({ dst := none, op := AOp.store 1 (Opd.t 37) (Opd.t 30), grd := none }, [{ dst := some 31, op := AOp.load false 1 (Opd.t 1), grd := none }, { dst := some 34, op := AOp.load false 1 (Opd.t 33), grd := none }], [{ dst := some 38, op := AOp.fadr 3 (Opd.t 3), grd := none }]), ({ dst := none, op := AOp.store 1 (Opd.t 38) (Opd.t 36), grd := none }, [], [])]
def c27_21 : ACode := .seq c27_22 c27_23
def c27_20 : ACode := .skip
def c27_19 : ACode := .ret
def c27_18 : ACode := .reg [{ dst := some 24, op := AOp.load false 1 (Opd.t 1), grd := none }, { dst := some 25, op := AOp.nilck (Opd.t 24), grd := none }, { dst := some 26, op := AOp.fadr 2 (Opd.t 25), grd := none }, { dst := none, op := AOp.store 1 (Opd.t 26) (Opd.c (AV.bool true)), grd := none }]
def c27_17 : ACode := .seq c27_18 c27_19
def c27_16 : ACode := .cond (.t 23) c27_17 c27_20
def c27_15 : ACode := .reg [{ dst := some 22, op := AOp.mv (Opd.t 4), grd := none }, { dst := some 23, op := AOp.bin (BinOp.eql) (Opd.t 22) (Opd.c (AV.int (IntKind.i64) 0)), grd := none }]
def c27_14 : ACode := .seq c27_15 c27_16
def c27_13 : ACode := .seq c27_14 c27_21
def c27_12 : ACode := .reg [{ dst := some 18, op := AOp.load false 1 (Opd.t 1), grd := none }, { dst := some 19, op := AOp.call (Opd.c (AV.fn (AFn.func 29) [] [])) [Opd.t 18], grd := none }, { dst := some 17, op := AOp.mv (Opd.t 19), grd := none }, { dst := some 20, op := AOp.ext (Opd.t 17) 0, grd := none }, { dst := some 21, op := AOp.ext (Opd.t 17) 1, grd := none }, { dst := some 3, op := AOp.alloc [AV.int (IntKind.i64) 0, AV.str [], AV.int (IntKind.i64) 0, AV.int (IntKind.i64) 0], grd := none }, { dst := none, op := AOp.store 4 (Opd.t 3) (Opd.t 20), grd := none }, { dst := some 4, op := AOp.mv (Opd.t 21), grd := none }]
def c27_11 : ACode := .seq c27_12 c27_13
def c27_10 : ACode := .skip
def c27_9 : ACode := .ret
def c27_8 : ACode := .cond (.t 16) c27_9 c27_10
def c27_7 : ACode := .dreg [{ dst := some 7, op := AOp.load false 1 (Opd.t 1), grd := none }, { dst := some 8, op := AOp.nilck (Opd.t 7), grd := none }, { dst := some 9, op := AOp.fadr 1 (Opd.t 8), grd := none }, { dst := some 10, op := AOp.load false 1 (Opd.t 9), grd := none }, { dst := some 11, op := AOp.load false 1 (Opd.t 1), grd := none }, { dst := some 12, op := AOp.nilck (Opd.t 11), grd := none }, { dst := some 13, op := AOp.fadr 0 (Opd.t 12), grd := none }, { dst := some 14, op := AOp.load false 1 (Opd.t 13), grd := none }, { dst := some 15, op := AOp.len 0 (Opd.t 14), grd := none }, { dst := some 16, op := AOp.bin (BinOp.geq) (Opd.t 10) (Opd.t 15), grd := none }] []
def c27_6 : ACode := .seq c27_7 c27_8
def c27_5 : ACode := .seq c27_6 c27_11
def c27_4 : ACode := .reg [{ dst := some 5, op := AOp.load false 1 (Opd.t 1), grd := none }, { dst := some 6, op := AOp.call (Opd.c (AV.fn (AFn.func 28) [] [])) [Opd.t 5], grd := none }]
def c27_3 : ACode := .seq c27_4 c27_5
def c27_2 : ACode := .block 1 c27_3
def c27_1 : ACode := .loop c27_2
def c27_0 : ACode := .block 0 c27_1
def A27 : AFun := { np := 2, res := [], body := c27_0 }

def c28_52 : ACode := .skip
def c28_51 : ACode := .goto 0
def c28_50 : ACode := .reg [{ dst := some 58, op := AOp.mv (Opd.t 0), grd := none }, { dst := some 59, op := AOp.nilck (Opd.t 58), grd := none }, { dst := some 60, op := AOp.fadr 1 (Opd.t 59), grd := none }, { dst := some 61, op := AOp.load false 1 (Opd.t 60), grd := none }, { dst := some 62, op := AOp.mv (Opd.t 3), grd := none }, { dst := some 63, op := AOp.bin (BinOp.add) (Opd.t 61) (Opd.t 62), grd := none }, { dst := some 64, op := AOp.nilck (Opd.t 58), grd := none }, { dst := some 65, op := AOp.fadr 1 (Opd.t 64), grd := none }, { dst := none, op := AOp.store 1 (Opd.t 65) (Opd.t 63), grd := none }]
def c28_49 : ACode := .seq c28_50 c28_51
def c28_48 : ACode := .skip
def c28_47 : ACode := .dreg [{ dst := some 48, op := AOp.mv (Opd.t 0), grd := none }, { dst := some 49, op := AOp.nilck (Opd.t 48), grd := none }, { dst := some 50, op := AOp.fadr 0 (Opd.t 49), grd := none }, { dst := some 51, op := AOp.load false 1 (Opd.t 50), grd := none }, { dst := some 52, op := AOp.len 0 (Opd.t 51), grd := none }, { dst := some 53, op := AOp.mv (Opd.t 0), grd := none }, { dst := some 54, op := AOp.nilck (Opd.t 53), grd := none }, { dst := some 55, op := AOp.fadr 1 (Opd.t 54), grd := none }, { dst := some 56, op := AOp.load false 1 (Opd.t 55), grd := none }, { dst := some 57, op := AOp.bin (BinOp.sub) (Opd.t 52) (Opd.t 56), grd := none }, { dst := some 3, op := AOp.mv (Opd.t 57), grd := none }] []
def c28_46 : ACode := .cond (.t 47) c28_47 c28_48
def c28_45 : ACode := .reg [{ dst := some 46, op := AOp.mv (Opd.t 3), grd := none }, { dst := some 47, op := AOp.bin (BinOp.lss) (Opd.t 46) (Opd.c (AV.int (IntKind.i64) 0)), grd := none }]
def c28_44 : ACode := .seq c28_45 c28_46
def c28_43 : ACode := .seq c28_44 c28_49
def c28_42 : ACode := .dreg [{ dst := some 36, op := AOp.mv (Opd.t 0), grd := none }, { dst := some 37, op := AOp.nilck (Opd.t 36), grd := none }, { dst := some 38, op := AOp.fadr 0 (Opd.t 37), grd := none }, { dst := some 39, op := AOp.load false 1 (Opd.t 38), grd := none }, { dst := some 40, op := AOp.mv (Opd.t 0), grd := none }, { dst := some 41, op := AOp.nilck (Opd.t 40), grd := none }, { dst := some 42, op := AOp.fadr 1 (Opd.t 41), grd := none }, { dst := some 43, op := AOp.load false 1 (Opd.t 42), grd := none }, { dst := some 44, op := AOp.sls (Opd.t 39) (some (Opd.t 43)) none, grd := none }] [({ dst := some 45, op := AOp.call (Opd.c (AV.fn (AFn.func 20) [] [])) [Opd.t 44, Opd.c (AV.int (IntKind.u8) 10)], grd := none }, [], [{ dst := some 3, op := AOp.mv (Opd.t 45), grd := none }])]
def c28_41 : ACode := .seq c28_42 c28_43
def c28_40 : ACode := .cond (.t 28) c28_41 c28_52
def c28_39 : ACode := .reg [{ dst := some 29, op := AOp.mv (Opd.t 2), grd := none }, { dst := some 30, op := AOp.bin (BinOp.eql) (Opd.t 29) (Opd.c (AV.int (IntKind.u8) 47)), grd := none }, { dst := some 31, op := AOp.mv (Opd.t 30), grd := none }, { dst := some 32, op := AOp.mv (Opd.t 0), grd := some (31, true) }, { dst := some 33, op := AOp.call (Opd.c (AV.fn (AFn.func 36) [] [])) [Opd.t 32, Opd.c (AV.int (IntKind.i64) 1)], grd := some (31, true) }, { dst := some 34, op := AOp.bin (BinOp.eql) (Opd.t 33) (Opd.c (AV.int (IntKind.u8) 47)), grd := some (31, true) }, { dst := some 35, op := AOp.pick (Opd.t 31) (Opd.t 34) (Opd.c (AV.bool false)), grd := none }, { dst := some 28, op := AOp.mv (Opd.t 35), grd := none }]
def c28_38 : ACode := .seq c28_39 c28_40
def c28_37 : ACode := .goto 0
def c28_36 : ACode := .reg [{ dst := some 21, op := AOp.mv (Opd.t 0), grd := none }, { dst := some 22, op := AOp.nilck (Opd.t 21), grd := none }, { dst := some 23, op := AOp.fadr 1 (Opd.t 22), grd := none }, { dst := some 24, op := AOp.load false 1 (Opd.t 23), grd := none }, { dst := some 25, op := AOp.bin (BinOp.add) (Opd.t 24) (Opd.c (AV.int (IntKind.i64) 1)), grd := none }, { dst := some 26, op := AOp.nilck (Opd.t 21), grd := none }, { dst := some 27, op := AOp.fadr 1 (Opd.t 26), grd := none }, { dst := none, op := AOp.store 1 (Opd.t 27) (Opd.t 25), grd := none }]
def c28_35 : ACode := .seq c28_36 c28_37
def c28_34 : ACode := .cond (.t 6) c28_35 c28_38
def c28_33 : ACode := .reg [{ dst := some 7, op := AOp.mv (Opd.t 2), grd := none }, { dst := some 8, op := AOp.bin (BinOp.eql) (Opd.t 7) (Opd.c (AV.int (IntKind.u8) 32)), grd := none }, { dst := some 9, op := AOp.mv (Opd.t 8), grd := none }, { dst := some 10, op := AOp.mv (Opd.t 2), grd := some (9, false) }, { dst := some 11, op := AOp.bin (BinOp.eql) (Opd.t 10) (Opd.c (AV.int (IntKind.u8) 9)), grd := some (9, false) }, { dst := some 12, op := AOp.pick (Opd.t 9) (Opd.c (AV.bool true)) (Opd.t 11), grd := none }, { dst := some 13, op := AOp.mv (Opd.t 12), grd := none }, { dst := some 14, op := AOp.mv (Opd.t 2), grd := some (13, false) }, { dst := some 15, op := AOp.bin (BinOp.eql) (Opd.t 14) (Opd.c (AV.int (IntKind.u8) 13)), grd := some (13, false) }, { dst := some 16, op := AOp.pick (Opd.t 13) (Opd.c (AV.bool true)) (Opd.t 15), grd := none }, { dst := some 17, op := AOp.mv (Opd.t 16), grd := none }, { dst := some 18, op := AOp.mv (Opd.t 2), grd := some (17, false) }, { dst := some 19, op := AOp.bin (BinOp.eql) (Opd.t 18) (Opd.c (AV.int (IntKind.u8) 10)), grd := some (17, false) }, { dst := some 20, op := AOp.pick (Opd.t 17) (Opd.c (AV.bool true)) (Opd.t 19), grd := none }, { dst := some 6, op := AOp.mv (Opd.t 20), grd := none }]
def c28_32 : ACode := .seq c28_33 c28_34
def c28_31 : ACode := .block 0 c28_32
def c28_30 : ACode := .reg [{ dst := some 4, op := AOp.mv (Opd.t 0), grd := none }, { dst := some 5, op := AOp.call (Opd.c (AV.fn (AFn.func 36) [] [])) [Opd.t 4, Opd.c (AV.int (IntKind.i64) 0)], grd := none }, { dst := some 2, op := AOp.mv (Opd.t 5), grd := none }]
def c28_29 : ACode := .seq c28_30 c28_31
def c28_28 : ACode := .skip
def c28_27 : ACode := .seq c28_28 c28_29
def c28_26 : ACode := .skip
def c28_25 : ACode := .goto 0
def c28_24 : ACode := .reg [{ dst := some 58, op := AOp.mv (Opd.t 0), grd := none }, { dst := some 59, op := AOp.nilck (Opd.t 58), grd := none }, { dst := some 60, op := AOp.fadr 1 (Opd.t 59), grd := none }, { dst := some 61, op := AOp.load false 1 (Opd.t 60), grd := none }, { dst := some 62, op := AOp.mv (Opd.t 3), grd := none }, { dst := some 63, op := AOp.bin (BinOp.add) (Opd.t 61) (Opd.t 62), grd := none }, { dst := some 64, op := AOp.nilck (Opd.t 58), grd := none }, { dst := some 65, op := AOp.fadr 1 (Opd.t 64), grd := none }, { dst := none, op := AOp.store 1 (Opd.t 65) (Opd.t 63), grd := none }]
def c28_23 : ACode := .seq c28_24 c28_25
def c28_22 : ACode := .skip
def c28_21 : ACode := .dreg [{ dst := some 48, op := AOp.mv (Opd.t 0), grd := none }, { dst := some 49, op := AOp.nilck (Opd.t 48), grd := none }, { dst := some 50, op := AOp.fadr 0 (Opd.t 49), grd := none }, { dst := some 51, op := AOp.load false 1 (Opd.t 50), grd := none }, { dst := some 52, op := AOp.len 0 (Opd.t 51), grd := none }, { dst := some 53, op := AOp.mv (Opd.t 0), grd := none }, { dst := some 54, op := AOp.nilck (Opd.t 53), grd := none }, { dst := some 55, op := AOp.fadr 1 (Opd.t 54), grd := none }, { dst := some 56, op := AOp.load false 1 (Opd.t 55), grd := none }, { dst := some 57, op := AOp.bin (BinOp.sub) (Opd.t 52) (Opd.t 56), grd := none }, { dst := some 3, op := AOp.mv (Opd.t 57), grd := none }] []
def c28_20 : ACode := .cond (.t 47) c28_21 c28_22
def c28_19 : ACode := .reg [{ dst := some 46, op := AOp.mv (Opd.t 3), grd := none }, { dst := some 47, op := AOp.bin (BinOp.lss) (Opd.t 46) (Opd.c (AV.int (IntKind.i64) 0)), grd := none }]
def c28_18 : ACode := .seq c28_19 c28_20
def c28_17 : ACode := .seq c28_18 c28_23
def c28_16 : ACode := .dreg [{ dst := some 36, op := AOp.mv (Opd.t 0), grd := none }, { dst := some 37, op := AOp.nilck (Opd.t 36), grd := none }, { dst := some 38, op := AOp.fadr 0 (Opd.t 37), grd := none }, { dst := some 39, op := AOp.load false 1 (Opd.t 38), grd := none }, { dst := some 40, op := AOp.mv (Opd.t 0), grd := none }, { dst := some 41, op := AOp.nilck (Opd.t 40), grd := none }, { dst := some 42, op := AOp.fadr 1 (Opd.t 41), grd := none }, { dst := some 43, op := AOp.load false 1 (Opd.t 42), grd := none }, { dst := some 44, op := AOp.sls (Opd.t 39) (some (Opd.t 43)) none, grd := none }] [({ dst := some 45, op := AOp.call (Opd.c (AV.fn (AFn.func 20) [] [])) [Opd.t 44, Opd.c (AV.int (IntKind.u8) 10)], grd := none }, [], [{ dst := some 3, op := AOp.mv (Opd.t 45), grd := none }])]
def c28_15 : ACode := .seq c28_16 c28_17
def c28_14 : ACode := .cond (.t 28) c28_15 c28_26
def c28_13 : ACode := .reg [{ dst := some 29, op := AOp.mv (Opd.t 2), grd := none }, { dst := some 30, op := AOp.bin (BinOp.eql) (Opd.t 29) (Opd.c (AV.int (IntKind.u8) 47)), grd := none }, { dst := some 31, op := AOp.mv (Opd.t 30), grd := none }, { dst := some 32, op := AOp.mv (Opd.t 0), grd := some (31, true) }, { dst := some 33, op := AOp.call (Opd.c (AV.fn (AFn.func 36) [] [])) [Opd.t 32, Opd.c (AV.int (IntKind.i64) 1)], grd := some (31, true) }, { dst := some 34, op := AOp.bin (BinOp.eql) (Opd.t 33) (Opd.c (AV.int (IntKind.u8) 47)), grd := some (31, true) }, { dst := some 35, op := AOp.pick (Opd.t 31) (Opd.t 34) (Opd.c (AV.bool false)), grd := none }, { dst := some 28, op := AOp.mv (Opd.t 35), grd := none }]
def c28_12 : ACode := .seq c28_13 c28_14
def c28_11 : ACode := .goto 0
def c28_10 : ACode := .reg [{ dst := some 21, op := AOp.mv (Opd.t 0), grd := none }, { dst := some 22, op := AOp.nilck (Opd.t 21), grd := none }, { dst := some 23, op := AOp.fadr 1 (Opd.t 22), grd := none }, { dst := some 24, op := AOp.load false 1 (Opd.t 23), grd := none }, { dst := some 25, op := AOp.bin (BinOp.add) (Opd.t 24) (Opd.c (AV.int (IntKind.i64) 1)), grd := none }, { dst := some 26, op := AOp.nilck (Opd.t 21), grd := none }, { dst := some 27, op := AOp.fadr 1 (Opd.t 26), grd := none }, { dst := none, op := AOp.store 1 (Opd.t 27) (Opd.t 25), grd := none }]
def c28_9 : ACode := .seq c28_10 c28_11
def c28_8 : ACode := .cond (.t 6) c28_9 c28_12
def c28_7 : ACode := .reg [{ dst := some 7, op := AOp.mv (Opd.t 2), grd := none }, { dst := some 8, op := AOp.bin (BinOp.eql) (Opd.t 7) (Opd.c (AV.int (IntKind.u8) 32)), grd := none }, { dst := some 9, op := AOp.mv (Opd.t 8), grd := none }, { dst := some 10, op := AOp.mv (Opd.t 2), grd := some (9, false) }, { dst := some 11, op := AOp.bin (BinOp.eql) (Opd.t 10) (Opd.c (AV.int (IntKind.u8) 9)), grd := some (9, false) }, { dst := some 12, op := AOp.pick (Opd.t 9) (Opd.c (AV.bool true)) (Opd.t 11), grd := none }, { dst := some 13, op := AOp.mv (Opd.t 12), grd := none }, { dst := some 14, op := AOp.mv (Opd.t 2), grd := some (13, false) }, { dst := some 15, op := AOp.bin (BinOp.eql) (Opd.t 14) (Opd.c (AV.int (IntKind.u8) 13)), grd := some (13, false) }, { dst := some 16, op := AOp.pick (Opd.t 13) (Opd.c (AV.bool true)) (Opd.t 15), grd := none }, { dst := some 17, op := AOp.mv (Opd.t 16), grd := none }, { dst := some 18, op := AOp.mv (Opd.t 2), grd := some (17, false) }, { dst := some 19, op := AOp.bin (BinOp.eql) (Opd.t 18) (Opd.c (AV.int (IntKind.u8) 10)), grd := some (17, false) }, { dst := some 20, op := AOp.pick (Opd.t 17) (Opd.c (AV.bool true)) (Opd.t 19), grd := none }, { dst := some 6, op := AOp.mv (Opd.t 20), grd := none }]
def c28_6 : ACode := .seq c28_7 c28_8
def c28_5 : ACode := .block 0 c28_6
def c28_4 : ACode := .reg [{ dst := some 4, op := AOp.mv (Opd.t 0), grd := none }, { dst := some 5, op := AOp.call (Opd.c (AV.fn (AFn.func 36) [] [])) [Opd.t 4, Opd.c (AV.int (IntKind.i64) 0)], grd := none }, { dst := some 2, op := AOp.mv (Opd.t 5), grd := none }]
def c28_3 : ACode := .seq c28_4 c28_5
def c28_2 : ACode := .label 0
def c28_1 : ACode := .seq c28_2 c28_3
def c28_0 : ACode := .scope c28_1 0 c28_27
def A28 : AFun := { np := 1, res := [], body := c28_0 }

def c29_53 : ACode := .ret
def c29_52 : ACode := .reg [{ dst := some 58, op := AOp.mv (Opd.t 4), grd := none }, { dst := some 59, op := AOp.mv (Opd.t 3), grd := none }, { dst := some 60, op := AOp.call (Opd.t 58) [Opd.c (AV.int (IntKind.i64) 0), Opd.t 59], grd := none }, { dst := some 61, op := AOp.build [AV.int (IntKind.i64) 0, AV.str [], AV.int (IntKind.i64) 0, AV.int (IntKind.i64) 0] [(0, 1, Opd.c (AV.int (IntKind.i64) 4)), (1, 1, Opd.t 60)], grd := none }, { dst := some 62, op := AOp.mv (Opd.t 3), grd := none }, { dst := none, op := AOp.store 4 (Opd.t 2) (Opd.t 61), grd := none }, { dst := some 3, op := AOp.mv (Opd.t 62), grd := none }]
def c29_51 : ACode := .seq c29_52 c29_53
def c29_50 : ACode := .reg [{ dst := some 56, op := AOp.load false 1 (Opd.t 1), grd := none }, { dst := some 57, op := AOp.call (Opd.c (AV.fn (AFn.func 43) [] [])) [Opd.t 56], grd := none }, { dst := some 3, op := AOp.mv (Opd.t 57), grd := none }]
def c29_49 : ACode := .seq c29_50 c29_51
def c29_48 : ACode := .skip
def c29_47 : ACode := .ret
def c29_46 : ACode := .reg [{ dst := some 53, op := AOp.mv (Opd.t 6), grd := none }, { dst := some 54, op := AOp.build [AV.int (IntKind.i64) 0, AV.str [], AV.int (IntKind.i64) 0, AV.int (IntKind.i64) 0] [(0, 1, Opd.c (AV.int (IntKind.i64) 3)), (1, 1, Opd.t 53)], grd := none }, { dst := some 55, op := AOp.mv (Opd.t 7), grd := none }, { dst := none, op := AOp.store 4 (Opd.t 2) (Opd.t 54), grd := none }, { dst := some 3, op := AOp.mv (Opd.t 55), grd := none }]
def c29_45 : ACode := .seq c29_46 c29_47
def c29_44 : ACode := .reg [{ dst := some 49, op := AOp.load false 1 (Opd.t 1), grd := none }, { dst := some 50, op := AOp.call (Opd.c (AV.fn (AFn.func 42) [] [])) [Opd.t 49], grd := none }, { dst := some 48, op := AOp.mv (Opd.t 50), grd := none }, { dst := some 51, op := AOp.ext (Opd.t 48) 0, grd := none }, { dst := some 52, op := AOp.ext (Opd.t 48) 1, grd := none }, { dst := some 6, op := AOp.mv (Opd.t 51), grd := none }, { dst := some 7, op := AOp.mv (Opd.t 52), grd := none }]
def c29_43 : ACode := .seq c29_44 c29_45
def c29_42 : ACode := .cond (.t 45) c29_43 c29_48
def c29_41 : ACode := .reg [{ dst := some 46, op := AOp.mv (Opd.t 5), grd := none }, { dst := some 47, op := AOp.bin (BinOp.eql) (Opd.t 46) (Opd.c (AV.int (IntKind.u8) 34)), grd := none }, { dst := some 45, op := AOp.mv (Opd.t 47), grd := none }]
def c29_40 : ACode := .seq c29_41 c29_42
def c29_39 : ACode := .ret
def c29_38 : ACode := .reg [{ dst := some 40, op := AOp.mv (Opd.t 4), grd := none }, { dst := some 41, op := AOp.mv (Opd.t 3), grd := none }, { dst := some 42, op := AOp.call (Opd.t 40) [Opd.c (AV.int (IntKind.i64) 0), Opd.t 41], grd := none }, { dst := some 43, op := AOp.build [AV.int (IntKind.i64) 0, AV.str [], AV.int (IntKind.i64) 0, AV.int (IntKind.i64) 0] [(0, 1, Opd.c (AV.int (IntKind.i64) 2)), (1, 1, Opd.t 42)], grd := none }, { dst := some 44, op := AOp.mv (Opd.t 3), grd := none }, { dst := none, op := AOp.store 4 (Opd.t 2) (Opd.t 43), grd := none }, { dst := some 3, op := AOp.mv (Opd.t 44), grd := none }]
def c29_37 : ACode := .seq c29_38 c29_39
def c29_36 : ACode := .reg [{ dst := some 38, op := AOp.load false 1 (Opd.t 1), grd := none }, { dst := some 39, op := AOp.call (Opd.c (AV.fn (AFn.func 41) [] [])) [Opd.t 38, Opd.c (AV.int (IntKind.i64) 0), Opd.c (AV.fn (AFn.func 40) [] [])], grd := none }, { dst := some 3, op := AOp.mv (Opd.t 39), grd := none }]
def c29_35 : ACode := .seq c29_36 c29_37
def c29_34 : ACode := .cond (.t 35) c29_35 c29_40
def c29_33 : ACode := .reg [{ dst := some 36, op := AOp.mv (Opd.t 5), grd := none }, { dst := some 37, op := AOp.call (Opd.c (AV.fn (AFn.func 40) [] [])) [Opd.t 36], grd := none }, { dst := some 35, op := AOp.mv (Opd.t 37), grd := none }]
def c29_32 : ACode := .seq c29_33 c29_34
def c29_31 : ACode := .ret
def c29_30 : ACode := .reg [{ dst := some 34, op := AOp.load true 4 (Opd.t 2), grd := none }, { dst := none, op := AOp.store 4 (Opd.t 2) (Opd.t 34), grd := none }, { dst := some 3, op := AOp.mv (Opd.c (AV.int (IntKind.i64) 0)), grd := none }]
def c29_29 : ACode := .seq c29_30 c29_31
def c29_28 : ACode := .skip
def c29_27 : ACode := .ret
def c29_26 : ACode := .reg [{ dst := some 28, op := AOp.mv (Opd.t 4), grd := none }, { dst := some 29, op := AOp.mv (Opd.t 3), grd := none }, { dst := some 30, op := AOp.call (Opd.t 28) [Opd.c (AV.int (IntKind.i64) 1), Opd.t 29], grd := none }, { dst := some 31, op := AOp.build [AV.int (IntKind.i64) 0, AV.str [], AV.int (IntKind.i64) 0, AV.int (IntKind.i64) 0] [(0, 1, Opd.c (AV.int (IntKind.i64) 1)), (1, 1, Opd.t 30)], grd := none }, { dst := some 32, op := AOp.mv (Opd.t 3), grd := none }, { dst := some 33, op := AOp.bin (BinOp.add) (Opd.t 32) (Opd.c (AV.int (IntKind.i64) 1)), grd := none }, { dst := none, op := AOp.store 4 (Opd.t 2) (Opd.t 31), grd := none }, { dst := some 3, op := AOp.mv (Opd.t 33), grd := none }]
def c29_25 : ACode := .seq c29_26 c29_27
def c29_24 : ACode := .cond (.t 27) c29_25 c29_28
def c29_23 : ACode := .reg [{ dst := some 26, op := AOp.mv (Opd.t 3), grd := none }, { dst := some 27, op := AOp.bin (BinOp.gtr) (Opd.t 26) (Opd.c (AV.int (IntKind.i64) 0)), grd := none }]
def c29_22 : ACode := .seq c29_23 c29_24
def c29_21 : ACode := .reg [{ dst := some 24, op := AOp.load false 1 (Opd.t 1), grd := none }, { dst := some 25, op := AOp.call (Opd.c (AV.fn (AFn.func 39) [] [])) [Opd.t 24, Opd.c (AV.int (IntKind.i64) 1)], grd := none }, { dst := some 3, op := AOp.mv (Opd.t 25), grd := none }]
def c29_20 : ACode := .seq c29_21 c29_22
def c29_19 : ACode := .seq c29_20 c29_29
def c29_18 : ACode := .cond (.t 21) c29_19 c29_32
def c29_17 : ACode := .reg [{ dst := some 22, op := AOp.mv (Opd.t 5), grd := none }, { dst := some 23, op := AOp.bin (BinOp.eql) (Opd.t 22) (Opd.c (AV.int (IntKind.u8) 36)), grd := none }, { dst := some 21, op := AOp.mv (Opd.t 23), grd := none }]
def c29_16 : ACode := .seq c29_17 c29_18
def c29_15 : ACode := .ret
def c29_14 : ACode := .reg [{ dst := some 16, op := AOp.mv (Opd.t 4), grd := none }, { dst := some 17, op := AOp.mv (Opd.t 3), grd := none }, { dst := some 18, op := AOp.call (Opd.t 16) [Opd.c (AV.int (IntKind.i64) 0), Opd.t 17], grd := none }, { dst := some 19, op := AOp.build [AV.int (IntKind.i64) 0, AV.str [], AV.int (IntKind.i64) 0, AV.int (IntKind.i64) 0] [(0, 1, Opd.c (AV.int (IntKind.i64) 0)), (1, 1, Opd.t 18)], grd := none }, { dst := some 20, op := AOp.mv (Opd.t 3), grd := none }, { dst := none, op := AOp.store 4 (Opd.t 2) (Opd.t 19), grd := none }, { dst := some 3, op := AOp.mv (Opd.t 20), grd := none }]
def c29_13 : ACode := .seq c29_14 c29_15
def c29_12 : ACode := .reg [{ dst := some 14, op := AOp.load false 1 (Opd.t 1), grd := none }, { dst := some 15, op := AOp.call (Opd.c (AV.fn (AFn.func 39) [] [])) [Opd.t 14, Opd.c (AV.int (IntKind.i64) 0)], grd := none }, { dst := some 3, op := AOp.mv (Opd.t 15), grd := none }]
def c29_11 : ACode := .seq c29_12 c29_13
def c29_10 : ACode := .cond (.t 11) c29_11 c29_16
def c29_9 : ACode := .reg [{ dst := some 12, op := AOp.mv (Opd.t 5), grd := none }, { dst := some 13, op := AOp.call (Opd.c (AV.fn (AFn.func 38) [] [])) [Opd.t 12], grd := none }, { dst := some 11, op := AOp.mv (Opd.t 13), grd := none }]
def c29_8 : ACode := .seq c29_9 c29_10
def c29_7 : ACode := .block 0 c29_8
def c29_6 : ACode := .reg [{ dst := some 9, op := AOp.load false 1 (Opd.t 1), grd := none }, { dst := some 10, op := AOp.call (Opd.c (AV.fn (AFn.func 36) [] [])) [Opd.t 9, Opd.c (AV.int (IntKind.i64) 0)], grd := none }, { dst := some 5, op := AOp.mv (Opd.t 10), grd := none }]
def c29_5 : ACode := .seq c29_6 c29_7
def c29_4 : ACode := .seq c29_5 c29_49
def c29_3 : ACode := .reg [{ dst := some 8, op := AOp.mkfn 37 [] [Opd.t 1], grd := none }, { dst := some 4, op := AOp.mv (Opd.t 8), grd := none }]
def c29_2 : ACode := .seq c29_3 c29_4
def c29_1 : ACode := .reg [{ dst := some 1, op := AOp.box 1 (Opd.t 0), grd := none }, { dst := some 2, op := AOp.alloc [AV.int (IntKind.i64) 0, AV.str [], AV.int (IntKind.i64) 0, AV.int (IntKind.i64) 0], grd := none }, { dst := some 3, op := AOp.mv (Opd.c (AV.int (IntKind.i64) 0)), grd := none }]
def c29_0 : ACode := .seq c29_1 c29_2
def A29 : AFun := { np := 1, res := [(2, some (true, 4)), (3, none)], body := c29_0 }

def c30_4 : ACode := .ret
def c30_3 : ACode := .reg [{ dst := some 3, op := AOp.mv (Opd.t 0), grd := none }, { dst := some 4, op := AOp.bin (BinOp.geq) (Opd.t 3) (Opd.c (AV.int (IntKind.u8) 97)), grd := none }, { dst := some 5, op := AOp.mv (Opd.t 4), grd := none }, { dst := some 6, op := AOp.mv (Opd.t 0), grd := some (5, true) }, { dst := some 7, op := AOp.bin (BinOp.leq) (Opd.t 6) (Opd.c (AV.int (IntKind.u8) 122)), grd := some (5, true) }, { dst := some 8, op := AOp.pick (Opd.t 5) (Opd.t 7) (Opd.c (AV.bool false)), grd := none }, { dst := some 9, op := AOp.mv (Opd.t 8), grd := none }, { dst := some 10, op := AOp.mv (Opd.t 0), grd := some (9, false) }, { dst := some 11, op := AOp.bin (BinOp.geq) (Opd.t 10) (Opd.c (AV.int (IntKind.u8) 65)), grd := some (9, false) }, { dst := some 12, op := AOp.mv (Opd.t 11), grd := some (9, false) }, { dst := some 13, op := AOp.mv (Opd.t 0), grd := some (12, true) }, { dst := some 14, op := AOp.bin (BinOp.leq) (Opd.t 13) (Opd.c (AV.int (IntKind.u8) 90)), grd := some (12, true) }, { dst := some 15, op := AOp.pick (Opd.t 12) (Opd.t 14) (Opd.c (AV.bool false)), grd := some (9, false) }, { dst := some 16, op := AOp.pick (Opd.t 9) (Opd.c (AV.bool true)) (Opd.t 15), grd := none }, { dst := some 2, op := AOp.mv (Opd.t 16), grd := none }]
def c30_2 : ACode := .seq c30_3 c30_4
def c30_1 : ACode := .reg [{ dst := some 2, op := AOp.mv (Opd.c (AV.bool false)), grd := none }]
def c30_0 : ACode := .seq c30_1 c30_2
def A30 : AFun := { np := 1, res := [(2, none)], body := c30_0 }

def c31_23 : ACode := .ret
def c31_22 : ACode := .reg [{ dst := some 41, op := AOp.mv (Opd.t 1), grd := none }, { dst := some 4, op := AOp.mv (Opd.t 41), grd := none }]
def c31_21 : ACode := .seq c31_22 c31_23
def c31_20 : ACode := .reg [{ dst := some 39, op := AOp.mv (Opd.t 1), grd := none }, { dst := some 40, op := AOp.bin (BinOp.add) (Opd.t 39) (Opd.c (AV.int (IntKind.i64) 1)), grd := none }, { dst := some 1, op := AOp.mv (Opd.t 40), grd := none }]
def c31_19 : ACode := .block 1 c31_20
def c31_18 : ACode := .exit 0
def c31_17 : ACode := .skip
def c31_16 : ACode := .cond (.t 38) c31_17 c31_18
set_option maxRecDepth 100000 in
def c31_15 : ACode := .reg [{ dst := some 17, op := AOp.mv (Opd.t 1), grd := none }, { dst := some 18, op := AOp.mv (Opd.t 0), grd := none }, { dst := some 19, op := AOp.len 0 (Opd.t 18), grd := none }, { dst := some 20, op := AOp.bin (BinOp.lss) (Opd.t 17) (Opd.t 19), grd := none }, { dst := some 21, op := AOp.mv (Opd.t 20), grd := none }, { dst := some 22, op := AOp.mv (Opd.t 0), grd := some (21, true) }, { dst := some 23, op := AOp.mv (Opd.t 1), grd := some (21, true) }, { dst := some 24, op := AOp.idxs (Opd.t 22) (Opd.t 23), grd := some (21, true) }, { dst := some 25, op := AOp.call (Opd.c (AV.fn (AFn.func 30) [] [])) [Opd.t 24], grd := some (21, true) }, { dst := some 26, op := AOp.mv (Opd.t 25), grd := some (21, true) }, { dst := some 27, op := AOp.mv (Opd.t 0), grd := some (26, false) }, { dst := some 28, op := AOp.mv (Opd.t 1), grd := some (26, false) }, { dst := some 29, op := AOp.idxs (Opd.t 27) (Opd.t 28), grd := some (26, false) }, { dst := some 30, op := AOp.call (Opd.c (AV.fn (AFn.func 32) [] [])) [Opd.t 29], grd := some (26, false) }, { dst := some 31, op := AOp.pick (Opd.t 26) (Opd.c (AV.bool true)) (Opd.t 30), grd := some (21, true) }, { dst := some 32, op := AOp.mv (Opd.t 31), grd := some (21, true) }, { dst := some 33, op := AOp.mv (Opd.t 0), grd := some (32, false) }, { dst := some 34, op := AOp.mv (Opd.t 1), grd := some (32, false) }, { dst := some 35, op := AOp.idxs (Opd.t 33) (Opd.t 34), grd := some (32, false) }, { dst := some 36, op := AOp.bin (BinOp.eql) (Opd.t 35) (Opd.c (AV.int (IntKind.u8) 95)), grd := some (32, false) }, { dst := some 37, op := AOp.pick (Opd.t 32) (Opd.c (AV.bool true)) (Opd.t 36), grd := some (21, true) }, { dst := some 38, op := AOp.pick (Opd.t 21) (Opd.t 37) (Opd.c (AV.bool false)), grd := none }]
def c31_14 : ACode := .seq c31_15 c31_16
def c31_13 : ACode := .seq c31_14 c31_19
def c31_12 : ACode := .loop c31_13
def c31_11 : ACode := .block 0 c31_12
def c31_10 : ACode := .seq c31_11 c31_21
def c31_9 : ACode := .skip
def c31_8 : ACode := .ret
def c31_7 : ACode := .reg [{ dst := some 16, op := AOp.mv (Opd.t 1), grd := none }, { dst := some 4, op := AOp.mv (Opd.t 16), grd := none }]
def c31_6 : ACode := .seq c31_7 c31_8
def c31_5 : ACode := .cond (.t 15) c31_6 c31_9
def c31_4 : ACode := .reg [{ dst := some 5, op := AOp.mv (Opd.t 1), grd := none }, { dst := some 6, op := AOp.mv (Opd.t 0), grd := none }, { dst := some 7, op := AOp.len 0 (Opd.t 6), grd := none }, { dst := some 8, op := AOp.bin (BinOp.geq) (Opd.t 5) (Opd.t 7), grd := none }, { dst := some 9, op := AOp.mv (Opd.t 8), grd := none }, { dst := some 10, op := AOp.mv (Opd.t 0), grd := some (9, false) }, { dst := some 11, op := AOp.mv (Opd.t 1), grd := some (9, false) }, { dst := some 12, op := AOp.idxs (Opd.t 10) (Opd.t 11), grd := some (9, false) }, { dst := some 13, op := AOp.call (Opd.c (AV.fn (AFn.func 30) [] [])) [Opd.t 12], grd := some (9, false) }, { dst := some 14, op := AOp.not (Opd.t 13), grd := some (9, false) }, { dst := some 15, op := AOp.pick (Opd.t 9) (Opd.c (AV.bool true)) (Opd.t 14), grd := none }]
def c31_3 : ACode := .seq c31_4 c31_5
def c31_2 : ACode := .seq c31_3 c31_10
def c31_1 : ACode := .reg [{ dst := some 4, op := AOp.mv (Opd.c (AV.int (IntKind.i64) 0)), grd := none }]
def c31_0 : ACode := .seq c31_1 c31_2
def A31 : AFun := { np := 2, res := [(4, none)], body := c31_0 }

def c32_4 : ACode := .ret
def c32_3 : ACode := .reg [{ dst := some 3, op := AOp.mv (Opd.t 0), grd := none }, { dst := some 4, op := AOp.bin (BinOp.geq) (Opd.t 3) (Opd.c (AV.int (IntKind.u8) 48)), grd := none }, { dst := some 5, op := AOp.mv (Opd.t 4), grd := none }, { dst := some 6, op := AOp.mv (Opd.t 0), grd := some (5, true) }, { dst := some 7, op := AOp.bin (BinOp.leq) (Opd.t 6) (Opd.c (AV.int (IntKind.u8) 57)), grd := some (5, true) }, { dst := some 8, op := AOp.pick (Opd.t 5) (Opd.t 7) (Opd.c (AV.bool false)), grd := none }, { dst := some 2, op := AOp.mv (Opd.t 8), grd := none }]
def c32_2 : ACode := .seq c32_3 c32_4
def c32_1 : ACode := .reg [{ dst := some 2, op := AOp.mv (Opd.c (AV.bool false)), grd := none }]
def c32_0 : ACode := .seq c32_1 c32_2
def A32 : AFun := { np := 1, res := [(2, none)], body := c32_0 }

def c33_76 : ACode := .ret
def c33_75 : ACode := .reg [{ dst := some 4, op := AOp.mv (Opd.c (AV.str [])), grd := none }, { dst := some 5, op := AOp.mv (Opd.c (AV.int (IntKind.i64) (-1))), grd := none }]
def c33_74 : ACode := .seq c33_75 c33_76
def c33_73 : ACode := .reg [{ dst := some 15, op := AOp.mv (Opd.t 7), grd := none }, { dst := some 16, op := AOp.bin (BinOp.add) (Opd.t 15) (Opd.c (AV.int (IntKind.i64) 1)), grd := none }, { dst := some 7, op := AOp.mv (Opd.t 16), grd := none }]
def c33_72 : ACode := .reg [{ dst := some 49, op := AOp.mv (Opd.t 6), grd := none }, { dst := some 50, op := AOp.mv (Opd.t 8), grd := none }, { dst := some 51, op := AOp.bslice 1 1 [AV.int (IntKind.u8) 0] [(0, Opd.t 50)], grd := none }, { dst := some 52, op := AOp.appb 5 (Opd.t 49) (Opd.t 51), grd := none }, { dst := some 6, op := AOp.mv (Opd.t 52), grd := none }]
def c33_71 : ACode := .skip
def c33_70 : ACode := .ret
def c33_69 : ACode := .reg [{ dst := some 4, op := AOp.mv (Opd.c (AV.str [])), grd := none }, { dst := some 5, op := AOp.mv (Opd.c (AV.int (IntKind.i64) (-1))), grd := none }]
def c33_68 : ACode := .seq c33_69 c33_70
def c33_67 : ACode := .reg [{ dst := some 8, op := AOp.mv (Opd.c (AV.int (IntKind.u8) 9)), grd := none }]
def c33_66 : ACode := .cond (.t 47) c33_67 c33_68
def c33_65 : ACode := .reg [{ dst := some 48, op := AOp.bin (BinOp.eql) (Opd.t 38) (Opd.c (AV.int (IntKind.u8) 116)), grd := none }, { dst := some 47, op := AOp.mv (Opd.t 48), grd := none }]
def c33_64 : ACode := .seq c33_65 c33_66
def c33_63 : ACode := .reg [{ dst := some 8, op := AOp.mv (Opd.c (AV.int (IntKind.u8) 10)), grd := none }]
def c33_62 : ACode := .cond (.t 45) c33_63 c33_64
def c33_61 : ACode := .reg [{ dst := some 46, op := AOp.bin (BinOp.eql) (Opd.t 38) (Opd.c (AV.int (IntKind.u8) 110)), grd := none }, { dst := some 45, op := AOp.mv (Opd.t 46), grd := none }]
def c33_60 : ACode := .seq c33_61 c33_62
def c33_59 : ACode := .reg [{ dst := some 42, op := AOp.mv (Opd.t 0), grd := none }, { dst := some 43, op := AOp.mv (Opd.t 7), grd := none }, { dst := some 44, op := AOp.idxs (Opd.t 42) (Opd.t 43), grd := none }, { dst := some 8, op := AOp.mv (Opd.t 44), grd := none }]
def c33_58 : ACode := .cond (.t 39) c33_59 c33_60
def c33_57 : ACode := .reg [{ dst := some 41, op := AOp.bin (BinOp.eql) (Opd.t 38) (Opd.c (AV.int (IntKind.u8) 92)), grd := none }, { dst := some 39, op := AOp.mv (Opd.t 41), grd := none }]
def c33_56 : ACode := .skip
def c33_55 : ACode := .cond (.t 39) c33_56 c33_57
def c33_54 : ACode := .reg [{ dst := some 40, op := AOp.bin (BinOp.eql) (Opd.t 38) (Opd.c (AV.int (IntKind.u8) 34)), grd := none }, { dst := some 39, op := AOp.mv (Opd.t 40), grd := none }]
def c33_53 : ACode := .seq c33_54 c33_55
def c33_52 : ACode := .seq c33_53 c33_58
def c33_51 : ACode := .block 2 c33_52
def c33_50 : ACode := .reg [{ dst := some 36, op := AOp.mv (Opd.t 0), grd := none }, { dst := some 37, op := AOp.mv (Opd.t 7), grd := none }, { dst := some 38, op := AOp.idxs (Opd.t 36) (Opd.t 37), grd := none }]
def c33_49 : ACode := .seq c33_50 c33_51
def c33_48 : ACode := .skip
def c33_47 : ACode := .ret
def c33_46 : ACode := .reg [{ dst := some 4, op := AOp.mv (Opd.c (AV.str [])), grd := none }, { dst := some 5, op := AOp.mv (Opd.c (AV.int (IntKind.i64) (-1))), grd := none }]
def c33_45 : ACode := .seq c33_46 c33_47
def c33_44 : ACode := .cond (.t 35) c33_45 c33_48
def c33_43 : ACode := .reg [{ dst := some 32, op := AOp.mv (Opd.t 7), grd := none }, { dst := some 33, op := AOp.mv (Opd.t 0), grd := none }, { dst := some 34, op := AOp.len 0 (Opd.t 33), grd := none }, { dst := some 35, op := AOp.bin (BinOp.geq) (Opd.t 32) (Opd.t 34), grd := none }]
def c33_42 : ACode := .seq c33_43 c33_44
def c33_41 : ACode := .seq c33_42 c33_49
def c33_40 : ACode := .reg [{ dst := some 30, op := AOp.mv (Opd.t 7), grd := none }, { dst := some 31, op := AOp.bin (BinOp.add) (Opd.t 30) (Opd.c (AV.int (IntKind.i64) 1)), grd := none }, { dst := some 7, op := AOp.mv (Opd.t 31), grd := none }]
def c33_39 : ACode := .seq c33_40 c33_41
def c33_38 : ACode := .cond (.t 29) c33_39 c33_71
def c33_37 : ACode := .reg [{ dst := some 28, op := AOp.mv (Opd.t 8), grd := none }, { dst := some 29, op := AOp.bin (BinOp.eql) (Opd.t 28) (Opd.c (AV.int (IntKind.u8) 92)), grd := none }]
def c33_36 : ACode := .seq c33_37 c33_38
def c33_35 : ACode := .seq c33_36 c33_72
def c33_34 : ACode := .skip
def c33_33 : ACode := .ret
def c33_32 : ACode := .reg [{ dst := some 4, op := AOp.mv (Opd.c (AV.str [])), grd := none }, { dst := some 5, op := AOp.mv (Opd.c (AV.int (IntKind.i64) (-1))), grd := none }]
def c33_31 : ACode := .seq c33_32 c33_33
def c33_30 : ACode := .cond (.t 27) c33_31 c33_34
def c33_29 : ACode := .reg [{ dst := some 26, op := AOp.mv (Opd.t 8), grd := none }, { dst := some 27, op := AOp.bin (BinOp.lss) (Opd.t 26) (Opd.c (AV.int (IntKind.u8) 32)), grd := none }]
def c33_28 : ACode := .seq c33_29 c33_30
def c33_27 : ACode := .seq c33_28 c33_35
def c33_26 : ACode := .skip
def c33_25 : ACode := .ret
def c33_24 : ACode := .reg [{ dst := some 22, op := AOp.mv (Opd.t 6), grd := none }, { dst := some 23, op := AOp.b2s (Opd.t 22), grd := none }, { dst := some 24, op := AOp.mv (Opd.t 7), grd := none }, { dst := some 25, op := AOp.bin (BinOp.add) (Opd.t 24) (Opd.c (AV.int (IntKind.i64) 1)), grd := none }, { dst := some 4, op := AOp.mv (Opd.t 23), grd := none }, { dst := some 5, op := AOp.mv (Opd.t 25), grd := none }]
def c33_23 : ACode := .seq c33_24 c33_25
def c33_22 : ACode := .cond (.t 21) c33_23 c33_26
def c33_21 : ACode := .reg [{ dst := some 20, op := AOp.mv (Opd.t 8), grd := none }, { dst := some 21, op := AOp.bin (BinOp.eql) (Opd.t 20) (Opd.c (AV.int (IntKind.u8) 34)), grd := none }]
def c33_20 : ACode := .seq c33_21 c33_22
def c33_19 : ACode := .seq c33_20 c33_27
def c33_18 : ACode := .reg [{ dst := some 17, op := AOp.mv (Opd.t 0), grd := none }, { dst := some 18, op := AOp.mv (Opd.t 7), grd := none }, { dst := some 19, op := AOp.idxs (Opd.t 17) (Opd.t 18), grd := none }, { dst := some 8, op := AOp.mv (Opd.t 19), grd := none }]
def c33_17 : ACode := .seq c33_18 c33_19
def c33_16 : ACode := .block 1 c33_17
def c33_15 : ACode := .seq c33_16 c33_73
def c33_14 : ACode := .exit 0
def c33_13 : ACode := .skip
def c33_12 : ACode := .cond (.t 14) c33_13 c33_14
def c33_11 : ACode := .reg [{ dst := some 11, op := AOp.mv (Opd.t 7), grd := none }, { dst := some 12, op := AOp.mv (Opd.t 0), grd := none }, { dst := some 13, op := AOp.len 0 (Opd.t 12), grd := none }, { dst := some 14, op := AOp.bin (BinOp.lss) (Opd.t 11) (Opd.t 13), grd := none }]
def c33_10 : ACode := .seq c33_11 c33_12
def c33_9 : ACode := .seq c33_10 c33_15
def c33_8 : ACode := .loop c33_9
def c33_7 : ACode := .block 0 c33_8
def c33_6 : ACode := .reg [{ dst := some 9, op := AOp.mv (Opd.t 1), grd := none }, { dst := some 10, op := AOp.bin (BinOp.add) (Opd.t 9) (Opd.c (AV.int (IntKind.i64) 1)), grd := none }, { dst := some 7, op := AOp.mv (Opd.t 10), grd := none }]
def c33_5 : ACode := .seq c33_6 c33_7
def c33_4 : ACode := .seq c33_5 c33_74
def c33_3 : ACode := .reg [{ dst := some 6, op := AOp.mv (Opd.c (AV.nilSlc)), grd := none }]
def c33_2 : ACode := .seq c33_3 c33_4
def c33_1 : ACode := .reg [{ dst := some 4, op := AOp.mv (Opd.c (AV.str [])), grd := none }, { dst := some 5, op := AOp.mv (Opd.c (AV.int (IntKind.i64) 0)), grd := none }]
def c33_0 : ACode := .seq c33_1 c33_2
def A33 : AFun := { np := 2, res := [(4, none), (5, none)], body := c33_0 }

def c36_12 : ACode := .ret
def c36_11 : ACode := .dreg [{ dst := some 17, op := AOp.mv (Opd.t 0), grd := none }, { dst := some 18, op := AOp.nilck (Opd.t 17), grd := none }, { dst := some 19, op := AOp.fadr 0 (Opd.t 18), grd := none }, { dst := some 20, op := AOp.load false 1 (Opd.t 19), grd := none }, { dst := some 21, op := AOp.mv (Opd.t 0), grd := none }, { dst := some 22, op := AOp.nilck (Opd.t 21), grd := none }, { dst := some 23, op := AOp.fadr 1 (Opd.t 22), grd := none }, { dst := some 24, op := AOp.load false 1 (Opd.t 23), grd := none }, { dst := some 25, op := AOp.mv (Opd.t 1), grd := none }, { dst := some 26, op := AOp.bin (BinOp.add) (Opd.t 24) (Opd.t 25), grd := none }, { dst := some 27, op := AOp.idxs (Opd.t 20) (Opd.t 26), grd := none }, { dst := some 4, op := AOp.mv (Opd.t 27), grd := none }] []
def c36_10 : ACode := .seq c36_11 c36_12
def c36_9 : ACode := .skip
def c36_8 : ACode := .ret
def c36_7 : ACode := .reg [{ dst := some 4, op := AOp.mv (Opd.c (AV.int (IntKind.u8) 0)), grd := none }]
def c36_6 : ACode := .seq c36_7 c36_8
def c36_5 : ACode := .cond (.t 16) c36_6 c36_9
def c36_4 : ACode := .dreg [{ dst := some 5, op := AOp.mv (Opd.t 0), grd := none }, { dst := some 6, op := AOp.nilck (Opd.t 5), grd := none }, { dst := some 7, op := AOp.fadr 1 (Opd.t 6), grd := none }, { dst := some 8, op := AOp.load false 1 (Opd.t 7), grd := none }, { dst := some 9, op := AOp.mv (Opd.t 1), grd := none }, { dst := some 10, op := AOp.bin (BinOp.add) (Opd.t 8) (Opd.t 9), grd := none }, { dst := some 11, op := AOp.mv (Opd.t 0), grd := none }, { dst := some 12, op := AOp.nilck (Opd.t 11), grd := none }, { dst := some 13, op := AOp.fadr 0 (Opd.t 12), grd := none }, { dst := some 14, op := AOp.load false 1 (Opd.t 13), grd := none }, { dst := some 15, op := AOp.len 0 (Opd.t 14), grd := none }, { dst := some 16, op := AOp.bin (BinOp.geq) (Opd.t 10) (Opd.t 15), grd := none }] []
def c36_3 : ACode := .seq c36_4 c36_5
def c36_2 : ACode := .seq c36_3 c36_10
def c36_1 : ACode := .reg [{ dst := some 4, op := AOp.mv (Opd.c (AV.int (IntKind.u8) 0)), grd := none }]
def c36_0 : ACode := .seq c36_1 c36_2
def A36 : AFun := { np := 2, res := [(4, none)], body := c36_0 }

def c37_4 : ACode := .ret
def c37_3 : ACode := .dreg [{ dst := some 6, op := AOp.load false 1 (Opd.t 2), grd := none }, { dst := some 7, op := AOp.nilck (Opd.t 6), grd := none }, { dst := some 8, op := AOp.fadr 0 (Opd.t 7), grd := none }, { dst := some 9, op := AOp.load false 1 (Opd.t 8), grd := none }, { dst := some 10, op := AOp.load false 1 (Opd.t 2), grd := none }, { dst := some 11, op := AOp.nilck (Opd.t 10), grd := none }, { dst := some 12, op := AOp.fadr 1 (Opd.t 11), grd := none }, { dst := some 13, op := AOp.load false 1 (Opd.t 12), grd := none }, { dst := some 14, op := AOp.mv (Opd.t 0), grd := none }, { dst := some 15, op := AOp.bin (BinOp.add) (Opd.t 13) (Opd.t 14), grd := none }, { dst := some 16, op := AOp.load false 1 (Opd.t 2), grd := none }, { dst := some 17, op := AOp.nilck (Opd.t 16), grd := none }, { dst := some 18, op := AOp.fadr 1 (Opd.t 17), grd := none }, { dst := some 19, op := AOp.load false 1 (Opd.t 18), grd := none }, { dst := some 20, op := AOp.mv (Opd.t 0), grd := none }, { dst := some 21, op := AOp.bin (BinOp.add) (Opd.t 19) (Opd.t 20), grd := none }, { dst := some 22, op := AOp.mv (Opd.t 1), grd := none }, { dst := some 23, op := AOp.bin (BinOp.add) (Opd.t 21) (Opd.t 22), grd := none }, { dst := some 24, op := AOp.sls (Opd.t 9) (some (Opd.t 15)) (some (Opd.t 23)), grd := none }, { dst := some 5, op := AOp.mv (Opd.t 24), grd := none }] []
def c37_2 : ACode := .seq c37_3 c37_4
def c37_1 : ACode := .reg [{ dst := some 5, op := AOp.mv (Opd.c (AV.str [])), grd := none }]
def c37_0 : ACode := .seq c37_1 c37_2
def A37 : AFun := { np := 3, res := [(5, none)], body := c37_0 }

def c38_4 : ACode := .ret
def c38_3 : ACode := .reg [{ dst := some 3, op := AOp.mv (Opd.t 0), grd := none }, { dst := some 4, op := AOp.bin (BinOp.geq) (Opd.t 3) (Opd.c (AV.int (IntKind.u8) 97)), grd := none }, { dst := some 5, op := AOp.mv (Opd.t 4), grd := none }, { dst := some 6, op := AOp.mv (Opd.t 0), grd := some (5, true) }, { dst := some 7, op := AOp.bin (BinOp.leq) (Opd.t 6) (Opd.c (AV.int (IntKind.u8) 122)), grd := some (5, true) }, { dst := some 8, op := AOp.pick (Opd.t 5) (Opd.t 7) (Opd.c (AV.bool false)), grd := none }, { dst := some 9, op := AOp.mv (Opd.t 8), grd := none }, { dst := some 10, op := AOp.mv (Opd.t 0), grd := some (9, false) }, { dst := some 11, op := AOp.bin (BinOp.geq) (Opd.t 10) (Opd.c (AV.int (IntKind.u8) 65)), grd := some (9, false) }, { dst := some 12, op := AOp.mv (Opd.t 11), grd := some (9, false) }, { dst := some 13, op := AOp.mv (Opd.t 0), grd := some (12, true) }, { dst := some 14, op := AOp.bin (BinOp.leq) (Opd.t 13) (Opd.c (AV.int (IntKind.u8) 90)), grd := some (12, true) }, { dst := some 15, op := AOp.pick (Opd.t 12) (Opd.t 14) (Opd.c (AV.bool false)), grd := some (9, false) }, { dst := some 16, op := AOp.pick (Opd.t 9) (Opd.c (AV.bool true)) (Opd.t 15), grd := none }, { dst := some 2, op := AOp.mv (Opd.t 16), grd := none }]
def c38_2 : ACode := .seq c38_3 c38_4
def c38_1 : ACode := .reg [{ dst := some 2, op := AOp.mv (Opd.c (AV.bool false)), grd := none }]
def c38_0 : ACode := .seq c38_1 c38_2
def A38 : AFun := { np := 1, res := [(2, none)], body := c38_0 }

def c39_12 : ACode := .ret
def c39_11 : ACode := .reg [{ dst := some 10, op := AOp.mv (Opd.t 0), grd := none }, { dst := some 11, op := AOp.mv (Opd.t 1), grd := none }, { dst := some 12, op := AOp.call (Opd.c (AV.fn (AFn.func 41) [] [])) [Opd.t 10, Opd.t 11, Opd.c (AV.fn (AFn.func 44) [] [])], grd := none }, { dst := some 4, op := AOp.mv (Opd.t 12), grd := none }]
def c39_10 : ACode := .seq c39_11 c39_12
def c39_9 : ACode := .skip
def c39_8 : ACode := .ret
def c39_7 : ACode := .reg [{ dst := some 4, op := AOp.mv (Opd.c (AV.int (IntKind.i64) 0)), grd := none }]
def c39_6 : ACode := .seq c39_7 c39_8
def c39_5 : ACode := .cond (.t 9) c39_6 c39_9
def c39_4 : ACode := .reg [{ dst := some 5, op := AOp.mv (Opd.t 0), grd := none }, { dst := some 6, op := AOp.mv (Opd.t 1), grd := none }, { dst := some 7, op := AOp.call (Opd.c (AV.fn (AFn.func 36) [] [])) [Opd.t 5, Opd.t 6], grd := none }, { dst := some 8, op := AOp.call (Opd.c (AV.fn (AFn.func 38) [] [])) [Opd.t 7], grd := none }, { dst := some 9, op := AOp.not (Opd.t 8), grd := none }]
def c39_3 : ACode := .seq c39_4 c39_5
def c39_2 : ACode := .seq c39_3 c39_10
def c39_1 : ACode := .reg [{ dst := some 4, op := AOp.mv (Opd.c (AV.int (IntKind.i64) 0)), grd := none }]
def c39_0 : ACode := .seq c39_1 c39_2
def A39 : AFun := { np := 2, res := [(4, none)], body := c39_0 }

def c40_4 : ACode := .ret
def c40_3 : ACode := .reg [{ dst := some 3, op := AOp.mv (Opd.t 0), grd := none }, { dst := some 4, op := AOp.bin (BinOp.geq) (Opd.t 3) (Opd.c (AV.int (IntKind.u8) 48)), grd := none }, { dst := some 5, op := AOp.mv (Opd.t 4), grd := none }, { dst := some 6, op := AOp.mv (Opd.t 0), grd := some (5, true) }, { dst := some 7, op := AOp.bin (BinOp.leq) (Opd.t 6) (Opd.c (AV.int (IntKind.u8) 57)), grd := some (5, true) }, { dst := some 8, op := AOp.pick (Opd.t 5) (Opd.t 7) (Opd.c (AV.bool false)), grd := none }, { dst := some 2, op := AOp.mv (Opd.t 8), grd := none }]
def c40_2 : ACode := .seq c40_3 c40_4
def c40_1 : ACode := .reg [{ dst := some 2, op := AOp.mv (Opd.c (AV.bool false)), grd := none }]
def c40_0 : ACode := .seq c40_1 c40_2
def A40 : AFun := { np := 1, res := [(2, none)], body := c40_0 }

def c41_17 : ACode := .ret
def c41_16 : ACode := .reg [{ dst := some 41, op := AOp.mv (Opd.t 7), grd := none }, { dst := some 6, op := AOp.mv (Opd.t 41), grd := none }]
def c41_15 : ACode := .seq c41_16 c41_17
def c41_14 : ACode := .reg [{ dst := some 39, op := AOp.mv (Opd.t 7), grd := none }, { dst := some 40, op := AOp.bin (BinOp.add) (Opd.t 39) (Opd.c (AV.int (IntKind.i64) 1)), grd := none }, { dst := some 7, op := AOp.mv (Opd.t 40), grd := none }]
def c41_13 : ACode := .block 1 c41_14
def c41_12 : ACode := .exit 0
def c41_11 : ACode := .skip
def c41_10 : ACode := .cond (.t 38) c41_11 c41_12
set_option maxRecDepth 100000 in
def c41_9 : ACode := .dreg [{ dst := some 8, op := AOp.mv (Opd.t 0), grd := none }, { dst := some 9, op := AOp.nilck (Opd.t 8), grd := none }, { dst := some 10, op := AOp.fadr 1 (Opd.t 9), grd := none }, { dst := some 11, op := AOp.load false 1 (Opd.t 10), grd := none }, { dst := some 12, op := AOp.mv (Opd.t 1), grd := none }, { dst := some 13, op := AOp.bin (BinOp.add) (Opd.t 11) (Opd.t 12), grd := none }, { dst := some 14, op := AOp.mv (Opd.t 7), grd := none }, { dst := some 15, op := AOp.bin (BinOp.add) (Opd.t 13) (Opd.t 14), grd := none }, { dst := some 16, op := AOp.mv (Opd.t 0), grd := none }, { dst := some 17, op := AOp.nilck (Opd.t 16), grd := none }, { dst := some 18, op := AOp.fadr 0 (Opd.t 17), grd := none }, { dst := some 19, op := AOp.load false 1 (Opd.t 18), grd := none }, { dst := some 20, op := AOp.len 0 (Opd.t 19), grd := none }, { dst := some 21, op := AOp.bin (BinOp.lss) (Opd.t 15) (Opd.t 20), grd := none }, { dst := some 22, op := AOp.mv (Opd.t 21), grd := none }, { dst := some 23, op := AOp.mv (Opd.t 2), grd := some (22, true) }, { dst := some 24, op := AOp.mv (Opd.t 0), grd := some (22, true) }, { dst := some 25, op := AOp.nilck (Opd.t 24), grd := some (22, true) }, { dst := some 26, op := AOp.fadr 0 (Opd.t 25), grd := some (22, true) }, { dst := some 27, op := AOp.load false 1 (Opd.t 26), grd := some (22, true) }, { dst := some 28, op := AOp.mv (Opd.t 0), grd := some (22, true) }, { dst := some 29, op := AOp.nilck (Opd.t 28), grd := some (22, true) }, { dst := some 30, op := AOp.fadr 1 (Opd.t 29), grd := some (22, true) }, { dst := some 31, op := AOp.load false 1 (Opd.t 30), grd := some (22, true) }, { dst := some 32, op := AOp.mv (Opd.t 1), grd := some (22, true) }, { dst := some 33, op := AOp.bin (BinOp.add) (Opd.t 31) (Opd.t 32), grd := some (22, true) }, { dst := some 34, op := AOp.mv (Opd.t 7), grd := some (22, true) }, { dst := some 35, op := AOp.bin (BinOp.add) (Opd.t 33) (Opd.t 34), grd := some (22, true) }, { dst := some 36, op := AOp.idxs (Opd.t 27) (Opd.t 35), grd := some (22, true) }] [({ dst := some 37, op := AOp.call (Opd.t 23) [Opd.t 36], grd := some (22, true) }, [], [{ dst := some 38, op := AOp.pick (Opd.t 22) (Opd.t 37) (Opd.c (AV.bool false)), grd := none }])]
def c41_8 : ACode := .seq c41_9 c41_10
def c41_7 : ACode := .seq c41_8 c41_13
def c41_6 : ACode := .loop c41_7
def c41_5 : ACode := .block 0 c41_6
def c41_4 : ACode := .seq c41_5 c41_15
def c41_3 : ACode := .reg [{ dst := some 7, op := AOp.mv (Opd.c (AV.int (IntKind.i64) 0)), grd := none }]
def c41_2 : ACode := .seq c41_3 c41_4
def c41_1 : ACode := .reg [{ dst := some 6, op := AOp.mv (Opd.c (AV.int (IntKind.i64) 0)), grd := none }]
def c41_0 : ACode := .seq c41_1 c41_2
def A41 : AFun := { np := 3, res := [(6, none)], body := c41_0 }

def c42_52 : ACode := .ret
def c42_51 : ACode := .reg [{ dst := some 2, op := AOp.mv (Opd.c (AV.str [])), grd := none }, { dst := some 3, op := AOp.mv (Opd.c (AV.int (IntKind.i64) 0)), grd := none }]
def c42_50 : ACode := .seq c42_51 c42_52
def c42_49 : ACode := .reg [{ dst := some 20, op := AOp.mv (Opd.t 5), grd := none }, { dst := some 21, op := AOp.bin (BinOp.add) (Opd.t 20) (Opd.c (AV.int (IntKind.i64) 1)), grd := none }, { dst := some 5, op := AOp.mv (Opd.t 21), grd := none }]
def c42_48 : ACode := .reg [{ dst := some 25, op := AOp.mv (Opd.t 6), grd := none }, { dst := some 26, op := AOp.call (Opd.c (AV.fn (AFn.func 19) [] [])) [Opd.t 4, Opd.t 25], grd := none }]
def c42_47 : ACode := .ret
def c42_46 : ACode := .reg [{ dst := some 2, op := AOp.mv (Opd.c (AV.str [])), grd := none }, { dst := some 3, op := AOp.mv (Opd.c (AV.int (IntKind.i64) 0)), grd := none }]
def c42_45 : ACode := .seq c42_46 c42_47
def c42_44 : ACode := .cond (.t 47) c42_45 c42_48
def c42_43 : ACode := .reg [{ dst := some 48, op := AOp.mv (Opd.t 6), grd := none }, { dst := some 49, op := AOp.bin (BinOp.lss) (Opd.t 48) (Opd.c (AV.int (IntKind.u8) 32)), grd := none }, { dst := some 47, op := AOp.mv (Opd.t 49), grd := none }]
def c42_42 : ACode := .seq c42_43 c42_44
def c42_41 : ACode := .reg [{ dst := some 44, op := AOp.mv (Opd.t 7), grd := none }, { dst := some 45, op := AOp.idxs (Opd.c (AV.str [34, 92, 10, 9])) (Opd.t 44), grd := none }, { dst := some 46, op := AOp.call (Opd.c (AV.fn (AFn.func 19) [] [])) [Opd.t 4, Opd.t 45], grd := none }]
def c42_40 : ACode := .skip
def c42_39 : ACode := .ret
def c42_38 : ACode := .reg [{ dst := some 2, op := AOp.mv (Opd.c (AV.str [])), grd := none }, { dst := some 3, op := AOp.mv (Opd.c (AV.int (IntKind.i64) 0)), grd := none }]
def c42_37 : ACode := .seq c42_38 c42_39
def c42_36 : ACode := .cond (.t 43) c42_37 c42_40
def c42_35 : ACode := .reg [{ dst := some 42, op := AOp.mv (Opd.t 7), grd := none }, { dst := some 43, op := AOp.bin (BinOp.lss) (Opd.t 42) (Opd.c (AV.int (IntKind.i64) 0)), grd := none }]
def c42_34 : ACode := .seq c42_35 c42_36
def c42_33 : ACode := .seq c42_34 c42_41
def c42_32 : ACode := .reg [{ dst := some 38, op := AOp.mv (Opd.t 0), grd := none }, { dst := some 39, op := AOp.mv (Opd.t 5), grd := none }, { dst := some 40, op := AOp.call (Opd.c (AV.fn (AFn.func 36) [] [])) [Opd.t 38, Opd.t 39], grd := none }, { dst := some 41, op := AOp.call (Opd.c (AV.fn (AFn.func 20) [] [])) [Opd.c (AV.str [34, 92, 110, 116]), Opd.t 40], grd := none }, { dst := some 7, op := AOp.mv (Opd.t 41), grd := none }]
def c42_31 : ACode := .seq c42_32 c42_33
def c42_30 : ACode := .reg [{ dst := some 36, op := AOp.mv (Opd.t 5), grd := none }, { dst := some 37, op := AOp.bin (BinOp.add) (Opd.t 36) (Opd.c (AV.int (IntKind.i64) 1)), grd := none }, { dst := some 5, op := AOp.mv (Opd.t 37), grd := none }]
def c42_29 : ACode := .seq c42_30 c42_31
def c42_28 : ACode := .cond (.t 33) c42_29 c42_42
def c42_27 : ACode := .reg [{ dst := some 34, op := AOp.mv (Opd.t 6), grd := none }, { dst := some 35, op := AOp.bin (BinOp.eql) (Opd.t 34) (Opd.c (AV.int (IntKind.u8) 92)), grd := none }, { dst := some 33, op := AOp.mv (Opd.t 35), grd := none }]
def c42_26 : ACode := .seq c42_27 c42_28
def c42_25 : ACode := .ret
def c42_24 : ACode := .reg [{ dst := some 30, op := AOp.call (Opd.c (AV.fn (AFn.func 21) [] [])) [Opd.t 4], grd := none }, { dst := some 31, op := AOp.mv (Opd.t 5), grd := none }, { dst := some 32, op := AOp.bin (BinOp.add) (Opd.t 31) (Opd.c (AV.int (IntKind.i64) 1)), grd := none }, { dst := some 2, op := AOp.mv (Opd.t 30), grd := none }, { dst := some 3, op := AOp.mv (Opd.t 32), grd := none }]
def c42_23 : ACode := .seq c42_24 c42_25
def c42_22 : ACode := .cond (.t 27) c42_23 c42_26
def c42_21 : ACode := .reg [{ dst := some 28, op := AOp.mv (Opd.t 6), grd := none }, { dst := some 29, op := AOp.bin (BinOp.eql) (Opd.t 28) (Opd.c (AV.int (IntKind.u8) 34)), grd := none }, { dst := some 27, op := AOp.mv (Opd.t 29), grd := none }]
def c42_20 : ACode := .seq c42_21 c42_22
def c42_19 : ACode := .block 2 c42_20
def c42_18 : ACode := .reg [{ dst := some 22, op := AOp.mv (Opd.t 0), grd := none }, { dst := some 23, op := AOp.mv (Opd.t 5), grd := none }, { dst := some 24, op := AOp.call (Opd.c (AV.fn (AFn.func 36) [] [])) [Opd.t 22, Opd.t 23], grd := none }, { dst := some 6, op := AOp.mv (Opd.t 24), grd := none }]
def c42_17 : ACode := .seq c42_18 c42_19
def c42_16 : ACode := .block 1 c42_17
def c42_15 : ACode := .seq c42_16 c42_49
def c42_14 : ACode := .exit 0
def c42_13 : ACode := .skip
def c42_12 : ACode := .cond (.t 19) c42_13 c42_14
def c42_11 : ACode := .dreg [{ dst := some 8, op := AOp.mv (Opd.t 0), grd := none }, { dst := some 9, op := AOp.nilck (Opd.t 8), grd := none }, { dst := some 10, op := AOp.fadr 1 (Opd.t 9), grd := none }, { dst := some 11, op := AOp.load false 1 (Opd.t 10), grd := none }, { dst := some 12, op := AOp.mv (Opd.t 5), grd := none }, { dst := some 13, op := AOp.bin (BinOp.add) (Opd.t 11) (Opd.t 12), grd := none }, { dst := some 14, op := AOp.mv (Opd.t 0), grd := none }, { dst := some 15, op := AOp.nilck (Opd.t 14), grd := none }, { dst := some 16, op := AOp.fadr 0 (Opd.t 15), grd := none }, { dst := some 17, op := AOp.load false 1 (Opd.t 16), grd := none }, { dst := some 18, op := AOp.len 0 (Opd.t 17), grd := none }, { dst := some 19, op := AOp.bin (BinOp.lss) (Opd.t 13) (Opd.t 18), grd := none }] []
def c42_10 : ACode := .seq c42_11 c42_12
def c42_9 : ACode := .seq c42_10 c42_15
def c42_8 : ACode := .loop c42_9
def c42_7 : ACode := .block 0 c42_8
def c42_6 : ACode := .reg [{ dst := some 5, op := AOp.mv (Opd.c (AV.int (IntKind.i64) 1)), grd := none }]
def c42_5 : ACode := .seq c42_6 c42_7
def c42_4 : ACode := .seq c42_5 c42_50
def c42_3 : ACode := .reg [{ dst := some 4, op := AOp.allot 41 [AV.nilPtr, AV.nilSlc], grd := none }]
def c42_2 : ACode := .seq c42_3 c42_4
def c42_1 : ACode := .reg [{ dst := some 2, op := AOp.mv (Opd.c (AV.str [])), grd := none }, { dst := some 3, op := AOp.mv (Opd.c (AV.int (IntKind.i64) 0)), grd := none }]
def c42_0 : ACode := .seq c42_1 c42_2
def A42 : AFun := { np := 1, res := [(2, none), (3, none)], body := c42_0 }

def c43_35 : ACode := .ret
def c43_34 : ACode := .reg [{ dst := some 2, op := AOp.mv (Opd.c (AV.int (IntKind.i64) 0)), grd := none }]
def c43_33 : ACode := .seq c43_34 c43_35
def c43_32 : ACode := .skip
def c43_31 : ACode := .ret
def c43_30 : ACode := .reg [{ dst := some 2, op := AOp.mv (Opd.c (AV.int (IntKind.i64) 1)), grd := none }]
def c43_29 : ACode := .seq c43_30 c43_31
def c43_28 : ACode := .cond (.t 33) c43_29 c43_32
def c43_27 : ACode := .dreg [{ dst := some 23, op := AOp.mv (Opd.t 0), grd := none }, { dst := some 24, op := AOp.nilck (Opd.t 23), grd := none }, { dst := some 25, op := AOp.fadr 0 (Opd.t 24), grd := none }, { dst := some 26, op := AOp.load false 1 (Opd.t 25), grd := none }, { dst := some 27, op := AOp.mv (Opd.t 0), grd := none }, { dst := some 28, op := AOp.nilck (Opd.t 27), grd := none }, { dst := some 29, op := AOp.fadr 1 (Opd.t 28), grd := none }, { dst := some 30, op := AOp.load false 1 (Opd.t 29), grd := none }, { dst := some 31, op := AOp.idxs (Opd.t 26) (Opd.t 30), grd := none }] [({ dst := some 32, op := AOp.call (Opd.c (AV.fn (AFn.func 20) [] [])) [Opd.c (AV.str [40, 41, 91, 93, 123, 125, 44, 46, 58, 59, 63, 60, 62, 61, 43, 45, 42, 47, 37, 33]), Opd.t 31], grd := none }, [], [{ dst := some 33, op := AOp.bin (BinOp.geq) (Opd.t 32) (Opd.c (AV.int (IntKind.i64) 0)), grd := none }])]
def c43_26 : ACode := .seq c43_27 c43_28
def c43_25 : ACode := .seq c43_26 c43_33
def c43_24 : ACode := .reg [{ dst := some 22, op := AOp.bin (BinOp.add) (Opd.t 7) (Opd.c (AV.int (IntKind.i64) 1)), grd := none }, { dst := some 7, op := AOp.mv (Opd.t 22), grd := none }]
def c43_23 : ACode := .skip
def c43_22 : ACode := .ret
def c43_21 : ACode := .reg [{ dst := some 2, op := AOp.mv (Opd.c (AV.int (IntKind.i64) 2)), grd := none }]
def c43_20 : ACode := .seq c43_21 c43_22
def c43_19 : ACode := .cond (.t 21) c43_20 c43_23
def c43_18 : ACode := .dreg [{ dst := some 11, op := AOp.mv (Opd.t 0), grd := none }, { dst := some 12, op := AOp.nilck (Opd.t 11), grd := none }, { dst := some 13, op := AOp.fadr 0 (Opd.t 12), grd := none }, { dst := some 14, op := AOp.load false 1 (Opd.t 13), grd := none }, { dst := some 15, op := AOp.mv (Opd.t 0), grd := none }, { dst := some 16, op := AOp.nilck (Opd.t 15), grd := none }, { dst := some 17, op := AOp.fadr 1 (Opd.t 16), grd := none }, { dst := some 18, op := AOp.load false 1 (Opd.t 17), grd := none }, { dst := some 19, op := AOp.sls (Opd.t 14) (some (Opd.t 18)) none, grd := none }, { dst := some 20, op := AOp.mv (Opd.t 4), grd := none }] [({ dst := some 21, op := AOp.call (Opd.c (AV.fn (AFn.func 45) [] [])) [Opd.t 19, Opd.t 20], grd := none }, [], [])]
def c43_17 : ACode := .seq c43_18 c43_19
def c43_16 : ACode := .reg [{ dst := some 9, op := AOp.iadr 1 (Opd.t 5) (Opd.t 7), grd := none }, { dst := some 10, op := AOp.load false 1 (Opd.t 9), grd := none }, { dst := some 4, op := AOp.mv (Opd.t 10), grd := none }]
def c43_15 : ACode := .seq c43_16 c43_17
def c43_14 : ACode := .block 1 c43_15
def c43_13 : ACode := .seq c43_14 c43_24
def c43_12 : ACode := .exit 0
def c43_11 : ACode := .skip
def c43_10 : ACode := .cond (.t 8) c43_11 c43_12
def c43_9 : ACode := .seq c43_10 c43_13
def c43_8 : ACode := .reg [{ dst := some 8, op := AOp.bin (BinOp.lss) (Opd.t 7) (Opd.t 6), grd := none }]
def c43_7 : ACode := .seq c43_8 c43_9
def c43_6 : ACode := .loop c43_7
def c43_5 : ACode := .block 0 c43_6
def c43_4 : ACode := .reg [{ dst := some 5, op := AOp.bslice 6 1 [AV.str []] [(0, Opd.c (AV.str [61, 61])), (1, Opd.c (AV.str [33, 61])), (2, Opd.c (AV.str [60, 61])), (3, Opd.c (AV.str [62, 61])), (4, Opd.c (AV.str [38, 38])), (5, Opd.c (AV.str [124, 124]))], grd := none }, { dst := some 6, op := AOp.len 1 (Opd.t 5), grd := none }, { dst := some 7, op := AOp.mv (Opd.c (AV.int (IntKind.i64) 0)), grd := none }]
def c43_3 : ACode := .seq c43_4 c43_5
def c43_2 : ACode := .seq c43_3 c43_25
def c43_1 : ACode := .reg [{ dst := some 2, op := AOp.mv (Opd.c (AV.int (IntKind.i64) 0)), grd := none }]
def c43_0 : ACode := .seq c43_1 c43_2
def A43 : AFun := { np := 1, res := [(2, none)], body := c43_0 }

def c44_4 : ACode := .ret
def c44_3 : ACode := .reg [{ dst := some 3, op := AOp.mv (Opd.t 0), grd := none }, { dst := some 4, op := AOp.call (Opd.c (AV.fn (AFn.func 38) [] [])) [Opd.t 3], grd := none }, { dst := some 5, op := AOp.mv (Opd.t 4), grd := none }, { dst := some 6, op := AOp.mv (Opd.t 0), grd := some (5, false) }, { dst := some 7, op := AOp.call (Opd.c (AV.fn (AFn.func 40) [] [])) [Opd.t 6], grd := some (5, false) }, { dst := some 8, op := AOp.pick (Opd.t 5) (Opd.c (AV.bool true)) (Opd.t 7), grd := none }, { dst := some 9, op := AOp.mv (Opd.t 8), grd := none }, { dst := some 10, op := AOp.mv (Opd.t 0), grd := some (9, false) }, { dst := some 11, op := AOp.bin (BinOp.eql) (Opd.t 10) (Opd.c (AV.int (IntKind.u8) 95)), grd := some (9, false) }, { dst := some 12, op := AOp.pick (Opd.t 9) (Opd.c (AV.bool true)) (Opd.t 11), grd := none }, { dst := some 2, op := AOp.mv (Opd.t 12), grd := none }]
def c44_2 : ACode := .seq c44_3 c44_4
def c44_1 : ACode := .reg [{ dst := some 2, op := AOp.mv (Opd.c (AV.bool false)), grd := none }]
def c44_0 : ACode := .seq c44_1 c44_2
def A44 : AFun := { np := 1, res := [(2, none)], body := c44_0 }

def c45_4 : ACode := .ret
def c45_3 : ACode := .reg [{ dst := some 5, op := AOp.mv (Opd.t 0), grd := none }, { dst := some 6, op := AOp.mv (Opd.t 1), grd := none }, { dst := some 7, op := AOp.call (Opd.c (AV.fn (AFn.func 46) [] [])) [Opd.t 5, Opd.t 6], grd := none }, { dst := some 4, op := AOp.mv (Opd.t 7), grd := none }]
def c45_2 : ACode := .seq c45_3 c45_4
def c45_1 : ACode := .reg [{ dst := some 4, op := AOp.mv (Opd.c (AV.bool false)), grd := none }]
def c45_0 : ACode := .seq c45_1 c45_2
def A45 : AFun := { np := 2, res := [(4, none)], body := c45_0 }

end Go.Proofs.Ytajjclkdggoobaa
