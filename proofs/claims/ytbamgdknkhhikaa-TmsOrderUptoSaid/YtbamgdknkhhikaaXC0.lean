/-
  The code of the functions, as the abstract machine's (printed by wip/tools/gen.py).
-/
import Derived.Test.YtbamgdknkhhikaaAbSim
namespace Go.Proofs.Ytbamgdknkhhikaa
open Go.Ab
set_option linter.unusedVariables false

def c4_113 : ACode := .ret
def c4_112 : ACode := .reg [{ dst := some 103, op := AOp.call (Opd.c (AV.fn (AFn.func 7) [] [])) [], grd := none }, { dst := some 2, op := AOp.mv (Opd.t 103), grd := none }]
def c4_111 : ACode := .seq c4_112 c4_113
def c4_110 : ACode := .reg [{ dst := some 28, op := AOp.mv (Opd.t 5), grd := none }, { dst := some 29, op := AOp.bin (BinOp.add) (Opd.t 28) (Opd.c (AV.int (IntKind.i64) 1)), grd := none }, { dst := some 5, op := AOp.mv (Opd.t 29), grd := none }]
def c4_109 : ACode := .reg [{ dst := some 91, op := AOp.mv (Opd.t 11), grd := none }, { dst := some 92, op := AOp.bin (BinOp.add) (Opd.t 91) (Opd.c (AV.int (IntKind.i64) 1)), grd := none }, { dst := some 11, op := AOp.mv (Opd.t 92), grd := none }]
def c4_108 : ACode := .skip
def c4_107 : ACode := .ret
def c4_106 : ACode := .reg [{ dst := some 2, op := AOp.mv (Opd.c (AV.bool false)), grd := none }]
def c4_105 : ACode := .seq c4_106 c4_107
def c4_104 : ACode := .cond (.t 102) c4_105 c4_108
def c4_103 : ACode := .dreg [{ dst := some 93, op := AOp.mv (Opd.t 10), grd := none }, { dst := some 94, op := AOp.mv (Opd.t 11), grd := none }, { dst := some 95, op := AOp.iadr 2 (Opd.t 93) (Opd.t 94), grd := none }, { dst := some 96, op := AOp.fadr 0 (Opd.t 95), grd := none }, { dst := some 97, op := AOp.load false 1 (Opd.t 96), grd := none }, { dst := some 98, op := AOp.mv (Opd.t 4), grd := none }, { dst := some 99, op := AOp.mv (Opd.t 11), grd := none }, { dst := some 100, op := AOp.iadr 1 (Opd.t 98) (Opd.t 99), grd := none }, { dst := some 101, op := AOp.load false 1 (Opd.t 100), grd := none }, { dst := some 102, op := AOp.bin (BinOp.neq) (Opd.t 97) (Opd.t 101), grd := none }] []
def c4_102 : ACode := .seq c4_103 c4_104
def c4_101 : ACode := .block 5 c4_102
def c4_100 : ACode := .seq c4_101 c4_109
def c4_99 : ACode := .exit 4
def c4_98 : ACode := .skip
def c4_97 : ACode := .cond (.t 90) c4_98 c4_99
def c4_96 : ACode := .reg [{ dst := some 87, op := AOp.mv (Opd.t 11), grd := none }, { dst := some 88, op := AOp.mv (Opd.t 10), grd := none }, { dst := some 89, op := AOp.len 1 (Opd.t 88), grd := none }, { dst := some 90, op := AOp.bin (BinOp.lss) (Opd.t 87) (Opd.t 89), grd := none }]
def c4_95 : ACode := .seq c4_96 c4_97
def c4_94 : ACode := .seq c4_95 c4_100
def c4_93 : ACode := .loop c4_94
def c4_92 : ACode := .block 4 c4_93
def c4_91 : ACode := .reg [{ dst := some 11, op := AOp.mv (Opd.c (AV.int (IntKind.i64) 0)), grd := none }]
def c4_90 : ACode := .seq c4_91 c4_92
def c4_89 : ACode := .skip
def c4_88 : ACode := .ret
def c4_87 : ACode := .reg [{ dst := some 2, op := AOp.mv (Opd.c (AV.bool false)), grd := none }]
def c4_86 : ACode := .seq c4_87 c4_88
def c4_85 : ACode := .cond (.t 86) c4_86 c4_89
def c4_84 : ACode := .reg [{ dst := some 82, op := AOp.mv (Opd.t 10), grd := none }, { dst := some 83, op := AOp.len 1 (Opd.t 82), grd := none }, { dst := some 84, op := AOp.mv (Opd.t 4), grd := none }, { dst := some 85, op := AOp.len 1 (Opd.t 84), grd := none }, { dst := some 86, op := AOp.bin (BinOp.neq) (Opd.t 83) (Opd.t 85), grd := none }]
def c4_83 : ACode := .seq c4_84 c4_85
def c4_82 : ACode := .seq c4_83 c4_90
def c4_81 : ACode := .reg [{ dst := some 80, op := AOp.mv (Opd.t 3), grd := none }, { dst := some 81, op := AOp.call (Opd.c (AV.fn (AFn.func 21) [] [])) [Opd.t 80], grd := none }, { dst := some 10, op := AOp.mv (Opd.t 81), grd := none }]
def c4_80 : ACode := .seq c4_81 c4_82
def c4_79 : ACode := .skip
def c4_78 : ACode := .reg [{ dst := some 76, op := AOp.mv (Opd.t 4), grd := none }, { dst := some 77, op := AOp.mv (Opd.t 6), grd := none }, { dst := some 78, op := AOp.bslice 1 1 [AV.str []] [(0, Opd.t 77)], grd := none }, { dst := some 79, op := AOp.app 1 16 (Opd.t 76) (Opd.t 78), grd := none }, { dst := some 4, op := AOp.mv (Opd.t 79), grd := none }]
def c4_77 : ACode := .cond (.t 75) c4_78 c4_79
def c4_76 : ACode := .reg [{ dst := some 72, op := AOp.mv (Opd.t 4), grd := none }, { dst := some 73, op := AOp.mv (Opd.t 6), grd := none }, { dst := some 74, op := AOp.call (Opd.c (AV.fn (AFn.func 29) [] [])) [Opd.t 72, Opd.t 73], grd := none }, { dst := some 75, op := AOp.bin (BinOp.lss) (Opd.t 74) (Opd.c (AV.int (IntKind.i64) 0)), grd := none }]
def c4_75 : ACode := .seq c4_76 c4_77
def c4_74 : ACode := .skip
def c4_73 : ACode := .ret
def c4_72 : ACode := .reg [{ dst := some 2, op := AOp.mv (Opd.c (AV.bool false)), grd := none }]
def c4_71 : ACode := .seq c4_72 c4_73
def c4_70 : ACode := .cond (.t 71) c4_71 c4_74
def c4_69 : ACode := .reg [{ dst := some 66, op := AOp.mv (Opd.t 3), grd := none }, { dst := some 67, op := AOp.load true 2 (Opd.t 7), grd := none }, { dst := some 68, op := AOp.mv (Opd.t 5), grd := none }, { dst := some 69, op := AOp.build [AV.int (IntKind.i64) 0, AV.nilSlc, AV.nilSlc] [(0, 1, Opd.t 68)], grd := none }, { dst := some 70, op := AOp.call (Opd.c (AV.fn (AFn.func 10) [] [])) [Opd.t 66, Opd.t 67, Opd.t 69], grd := none }, { dst := some 71, op := AOp.bin (BinOp.neq) (Opd.t 70) (Opd.c (AV.int (IntKind.i64) 0)), grd := none }]
def c4_68 : ACode := .seq c4_69 c4_70
def c4_67 : ACode := .seq c4_68 c4_75
def c4_66 : ACode := .reg [{ dst := some 65, op := AOp.mv (Opd.t 8), grd := none }, { dst := some 4, op := AOp.mv (Opd.t 65), grd := none }]
def c4_65 : ACode := .reg [{ dst := some 50, op := AOp.mv (Opd.t 9), grd := none }, { dst := some 51, op := AOp.bin (BinOp.add) (Opd.t 50) (Opd.c (AV.int (IntKind.i64) 1)), grd := none }, { dst := some 9, op := AOp.mv (Opd.t 51), grd := none }]
def c4_64 : ACode := .skip
def c4_63 : ACode := .reg [{ dst := some 58, op := AOp.mv (Opd.t 8), grd := none }, { dst := some 59, op := AOp.mv (Opd.t 4), grd := none }, { dst := some 60, op := AOp.mv (Opd.t 9), grd := none }, { dst := some 61, op := AOp.iadr 1 (Opd.t 59) (Opd.t 60), grd := none }, { dst := some 62, op := AOp.load false 1 (Opd.t 61), grd := none }, { dst := some 63, op := AOp.bslice 1 1 [AV.str []] [(0, Opd.t 62)], grd := none }, { dst := some 64, op := AOp.app 1 16 (Opd.t 58) (Opd.t 63), grd := none }, { dst := some 8, op := AOp.mv (Opd.t 64), grd := none }]
def c4_62 : ACode := .cond (.t 57) c4_63 c4_64
def c4_61 : ACode := .reg [{ dst := some 52, op := AOp.mv (Opd.t 4), grd := none }, { dst := some 53, op := AOp.mv (Opd.t 9), grd := none }, { dst := some 54, op := AOp.iadr 1 (Opd.t 52) (Opd.t 53), grd := none }, { dst := some 55, op := AOp.load false 1 (Opd.t 54), grd := none }, { dst := some 56, op := AOp.mv (Opd.t 6), grd := none }, { dst := some 57, op := AOp.bin (BinOp.neq) (Opd.t 55) (Opd.t 56), grd := none }]
def c4_60 : ACode := .seq c4_61 c4_62
def c4_59 : ACode := .block 3 c4_60
def c4_58 : ACode := .seq c4_59 c4_65
def c4_57 : ACode := .exit 2
def c4_56 : ACode := .skip
def c4_55 : ACode := .cond (.t 49) c4_56 c4_57
def c4_54 : ACode := .reg [{ dst := some 46, op := AOp.mv (Opd.t 9), grd := none }, { dst := some 47, op := AOp.mv (Opd.t 4), grd := none }, { dst := some 48, op := AOp.len 1 (Opd.t 47), grd := none }, { dst := some 49, op := AOp.bin (BinOp.lss) (Opd.t 46) (Opd.t 48), grd := none }]
def c4_53 : ACode := .seq c4_54 c4_55
def c4_52 : ACode := .seq c4_53 c4_58
def c4_51 : ACode := .loop c4_52
def c4_50 : ACode := .block 2 c4_51
def c4_49 : ACode := .reg [{ dst := some 9, op := AOp.mv (Opd.c (AV.int (IntKind.i64) 0)), grd := none }]
def c4_48 : ACode := .seq c4_49 c4_50
def c4_47 : ACode := .seq c4_48 c4_66
def c4_46 : ACode := .reg [{ dst := some 8, op := AOp.mv (Opd.c (AV.nilSlc)), grd := none }]
def c4_45 : ACode := .seq c4_46 c4_47
def c4_44 : ACode := .reg [{ dst := some 43, op := AOp.mv (Opd.t 3), grd := none }, { dst := some 44, op := AOp.load true 2 (Opd.t 7), grd := none }, { dst := some 45, op := AOp.call (Opd.c (AV.fn (AFn.func 19) [] [])) [Opd.t 43, Opd.t 44], grd := none }]
def c4_43 : ACode := .seq c4_44 c4_45
def c4_42 : ACode := .cond (.t 42) c4_43 c4_67
def c4_41 : ACode := .reg [{ dst := some 36, op := AOp.fadr 0 (Opd.t 1), grd := none }, { dst := some 37, op := AOp.load false 1 (Opd.t 36), grd := none }, { dst := some 38, op := AOp.mv (Opd.t 5), grd := none }, { dst := some 39, op := AOp.iadr 7 (Opd.t 37) (Opd.t 38), grd := none }, { dst := some 40, op := AOp.fadr 0 (Opd.t 39), grd := none }, { dst := some 41, op := AOp.load false 1 (Opd.t 40), grd := none }, { dst := some 42, op := AOp.bin (BinOp.eql) (Opd.t 41) (Opd.c (AV.int (IntKind.i64) 2)), grd := none }]
def c4_40 : ACode := .seq c4_41 c4_42
def c4_39 : ACode := .seq c4_40 c4_80
def c4_38 : ACode := .reg [{ dst := some 34, op := AOp.mv (Opd.t 6), grd := none }, { dst := some 35, op := AOp.build [AV.str [], AV.nilSlc] [(0, 1, Opd.t 34)], grd := none }, { dst := some 7, op := AOp.alloc [AV.str [], AV.nilSlc], grd := none }, { dst := none, op := AOp.store 2 (Opd.t 7) (Opd.t 35), grd := none }]
def c4_37 : ACode := .seq c4_38 c4_39
def c4_36 : ACode := .reg [{ dst := some 30, op := AOp.mv (Opd.t 5), grd := none }, { dst := some 31, op := AOp.bin (BinOp.rem) (Opd.t 30) (Opd.c (AV.int (IntKind.i64) 5)), grd := none }, { dst := some 32, op := AOp.call (Opd.c (AV.fn (AFn.func 28) [] [])) [Opd.t 31], grd := none }, { dst := some 33, op := AOp.bin (BinOp.add) (Opd.c (AV.str [67])) (Opd.t 32), grd := none }, { dst := some 6, op := AOp.mv (Opd.t 33), grd := none }]
def c4_35 : ACode := .seq c4_36 c4_37
def c4_34 : ACode := .block 1 c4_35
def c4_33 : ACode := .seq c4_34 c4_110
def c4_32 : ACode := .exit 0
def c4_31 : ACode := .skip
def c4_30 : ACode := .cond (.t 27) c4_31 c4_32
def c4_29 : ACode := .reg [{ dst := some 19, op := AOp.mv (Opd.t 5), grd := none }, { dst := some 20, op := AOp.fadr 0 (Opd.t 1), grd := none }, { dst := some 21, op := AOp.load false 1 (Opd.t 20), grd := none }, { dst := some 22, op := AOp.len 1 (Opd.t 21), grd := none }, { dst := some 23, op := AOp.bin (BinOp.lss) (Opd.t 19) (Opd.t 22), grd := none }, { dst := some 24, op := AOp.mv (Opd.t 23), grd := none }, { dst := some 25, op := AOp.mv (Opd.t 5), grd := some (24, true) }, { dst := some 26, op := AOp.bin (BinOp.lss) (Opd.t 25) (Opd.c (AV.int (IntKind.i64) 40)), grd := some (24, true) }, { dst := some 27, op := AOp.pick (Opd.t 24) (Opd.t 26) (Opd.c (AV.bool false)), grd := none }]
def c4_28 : ACode := .seq c4_29 c4_30
def c4_27 : ACode := .seq c4_28 c4_33
def c4_26 : ACode := .loop c4_27
def c4_25 : ACode := .block 0 c4_26
def c4_24 : ACode := .reg [{ dst := some 5, op := AOp.mv (Opd.c (AV.int (IntKind.i64) 0)), grd := none }]
def c4_23 : ACode := .seq c4_24 c4_25
def c4_22 : ACode := .seq c4_23 c4_111
def c4_21 : ACode := .reg [{ dst := some 4, op := AOp.mv (Opd.c (AV.nilSlc)), grd := none }]
def c4_20 : ACode := .seq c4_21 c4_22
def c4_19 : ACode := .skip
def c4_18 : ACode := .ret
def c4_17 : ACode := .reg [{ dst := some 2, op := AOp.mv (Opd.c (AV.bool false)), grd := none }]
def c4_16 : ACode := .seq c4_17 c4_18
def c4_15 : ACode := .cond (.t 18) c4_16 c4_19
def c4_14 : ACode := .reg [{ dst := some 17, op := AOp.mv (Opd.t 3), grd := none }, { dst := some 18, op := AOp.eq false (EqK.ptr) (Opd.t 17) (Opd.c (AV.nilPtr)), grd := none }]
def c4_13 : ACode := .seq c4_14 c4_15
def c4_12 : ACode := .seq c4_13 c4_20
def c4_11 : ACode := .reg [{ dst := some 16, op := AOp.call (Opd.c (AV.fn (AFn.func 8) [] [])) [], grd := none }, { dst := some 3, op := AOp.mv (Opd.t 16), grd := none }]
def c4_10 : ACode := .seq c4_11 c4_12
def c4_9 : ACode := .skip
def c4_8 : ACode := .ret
def c4_7 : ACode := .reg [{ dst := some 15, op := AOp.call (Opd.c (AV.fn (AFn.func 7) [] [])) [], grd := none }, { dst := some 2, op := AOp.mv (Opd.t 15), grd := none }]
def c4_6 : ACode := .seq c4_7 c4_8
def c4_5 : ACode := .cond (.t 14) c4_6 c4_9
def c4_4 : ACode := .reg [{ dst := some 12, op := AOp.load true 1 (Opd.t 1), grd := none }, { dst := some 13, op := AOp.call (Opd.c (AV.fn (AFn.func 6) [] [])) [Opd.t 12], grd := none }, { dst := some 14, op := AOp.not (Opd.t 13), grd := none }]
def c4_3 : ACode := .seq c4_4 c4_5
def c4_2 : ACode := .seq c4_3 c4_10
def c4_1 : ACode := .reg [{ dst := some 1, op := AOp.box 1 (Opd.t 0), grd := none }, { dst := some 2, op := AOp.mv (Opd.c (AV.bool false)), grd := none }]
def c4_0 : ACode := .seq c4_1 c4_2
def A4 : AFun := { np := 1, res := [(2, none)], body := c4_0 }

def c6_36 : ACode := .ret
def c6_35 : ACode := .reg [{ dst := some 54, op := AOp.mv (Opd.t 3), grd := none }, { dst := some 55, op := AOp.bin (BinOp.leq) (Opd.t 54) (Opd.c (AV.int (IntKind.i64) 1500)), grd := none }, { dst := some 2, op := AOp.mv (Opd.t 55), grd := none }]
def c6_34 : ACode := .seq c6_35 c6_36
def c6_33 : ACode := .reg [{ dst := some 15, op := AOp.mv (Opd.t 4), grd := none }, { dst := some 16, op := AOp.bin (BinOp.add) (Opd.t 15) (Opd.c (AV.int (IntKind.i64) 1)), grd := none }, { dst := some 4, op := AOp.mv (Opd.t 16), grd := none }]
def c6_32 : ACode := .reg [{ dst := some 37, op := AOp.mv (Opd.t 5), grd := none }, { dst := some 38, op := AOp.bin (BinOp.add) (Opd.t 37) (Opd.c (AV.int (IntKind.i64) 1)), grd := none }, { dst := some 5, op := AOp.mv (Opd.t 38), grd := none }]
def c6_31 : ACode := .reg [{ dst := some 39, op := AOp.mv (Opd.t 3), grd := none }, { dst := some 40, op := AOp.bin (BinOp.add) (Opd.t 39) (Opd.c (AV.int (IntKind.i64) 1)), grd := none }, { dst := some 41, op := AOp.fadr 0 (Opd.t 1), grd := none }, { dst := some 42, op := AOp.load false 1 (Opd.t 41), grd := none }, { dst := some 43, op := AOp.mv (Opd.t 4), grd := none }, { dst := some 44, op := AOp.iadr 7 (Opd.t 42) (Opd.t 43), grd := none }, { dst := some 45, op := AOp.fadr 3 (Opd.t 44), grd := none }, { dst := some 46, op := AOp.fadr 1 (Opd.t 45), grd := none }, { dst := some 47, op := AOp.load false 1 (Opd.t 46), grd := none }, { dst := some 48, op := AOp.mv (Opd.t 5), grd := none }, { dst := some 49, op := AOp.iadr 3 (Opd.t 47) (Opd.t 48), grd := none }, { dst := some 50, op := AOp.fadr 2 (Opd.t 49), grd := none }, { dst := some 51, op := AOp.load false 1 (Opd.t 50), grd := none }, { dst := some 52, op := AOp.call (Opd.c (AV.fn (AFn.func 32) [] [])) [Opd.t 51], grd := none }, { dst := some 53, op := AOp.bin (BinOp.add) (Opd.t 40) (Opd.t 52), grd := none }, { dst := some 3, op := AOp.mv (Opd.t 53), grd := none }]
def c6_30 : ACode := .block 3 c6_31
def c6_29 : ACode := .seq c6_30 c6_32
def c6_28 : ACode := .exit 2
def c6_27 : ACode := .skip
def c6_26 : ACode := .cond (.t 36) c6_27 c6_28
def c6_25 : ACode := .reg [{ dst := some 27, op := AOp.mv (Opd.t 5), grd := none }, { dst := some 28, op := AOp.fadr 0 (Opd.t 1), grd := none }, { dst := some 29, op := AOp.load false 1 (Opd.t 28), grd := none }, { dst := some 30, op := AOp.mv (Opd.t 4), grd := none }, { dst := some 31, op := AOp.iadr 7 (Opd.t 29) (Opd.t 30), grd := none }, { dst := some 32, op := AOp.fadr 3 (Opd.t 31), grd := none }, { dst := some 33, op := AOp.fadr 1 (Opd.t 32), grd := none }, { dst := some 34, op := AOp.load false 1 (Opd.t 33), grd := none }, { dst := some 35, op := AOp.len 1 (Opd.t 34), grd := none }, { dst := some 36, op := AOp.bin (BinOp.lss) (Opd.t 27) (Opd.t 35), grd := none }]
def c6_24 : ACode := .seq c6_25 c6_26
def c6_23 : ACode := .seq c6_24 c6_29
def c6_22 : ACode := .loop c6_23
def c6_21 : ACode := .block 2 c6_22
def c6_20 : ACode := .reg [{ dst := some 5, op := AOp.mv (Opd.c (AV.int (IntKind.i64) 0)), grd := none }]
def c6_19 : ACode := .seq c6_20 c6_21
def c6_18 : ACode := .reg [{ dst := some 17, op := AOp.mv (Opd.t 3), grd := none }, { dst := some 18, op := AOp.bin (BinOp.add) (Opd.t 17) (Opd.c (AV.int (IntKind.i64) 1)), grd := none }, { dst := some 19, op := AOp.fadr 0 (Opd.t 1), grd := none }, { dst := some 20, op := AOp.load false 1 (Opd.t 19), grd := none }, { dst := some 21, op := AOp.mv (Opd.t 4), grd := none }, { dst := some 22, op := AOp.iadr 7 (Opd.t 20) (Opd.t 21), grd := none }, { dst := some 23, op := AOp.fadr 2 (Opd.t 22), grd := none }, { dst := some 24, op := AOp.load false 1 (Opd.t 23), grd := none }, { dst := some 25, op := AOp.call (Opd.c (AV.fn (AFn.func 32) [] [])) [Opd.t 24], grd := none }, { dst := some 26, op := AOp.bin (BinOp.add) (Opd.t 18) (Opd.t 25), grd := none }, { dst := some 3, op := AOp.mv (Opd.t 26), grd := none }]
def c6_17 : ACode := .seq c6_18 c6_19
def c6_16 : ACode := .block 1 c6_17
def c6_15 : ACode := .seq c6_16 c6_33
def c6_14 : ACode := .exit 0
def c6_13 : ACode := .skip
def c6_12 : ACode := .cond (.t 14) c6_13 c6_14
def c6_11 : ACode := .reg [{ dst := some 6, op := AOp.mv (Opd.t 4), grd := none }, { dst := some 7, op := AOp.fadr 0 (Opd.t 1), grd := none }, { dst := some 8, op := AOp.load false 1 (Opd.t 7), grd := none }, { dst := some 9, op := AOp.len 1 (Opd.t 8), grd := none }, { dst := some 10, op := AOp.bin (BinOp.lss) (Opd.t 6) (Opd.t 9), grd := none }, { dst := some 11, op := AOp.mv (Opd.t 10), grd := none }, { dst := some 12, op := AOp.mv (Opd.t 4), grd := some (11, true) }, { dst := some 13, op := AOp.bin (BinOp.lss) (Opd.t 12) (Opd.c (AV.int (IntKind.i64) 60)), grd := some (11, true) }, { dst := some 14, op := AOp.pick (Opd.t 11) (Opd.t 13) (Opd.c (AV.bool false)), grd := none }]
def c6_10 : ACode := .seq c6_11 c6_12
def c6_9 : ACode := .seq c6_10 c6_15
def c6_8 : ACode := .loop c6_9
def c6_7 : ACode := .block 0 c6_8
def c6_6 : ACode := .reg [{ dst := some 4, op := AOp.mv (Opd.c (AV.int (IntKind.i64) 0)), grd := none }]
def c6_5 : ACode := .seq c6_6 c6_7
def c6_4 : ACode := .seq c6_5 c6_34
def c6_3 : ACode := .reg [{ dst := some 3, op := AOp.mv (Opd.c (AV.int (IntKind.i64) 0)), grd := none }]
def c6_2 : ACode := .seq c6_3 c6_4
def c6_1 : ACode := .reg [{ dst := some 1, op := AOp.box 1 (Opd.t 0), grd := none }, { dst := some 2, op := AOp.mv (Opd.c (AV.bool false)), grd := none }]
def c6_0 : ACode := .seq c6_1 c6_2
def A6 : AFun := { np := 1, res := [(2, none)], body := c6_0 }

def c8_4 : ACode := .ret
def c8_3 : ACode := .reg [{ dst := some 1, op := AOp.mkmap, grd := none }, { dst := some 2, op := AOp.mkmap, grd := none }, { dst := some 3, op := AOp.build [AV.nilMap, AV.nilMap, AV.int (IntKind.i64) 0, AV.int (IntKind.i64) 0] [(0, 1, Opd.t 1), (1, 1, Opd.t 2)], grd := none }, { dst := some 4, op := AOp.box 4 (Opd.t 3), grd := none }, { dst := some 0, op := AOp.mv (Opd.t 4), grd := none }]
def c8_2 : ACode := .seq c8_3 c8_4
def c8_1 : ACode := .reg [{ dst := some 0, op := AOp.mv (Opd.c (AV.nilPtr)), grd := none }]
def c8_0 : ACode := .seq c8_1 c8_2
def A8 : AFun := { np := 0, res := [(0, none)], body := c8_0 }

def c10_42 : ACode := .ret
def c10_41 : ACode := .reg [{ dst := some 6, op := AOp.mv (Opd.c (AV.int (IntKind.i64) 0)), grd := none }]
def c10_40 : ACode := .seq c10_41 c10_42
def c10_39 : ACode := .dreg [{ dst := some 125, op := AOp.mv (Opd.t 0), grd := none }, { dst := some 126, op := AOp.nilck (Opd.t 125), grd := none }, { dst := some 127, op := AOp.fadr 1 (Opd.t 126), grd := none }, { dst := some 128, op := AOp.load false 1 (Opd.t 127), grd := none }, { dst := some 129, op := AOp.load true 2 (Opd.t 8), grd := none }, { dst := some 130, op := AOp.look (KK.st [K0.int, K0.str]) false (AV.nilPtr) (Opd.t 128) (Opd.t 129), grd := none }, { dst := some 131, op := AOp.nilck (Opd.t 130), grd := none }, { dst := some 132, op := AOp.fadr 4 (Opd.t 131), grd := none }, { dst := some 133, op := AOp.load false 1 (Opd.t 132), grd := none }, { dst := some 134, op := AOp.load true 2 (Opd.t 7), grd := none }, { dst := some 135, op := AOp.build [] [], grd := none }] [({ dst := none, op := AOp.mupd (KK.st [K0.str, K0.str]) (Opd.t 133) (Opd.t 134) (Opd.t 135), grd := none }, [], [])]
def c10_38 : ACode := .seq c10_39 c10_40
def c10_37 : ACode := .dreg [{ dst := some 114, op := AOp.mv (Opd.t 0), grd := none }, { dst := some 115, op := AOp.nilck (Opd.t 114), grd := none }, { dst := some 116, op := AOp.fadr 0 (Opd.t 115), grd := none }, { dst := some 117, op := AOp.load false 1 (Opd.t 116), grd := none }, { dst := some 118, op := AOp.load true 2 (Opd.t 7), grd := none }, { dst := some 119, op := AOp.look (KK.st [K0.str, K0.str]) false (AV.nilPtr) (Opd.t 117) (Opd.t 118), grd := none }, { dst := some 120, op := AOp.nilck (Opd.t 119), grd := none }, { dst := some 121, op := AOp.fadr 3 (Opd.t 120), grd := none }, { dst := some 122, op := AOp.load false 1 (Opd.t 121), grd := none }, { dst := some 123, op := AOp.load true 2 (Opd.t 8), grd := none }, { dst := some 124, op := AOp.build [] [], grd := none }] [({ dst := none, op := AOp.mupd (KK.st [K0.int, K0.str]) (Opd.t 122) (Opd.t 123) (Opd.t 124), grd := none }, [], [])]
def c10_36 : ACode := .seq c10_37 c10_38
def c10_35 : ACode := .skip
def c10_34 : ACode := .reg [{ dst := some 107, op := AOp.mv (Opd.t 0), grd := none }, { dst := some 108, op := AOp.nilck (Opd.t 107), grd := none }, { dst := some 109, op := AOp.fadr 3 (Opd.t 108), grd := none }, { dst := some 110, op := AOp.load false 1 (Opd.t 109), grd := none }, { dst := some 111, op := AOp.bin (BinOp.add) (Opd.t 110) (Opd.c (AV.int (IntKind.i64) 1)), grd := none }, { dst := some 112, op := AOp.nilck (Opd.t 107), grd := none }, { dst := some 113, op := AOp.fadr 3 (Opd.t 112), grd := none }, { dst := none, op := AOp.store 1 (Opd.t 113) (Opd.t 111), grd := none }]
def c10_33 : ACode := .cond (.t 106) c10_34 c10_35
def c10_32 : ACode := .reg [{ dst := some 105, op := AOp.mv (Opd.t 10), grd := none }, { dst := some 106, op := AOp.not (Opd.t 105), grd := none }]
def c10_31 : ACode := .seq c10_32 c10_33
set_option maxRecDepth 100000 in
def c10_30 : ACode := .dreg [{ dst := some 92, op := AOp.mv (Opd.t 0), grd := none }, { dst := some 93, op := AOp.nilck (Opd.t 92), grd := none }, { dst := some 94, op := AOp.fadr 0 (Opd.t 93), grd := none }, { dst := some 95, op := AOp.load false 1 (Opd.t 94), grd := none }, { dst := some 96, op := AOp.load true 2 (Opd.t 7), grd := none }, { dst := some 97, op := AOp.look (KK.st [K0.str, K0.str]) false (AV.nilPtr) (Opd.t 95) (Opd.t 96), grd := none }, { dst := some 98, op := AOp.nilck (Opd.t 97), grd := none }, { dst := some 99, op := AOp.fadr 3 (Opd.t 98), grd := none }, { dst := some 100, op := AOp.load false 1 (Opd.t 99), grd := none }, { dst := some 101, op := AOp.load true 2 (Opd.t 8), grd := none }, { dst := some 102, op := AOp.look (KK.st [K0.int, K0.str]) true (AV.agg []) (Opd.t 100) (Opd.t 101), grd := none }, { dst := some 91, op := AOp.mv (Opd.t 102), grd := none }, { dst := some 103, op := AOp.ext (Opd.t 91) 0, grd := none }, { dst := some 104, op := AOp.ext (Opd.t 91) 1, grd := none }] [({ dst := some 9, op := AOp.alloc [], grd := none }, [{ dst := some 95, op := AOp.load false 1 (Opd.t 94), grd := none }, { dst := some 96, op := AOp.load true 2 (Opd.t 7), grd := none }, { dst := some 97, op := AOp.look (KK.st [K0.str, K0.str]) false (AV.nilPtr) (Opd.t 95) (Opd.t 96), grd := none }, { dst := some 100, op := AOp.load false 1 (Opd.t 99), grd := none }, { dst := some 101, op := AOp.load true 2 (Opd.t 8), grd := none }, { dst := some 102, op := AOp.look (KK.st [K0.int, K0.str]) true (AV.agg []) (Opd.t 100) (Opd.t 101), grd := none }], []), ({ dst := none, op := AOp.store 0 (Opd.t 9) (Opd.t 103), grd := none }, [], [{ dst := some 10, op := AOp.mv (Opd.t 104), grd := none }])]
def c10_29 : ACode := .seq c10_30 c10_31
def c10_28 : ACode := .seq c10_29 c10_36
def c10_27 : ACode := .skip
set_option maxRecDepth 100000 in
def c10_26 : ACode := .dreg [{ dst := some 77, op := AOp.mv (Opd.t 0), grd := none }, { dst := some 78, op := AOp.nilck (Opd.t 77), grd := none }, { dst := some 79, op := AOp.fadr 1 (Opd.t 78), grd := none }, { dst := some 80, op := AOp.load false 1 (Opd.t 79), grd := none }, { dst := some 81, op := AOp.load true 2 (Opd.t 8), grd := none }, { dst := some 82, op := AOp.load true 3 (Opd.t 5), grd := none }, { dst := some 84, op := AOp.mv (Opd.t 0), grd := none }, { dst := some 85, op := AOp.nilck (Opd.t 84), grd := none }, { dst := some 86, op := AOp.fadr 2 (Opd.t 85), grd := none }, { dst := some 87, op := AOp.load false 1 (Opd.t 86), grd := none }] [({ dst := some 88, op := AOp.mkmap, grd := none }, [{ dst := some 80, op := AOp.load false 1 (Opd.t 79), grd := none }, { dst := some 81, op := AOp.load true 2 (Opd.t 8), grd := none }, { dst := some 82, op := AOp.load true 3 (Opd.t 5), grd := none }, { dst := some 87, op := AOp.load false 1 (Opd.t 86), grd := none }], []), ({ dst := some 83, op := AOp.call (Opd.c (AV.fn (AFn.func 41) [] [])) [Opd.t 82], grd := none }, [{ dst := some 80, op := AOp.load false 1 (Opd.t 79), grd := none }, { dst := some 81, op := AOp.load true 2 (Opd.t 8), grd := none }, { dst := some 87, op := AOp.load false 1 (Opd.t 86), grd := none }], [{ dst := some 89, op := AOp.build [AV.int (IntKind.i64) 0, AV.nilSlc, AV.nilSlc, AV.int (IntKind.i64) 0, AV.nilMap] [(0, 3, Opd.t 83), (3, 1, Opd.t 87), (4, 1, Opd.t 88)], grd := none }]), ({ dst := some 90, op := AOp.box 5 (Opd.t 89), grd := none }, [{ dst := some 80, op := AOp.load false 1 (Opd.t 79), grd := none }, { dst := some 81, op := AOp.load true 2 (Opd.t 8), grd := none }, { dst := some 82, op := AOp.load true 3 (Opd.t 5), grd := none }, { dst := some 87, op := AOp.load false 1 (Opd.t 86), grd := none }], []), ({ dst := none, op := AOp.mupd (KK.st [K0.int, K0.str]) (Opd.t 80) (Opd.t 81) (Opd.t 90), grd := none }, [], [])]
def c10_25 : ACode := .reg [{ dst := some 70, op := AOp.mv (Opd.t 0), grd := none }, { dst := some 71, op := AOp.nilck (Opd.t 70), grd := none }, { dst := some 72, op := AOp.fadr 2 (Opd.t 71), grd := none }, { dst := some 73, op := AOp.load false 1 (Opd.t 72), grd := none }, { dst := some 74, op := AOp.bin (BinOp.add) (Opd.t 73) (Opd.c (AV.int (IntKind.i64) 1)), grd := none }, { dst := some 75, op := AOp.nilck (Opd.t 70), grd := none }, { dst := some 76, op := AOp.fadr 2 (Opd.t 75), grd := none }, { dst := none, op := AOp.store 1 (Opd.t 76) (Opd.t 74), grd := none }]
def c10_24 : ACode := .seq c10_25 c10_26
def c10_23 : ACode := .cond (.t 69) c10_24 c10_27
def c10_22 : ACode := .dreg [{ dst := some 63, op := AOp.mv (Opd.t 0), grd := none }, { dst := some 64, op := AOp.nilck (Opd.t 63), grd := none }, { dst := some 65, op := AOp.fadr 1 (Opd.t 64), grd := none }, { dst := some 66, op := AOp.load false 1 (Opd.t 65), grd := none }, { dst := some 67, op := AOp.load true 2 (Opd.t 8), grd := none }, { dst := some 68, op := AOp.look (KK.st [K0.int, K0.str]) false (AV.nilPtr) (Opd.t 66) (Opd.t 67), grd := none }, { dst := some 69, op := AOp.eq false (EqK.ptr) (Opd.t 68) (Opd.c (AV.nilPtr)), grd := none }] []
def c10_21 : ACode := .seq c10_22 c10_23
def c10_20 : ACode := .seq c10_21 c10_28
def c10_19 : ACode := .skip
set_option maxRecDepth 100000 in
def c10_18 : ACode := .dreg [{ dst := some 45, op := AOp.mv (Opd.t 0), grd := none }, { dst := some 46, op := AOp.nilck (Opd.t 45), grd := none }, { dst := some 47, op := AOp.fadr 0 (Opd.t 46), grd := none }, { dst := some 48, op := AOp.load false 1 (Opd.t 47), grd := none }, { dst := some 49, op := AOp.load true 2 (Opd.t 7), grd := none }, { dst := some 50, op := AOp.fadr 0 (Opd.t 4), grd := none }, { dst := some 51, op := AOp.load false 1 (Opd.t 50), grd := none }, { dst := some 52, op := AOp.fadr 1 (Opd.t 4), grd := none }, { dst := some 53, op := AOp.load false 1 (Opd.t 52), grd := none }, { dst := some 56, op := AOp.mv (Opd.t 0), grd := none }, { dst := some 57, op := AOp.nilck (Opd.t 56), grd := none }, { dst := some 58, op := AOp.fadr 2 (Opd.t 57), grd := none }, { dst := some 59, op := AOp.load false 1 (Opd.t 58), grd := none }] [({ dst := some 60, op := AOp.mkmap, grd := none }, [{ dst := some 48, op := AOp.load false 1 (Opd.t 47), grd := none }, { dst := some 49, op := AOp.load true 2 (Opd.t 7), grd := none }, { dst := some 51, op := AOp.load false 1 (Opd.t 50), grd := none }, { dst := some 53, op := AOp.load false 1 (Opd.t 52), grd := none }, { dst := some 59, op := AOp.load false 1 (Opd.t 58), grd := none }], []), ({ dst := some 54, op := AOp.call (Opd.c (AV.fn (AFn.func 40) [] [])) [Opd.t 53], grd := none }, [{ dst := some 48, op := AOp.load false 1 (Opd.t 47), grd := none }, { dst := some 49, op := AOp.load true 2 (Opd.t 7), grd := none }, { dst := some 51, op := AOp.load false 1 (Opd.t 50), grd := none }, { dst := some 59, op := AOp.load false 1 (Opd.t 58), grd := none }], [{ dst := some 55, op := AOp.build [AV.str [], AV.nilSlc] [(0, 1, Opd.t 51), (1, 1, Opd.t 54)], grd := none }, { dst := some 61, op := AOp.build [AV.str [], AV.nilSlc, AV.int (IntKind.i64) 0, AV.nilMap] [(0, 2, Opd.t 55), (2, 1, Opd.t 59), (3, 1, Opd.t 60)], grd := none }]), ({ dst := some 62, op := AOp.box 4 (Opd.t 61), grd := none }, [{ dst := some 48, op := AOp.load false 1 (Opd.t 47), grd := none }, { dst := some 49, op := AOp.load true 2 (Opd.t 7), grd := none }, { dst := some 51, op := AOp.load false 1 (Opd.t 50), grd := none }, { dst := some 53, op := AOp.load false 1 (Opd.t 52), grd := none }, { dst := some 59, op := AOp.load false 1 (Opd.t 58), grd := none }], []), ({ dst := none, op := AOp.mupd (KK.st [K0.str, K0.str]) (Opd.t 48) (Opd.t 49) (Opd.t 62), grd := none }, [], [])]
def c10_17 : ACode := .reg [{ dst := some 38, op := AOp.mv (Opd.t 0), grd := none }, { dst := some 39, op := AOp.nilck (Opd.t 38), grd := none }, { dst := some 40, op := AOp.fadr 2 (Opd.t 39), grd := none }, { dst := some 41, op := AOp.load false 1 (Opd.t 40), grd := none }, { dst := some 42, op := AOp.bin (BinOp.add) (Opd.t 41) (Opd.c (AV.int (IntKind.i64) 1)), grd := none }, { dst := some 43, op := AOp.nilck (Opd.t 38), grd := none }, { dst := some 44, op := AOp.fadr 2 (Opd.t 43), grd := none }, { dst := none, op := AOp.store 1 (Opd.t 44) (Opd.t 42), grd := none }]
def c10_16 : ACode := .seq c10_17 c10_18
def c10_15 : ACode := .cond (.t 37) c10_16 c10_19
def c10_14 : ACode := .dreg [{ dst := some 31, op := AOp.mv (Opd.t 0), grd := none }, { dst := some 32, op := AOp.nilck (Opd.t 31), grd := none }, { dst := some 33, op := AOp.fadr 0 (Opd.t 32), grd := none }, { dst := some 34, op := AOp.load false 1 (Opd.t 33), grd := none }, { dst := some 35, op := AOp.load true 2 (Opd.t 7), grd := none }, { dst := some 36, op := AOp.look (KK.st [K0.str, K0.str]) false (AV.nilPtr) (Opd.t 34) (Opd.t 35), grd := none }, { dst := some 37, op := AOp.eq false (EqK.ptr) (Opd.t 36) (Opd.c (AV.nilPtr)), grd := none }] []
def c10_13 : ACode := .seq c10_14 c10_15
def c10_12 : ACode := .seq c10_13 c10_20
set_option maxRecDepth 100000 in
def c10_11 : ACode := .dreg [{ dst := some 24, op := AOp.load true 2 (Opd.t 4), grd := none }, { dst := some 26, op := AOp.fadr 0 (Opd.t 5), grd := none }, { dst := some 27, op := AOp.load false 1 (Opd.t 26), grd := none }, { dst := some 28, op := AOp.load true 3 (Opd.t 5), grd := none }] [({ dst := some 7, op := AOp.alloc [AV.str [], AV.str []], grd := none }, [{ dst := some 24, op := AOp.load true 2 (Opd.t 4), grd := none }, { dst := some 27, op := AOp.load false 1 (Opd.t 26), grd := none }, { dst := some 28, op := AOp.load true 3 (Opd.t 5), grd := none }], []), ({ dst := some 8, op := AOp.alloc [AV.int (IntKind.i64) 0, AV.str []], grd := none }, [{ dst := some 24, op := AOp.load true 2 (Opd.t 4), grd := none }, { dst := some 27, op := AOp.load false 1 (Opd.t 26), grd := none }, { dst := some 28, op := AOp.load true 3 (Opd.t 5), grd := none }], []), ({ dst := some 25, op := AOp.call (Opd.c (AV.fn (AFn.func 38) [] [])) [Opd.t 24], grd := none }, [{ dst := some 27, op := AOp.load false 1 (Opd.t 26), grd := none }, { dst := some 28, op := AOp.load true 3 (Opd.t 5), grd := none }], []), ({ dst := some 29, op := AOp.call (Opd.c (AV.fn (AFn.func 39) [] [])) [Opd.t 28], grd := none }, [{ dst := some 27, op := AOp.load false 1 (Opd.t 26), grd := none }], [{ dst := some 30, op := AOp.build [AV.int (IntKind.i64) 0, AV.str []] [(0, 1, Opd.t 27), (1, 1, Opd.t 29)], grd := none }]), ({ dst := none, op := AOp.store 2 (Opd.t 7) (Opd.t 25), grd := none }, [{ dst := some 27, op := AOp.load false 1 (Opd.t 26), grd := none }], []), ({ dst := none, op := AOp.store 2 (Opd.t 8) (Opd.t 30), grd := none }, [], [])]
def c10_10 : ACode := .seq c10_11 c10_12
def c10_9 : ACode := .skip
def c10_8 : ACode := .ret
def c10_7 : ACode := .reg [{ dst := some 6, op := AOp.mv (Opd.c (AV.int (IntKind.i64) 1)), grd := none }]
def c10_6 : ACode := .seq c10_7 c10_8
def c10_5 : ACode := .cond (.t 23) c10_6 c10_9
def c10_4 : ACode := .reg [{ dst := some 11, op := AOp.fadr 0 (Opd.t 4), grd := none }, { dst := some 12, op := AOp.load false 1 (Opd.t 11), grd := none }, { dst := some 13, op := AOp.bin (BinOp.eql) (Opd.t 12) (Opd.c (AV.str [])), grd := none }, { dst := some 14, op := AOp.mv (Opd.t 13), grd := none }, { dst := some 15, op := AOp.fadr 1 (Opd.t 4), grd := some (14, false) }, { dst := some 16, op := AOp.load false 1 (Opd.t 15), grd := some (14, false) }, { dst := some 17, op := AOp.call (Opd.c (AV.fn (AFn.func 35) [] [])) [Opd.t 16], grd := some (14, false) }, { dst := some 18, op := AOp.pick (Opd.t 14) (Opd.c (AV.bool true)) (Opd.t 17), grd := none }, { dst := some 19, op := AOp.mv (Opd.t 18), grd := none }, { dst := some 20, op := AOp.fadr 1 (Opd.t 5), grd := some (19, false) }, { dst := some 21, op := AOp.load false 1 (Opd.t 20), grd := some (19, false) }, { dst := some 22, op := AOp.call (Opd.c (AV.fn (AFn.func 36) [] [])) [Opd.t 21, Opd.c (AV.fn (AFn.func 37) [] [])], grd := some (19, false) }, { dst := some 23, op := AOp.pick (Opd.t 19) (Opd.c (AV.bool true)) (Opd.t 22), grd := none }]
def c10_3 : ACode := .seq c10_4 c10_5
def c10_2 : ACode := .seq c10_3 c10_10
def c10_1 : ACode := .reg [{ dst := some 4, op := AOp.box 2 (Opd.t 1), grd := none }, { dst := some 5, op := AOp.box 3 (Opd.t 2), grd := none }, { dst := some 6, op := AOp.mv (Opd.c (AV.int (IntKind.i64) 0)), grd := none }]
def c10_0 : ACode := .seq c10_1 c10_2
def A10 : AFun := { np := 3, res := [(6, none)], body := c10_0 }

def c19_31 : ACode := .ret
def c19_30 : ACode := .reg [{ dst := some 41, op := AOp.mv (Opd.t 6), grd := none }, { dst := some 4, op := AOp.mv (Opd.t 41), grd := none }]
def c19_29 : ACode := .seq c19_30 c19_31
def c19_28 : ACode := .dreg [{ dst := some 36, op := AOp.mv (Opd.t 0), grd := none }, { dst := some 37, op := AOp.load true 2 (Opd.t 3), grd := none }, { dst := some 39, op := AOp.load true 2 (Opd.t 7), grd := none }] [({ dst := some 38, op := AOp.call (Opd.c (AV.fn (AFn.func 38) [] [])) [Opd.t 37], grd := none }, [{ dst := some 39, op := AOp.load true 2 (Opd.t 7), grd := none }], []), ({ dst := some 40, op := AOp.call (Opd.c (AV.fn (AFn.func 48) [] [])) [Opd.t 36, Opd.t 38, Opd.t 39], grd := none }, [], [])]
def c19_27 : ACode := .reg [{ dst := some 34, op := AOp.ent (Opd.t 31), grd := none }, { dst := some 35, op := AOp.ext (Opd.t 34) 0, grd := none }, { dst := some 7, op := AOp.alloc [AV.int (IntKind.i64) 0, AV.str []], grd := none }, { dst := none, op := AOp.store 2 (Opd.t 7) (Opd.t 35), grd := none }]
def c19_26 : ACode := .seq c19_27 c19_28
def c19_25 : ACode := .block 1 c19_26
def c19_24 : ACode := .exit 0
def c19_23 : ACode := .skip
def c19_22 : ACode := .cond (.t 33) c19_23 c19_24
def c19_21 : ACode := .seq c19_22 c19_25
def c19_20 : ACode := .reg [{ dst := some 32, op := AOp.nxt (Opd.t 31), grd := none }, { dst := some 33, op := AOp.ext (Opd.t 32) 0, grd := none }]
def c19_19 : ACode := .seq c19_20 c19_21
def c19_18 : ACode := .loop c19_19
def c19_17 : ACode := .block 0 c19_18
def c19_16 : ACode := .reg [{ dst := some 27, op := AOp.mv (Opd.t 5), grd := none }, { dst := some 28, op := AOp.nilck (Opd.t 27), grd := none }, { dst := some 29, op := AOp.fadr 3 (Opd.t 28), grd := none }, { dst := some 30, op := AOp.load false 1 (Opd.t 29), grd := none }, { dst := some 31, op := AOp.rng (Opd.t 30), grd := none }]
def c19_15 : ACode := .seq c19_16 c19_17
def c19_14 : ACode := .seq c19_15 c19_29
def c19_13 : ACode := .reg [{ dst := some 22, op := AOp.mv (Opd.t 5), grd := none }, { dst := some 23, op := AOp.nilck (Opd.t 22), grd := none }, { dst := some 24, op := AOp.fadr 3 (Opd.t 23), grd := none }, { dst := some 25, op := AOp.load false 1 (Opd.t 24), grd := none }, { dst := some 26, op := AOp.len 2 (Opd.t 25), grd := none }, { dst := some 6, op := AOp.mv (Opd.t 26), grd := none }]
def c19_12 : ACode := .seq c19_13 c19_14
def c19_11 : ACode := .skip
def c19_10 : ACode := .ret
def c19_9 : ACode := .reg [{ dst := some 4, op := AOp.mv (Opd.c (AV.int (IntKind.i64) 0)), grd := none }]
def c19_8 : ACode := .seq c19_9 c19_10
def c19_7 : ACode := .cond (.t 21) c19_8 c19_11
def c19_6 : ACode := .reg [{ dst := some 15, op := AOp.mv (Opd.t 5), grd := none }, { dst := some 16, op := AOp.eq false (EqK.ptr) (Opd.t 15) (Opd.c (AV.nilPtr)), grd := none }, { dst := some 17, op := AOp.mv (Opd.t 16), grd := none }, { dst := some 18, op := AOp.fadr 1 (Opd.t 3), grd := some (17, false) }, { dst := some 19, op := AOp.load false 1 (Opd.t 18), grd := some (17, false) }, { dst := some 20, op := AOp.call (Opd.c (AV.fn (AFn.func 35) [] [])) [Opd.t 19], grd := some (17, false) }, { dst := some 21, op := AOp.pick (Opd.t 17) (Opd.c (AV.bool true)) (Opd.t 20), grd := none }]
def c19_5 : ACode := .seq c19_6 c19_7
def c19_4 : ACode := .seq c19_5 c19_12
def c19_3 : ACode := .dreg [{ dst := some 8, op := AOp.mv (Opd.t 0), grd := none }, { dst := some 9, op := AOp.nilck (Opd.t 8), grd := none }, { dst := some 10, op := AOp.fadr 0 (Opd.t 9), grd := none }, { dst := some 11, op := AOp.load false 1 (Opd.t 10), grd := none }, { dst := some 12, op := AOp.load true 2 (Opd.t 3), grd := none }] [({ dst := some 13, op := AOp.call (Opd.c (AV.fn (AFn.func 38) [] [])) [Opd.t 12], grd := none }, [{ dst := some 11, op := AOp.load false 1 (Opd.t 10), grd := none }], [{ dst := some 14, op := AOp.look (KK.st [K0.str, K0.str]) false (AV.nilPtr) (Opd.t 11) (Opd.t 13), grd := none }, { dst := some 5, op := AOp.mv (Opd.t 14), grd := none }])]
def c19_2 : ACode := .seq c19_3 c19_4
def c19_1 : ACode := .reg [{ dst := some 3, op := AOp.box 2 (Opd.t 1), grd := none }, { dst := some 4, op := AOp.mv (Opd.c (AV.int (IntKind.i64) 0)), grd := none }]
def c19_0 : ACode := .seq c19_1 c19_2
def A19 : AFun := { np := 2, res := [(4, none)], body := c19_0 }

def c21_42 : ACode := .ret
def c21_41 : ACode := .reg [{ dst := some 46, op := AOp.mv (Opd.t 6), grd := none }, { dst := some 2, op := AOp.mv (Opd.t 46), grd := none }]
def c21_40 : ACode := .seq c21_41 c21_42
def c21_39 : ACode := .reg [{ dst := some 45, op := AOp.bin (BinOp.add) (Opd.t 26) (Opd.c (AV.int (IntKind.i64) 1)), grd := none }, { dst := some 26, op := AOp.mv (Opd.t 45), grd := none }]
def c21_38 : ACode := .dreg [{ dst := some 30, op := AOp.mv (Opd.t 6), grd := none }, { dst := some 31, op := AOp.mv (Opd.t 8), grd := none }, { dst := some 32, op := AOp.nilck (Opd.t 31), grd := none }, { dst := some 33, op := AOp.fadr 0 (Opd.t 32), grd := none }, { dst := some 34, op := AOp.fadr 0 (Opd.t 33), grd := none }, { dst := some 35, op := AOp.load false 1 (Opd.t 34), grd := none }, { dst := some 36, op := AOp.mv (Opd.t 8), grd := none }, { dst := some 37, op := AOp.nilck (Opd.t 36), grd := none }, { dst := some 38, op := AOp.fadr 0 (Opd.t 37), grd := none }, { dst := some 39, op := AOp.fadr 1 (Opd.t 38), grd := none }, { dst := some 40, op := AOp.load false 1 (Opd.t 39), grd := none }] [({ dst := some 41, op := AOp.call (Opd.c (AV.fn (AFn.func 40) [] [])) [Opd.t 40], grd := none }, [{ dst := some 35, op := AOp.load false 1 (Opd.t 34), grd := none }], [{ dst := some 42, op := AOp.build [AV.str [], AV.nilSlc] [(0, 1, Opd.t 35), (1, 1, Opd.t 41)], grd := none }]), ({ dst := some 43, op := AOp.bslice 1 2 [AV.str [], AV.nilSlc] [(0, Opd.t 42)], grd := none }, [], []), ({ dst := some 44, op := AOp.app 2 40 (Opd.t 30) (Opd.t 43), grd := none }, [], []), ({ dst := some 6, op := AOp.mv (Opd.t 44), grd := none }, [], [])]
def c21_37 : ACode := .reg [{ dst := some 28, op := AOp.iadr 1 (Opd.t 24) (Opd.t 26), grd := none }, { dst := some 29, op := AOp.load false 1 (Opd.t 28), grd := none }, { dst := some 8, op := AOp.mv (Opd.t 29), grd := none }]
def c21_36 : ACode := .seq c21_37 c21_38
def c21_35 : ACode := .block 3 c21_36
def c21_34 : ACode := .seq c21_35 c21_39
def c21_33 : ACode := .exit 2
def c21_32 : ACode := .skip
def c21_31 : ACode := .cond (.t 27) c21_32 c21_33
def c21_30 : ACode := .seq c21_31 c21_34
def c21_29 : ACode := .reg [{ dst := some 27, op := AOp.bin (BinOp.lss) (Opd.t 26) (Opd.t 25), grd := none }]
def c21_28 : ACode := .seq c21_29 c21_30
def c21_27 : ACode := .loop c21_28
def c21_26 : ACode := .block 2 c21_27
def c21_25 : ACode := .reg [{ dst := some 24, op := AOp.mv (Opd.t 3), grd := none }, { dst := some 25, op := AOp.len 1 (Opd.t 24), grd := none }, { dst := some 26, op := AOp.mv (Opd.c (AV.int (IntKind.i64) 0)), grd := none }]
def c21_24 : ACode := .seq c21_25 c21_26
def c21_23 : ACode := .seq c21_24 c21_40
def c21_22 : ACode := .reg [{ dst := some 6, op := AOp.mv (Opd.c (AV.nilSlc)), grd := none }]
def c21_21 : ACode := .seq c21_22 c21_23
def c21_20 : ACode := .reg [{ dst := some 22, op := AOp.mv (Opd.t 3), grd := none }, { dst := some 23, op := AOp.call (Opd.c (AV.fn (AFn.func 51) [] [])) [Opd.t 22, Opd.c (AV.fn (AFn.func 52) [] [])], grd := none }]
def c21_19 : ACode := .seq c21_20 c21_21
def c21_18 : ACode := .reg [{ dst := some 18, op := AOp.mv (Opd.t 3), grd := none }, { dst := some 19, op := AOp.mv (Opd.t 5), grd := none }, { dst := some 20, op := AOp.bslice 1 1 [AV.nilPtr] [(0, Opd.t 19)], grd := none }, { dst := some 21, op := AOp.app 1 8 (Opd.t 18) (Opd.t 20), grd := none }, { dst := some 3, op := AOp.mv (Opd.t 21), grd := none }]
def c21_17 : ACode := .reg [{ dst := some 16, op := AOp.ent (Opd.t 13), grd := none }, { dst := some 17, op := AOp.ext (Opd.t 16) 1, grd := none }, { dst := some 5, op := AOp.mv (Opd.t 17), grd := none }]
def c21_16 : ACode := .seq c21_17 c21_18
def c21_15 : ACode := .block 1 c21_16
def c21_14 : ACode := .exit 0
def c21_13 : ACode := .skip
def c21_12 : ACode := .cond (.t 15) c21_13 c21_14
def c21_11 : ACode := .seq c21_12 c21_15
def c21_10 : ACode := .reg [{ dst := some 14, op := AOp.nxt (Opd.t 13), grd := none }, { dst := some 15, op := AOp.ext (Opd.t 14) 0, grd := none }]
def c21_9 : ACode := .seq c21_10 c21_11
def c21_8 : ACode := .loop c21_9
def c21_7 : ACode := .block 0 c21_8
def c21_6 : ACode := .reg [{ dst := some 9, op := AOp.mv (Opd.t 0), grd := none }, { dst := some 10, op := AOp.nilck (Opd.t 9), grd := none }, { dst := some 11, op := AOp.fadr 0 (Opd.t 10), grd := none }, { dst := some 12, op := AOp.load false 1 (Opd.t 11), grd := none }, { dst := some 13, op := AOp.rng (Opd.t 12), grd := none }]
def c21_5 : ACode := .seq c21_6 c21_7
def c21_4 : ACode := .seq c21_5 c21_19
def c21_3 : ACode := .reg [{ dst := some 3, op := AOp.mv (Opd.c (AV.nilSlc)), grd := none }]
def c21_2 : ACode := .seq c21_3 c21_4
def c21_1 : ACode := .reg [{ dst := some 2, op := AOp.mv (Opd.c (AV.nilSlc)), grd := none }]
def c21_0 : ACode := .seq c21_1 c21_2
def A21 : AFun := { np := 1, res := [(2, none)], body := c21_0 }

def c28_37 : ACode := .ret
def c28_36 : ACode := .reg [{ dst := some 28, op := AOp.mv (Opd.t 3), grd := none }, { dst := some 2, op := AOp.mv (Opd.t 28), grd := none }]
def c28_35 : ACode := .seq c28_36 c28_37
def c28_34 : ACode := .skip
def c28_33 : ACode := .ret
def c28_32 : ACode := .reg [{ dst := some 26, op := AOp.mv (Opd.t 3), grd := none }, { dst := some 27, op := AOp.bin (BinOp.add) (Opd.c (AV.str [45])) (Opd.t 26), grd := none }, { dst := some 2, op := AOp.mv (Opd.t 27), grd := none }]
def c28_31 : ACode := .seq c28_32 c28_33
def c28_30 : ACode := .cond (.t 25) c28_31 c28_34
def c28_29 : ACode := .reg [{ dst := some 24, op := AOp.mv (Opd.t 0), grd := none }, { dst := some 25, op := AOp.bin (BinOp.lss) (Opd.t 24) (Opd.c (AV.int (IntKind.i64) 0)), grd := none }]
def c28_28 : ACode := .seq c28_29 c28_30
def c28_27 : ACode := .seq c28_28 c28_35
def c28_26 : ACode := .skip
def c28_25 : ACode := .exit 0
def c28_24 : ACode := .cond (.t 23) c28_25 c28_26
def c28_23 : ACode := .reg [{ dst := some 22, op := AOp.mv (Opd.t 4), grd := none }, { dst := some 23, op := AOp.bin (BinOp.eql) (Opd.t 22) (Opd.c (AV.int (IntKind.i64) 0)), grd := none }]
def c28_22 : ACode := .seq c28_23 c28_24
def c28_21 : ACode := .reg [{ dst := some 20, op := AOp.mv (Opd.t 4), grd := none }, { dst := some 21, op := AOp.bin (BinOp.quo) (Opd.t 20) (Opd.c (AV.int (IntKind.i64) 10)), grd := none }, { dst := some 4, op := AOp.mv (Opd.t 21), grd := none }]
def c28_20 : ACode := .seq c28_21 c28_22
def c28_19 : ACode := .reg [{ dst := some 13, op := AOp.mv (Opd.t 5), grd := none }, { dst := some 14, op := AOp.bin (BinOp.add) (Opd.c (AV.int (IntKind.i64) 48)) (Opd.t 13), grd := none }, { dst := some 15, op := AOp.conv (IntKind.u8) (Opd.t 14), grd := none }, { dst := some 16, op := AOp.bslice 1 1 [AV.int (IntKind.u8) 0] [(0, Opd.t 15)], grd := none }, { dst := some 17, op := AOp.b2s (Opd.t 16), grd := none }, { dst := some 18, op := AOp.mv (Opd.t 3), grd := none }, { dst := some 19, op := AOp.bin (BinOp.add) (Opd.t 17) (Opd.t 18), grd := none }, { dst := some 3, op := AOp.mv (Opd.t 19), grd := none }]
def c28_18 : ACode := .seq c28_19 c28_20
def c28_17 : ACode := .skip
def c28_16 : ACode := .reg [{ dst := some 11, op := AOp.mv (Opd.t 5), grd := none }, { dst := some 12, op := AOp.neg (Opd.t 11), grd := none }, { dst := some 5, op := AOp.mv (Opd.t 12), grd := none }]
def c28_15 : ACode := .cond (.t 10) c28_16 c28_17
def c28_14 : ACode := .reg [{ dst := some 9, op := AOp.mv (Opd.t 5), grd := none }, { dst := some 10, op := AOp.bin (BinOp.lss) (Opd.t 9) (Opd.c (AV.int (IntKind.i64) 0)), grd := none }]
def c28_13 : ACode := .seq c28_14 c28_15
def c28_12 : ACode := .seq c28_13 c28_18
def c28_11 : ACode := .reg [{ dst := some 7, op := AOp.mv (Opd.t 4), grd := none }, { dst := some 8, op := AOp.bin (BinOp.rem) (Opd.t 7) (Opd.c (AV.int (IntKind.i64) 10)), grd := none }, { dst := some 5, op := AOp.mv (Opd.t 8), grd := none }]
def c28_10 : ACode := .seq c28_11 c28_12
def c28_9 : ACode := .block 1 c28_10
def c28_8 : ACode := .loop c28_9
def c28_7 : ACode := .block 0 c28_8
def c28_6 : ACode := .seq c28_7 c28_27
def c28_5 : ACode := .reg [{ dst := some 6, op := AOp.mv (Opd.t 0), grd := none }, { dst := some 4, op := AOp.mv (Opd.t 6), grd := none }]
def c28_4 : ACode := .seq c28_5 c28_6
def c28_3 : ACode := .reg [{ dst := some 3, op := AOp.mv (Opd.c (AV.str [])), grd := none }]
def c28_2 : ACode := .seq c28_3 c28_4
def c28_1 : ACode := .reg [{ dst := some 2, op := AOp.mv (Opd.c (AV.str [])), grd := none }]
def c28_0 : ACode := .seq c28_1 c28_2
def A28 : AFun := { np := 1, res := [(2, none)], body := c28_0 }

def c29_25 : ACode := .ret
def c29_24 : ACode := .reg [{ dst := some 4, op := AOp.mv (Opd.c (AV.int (IntKind.i64) (-1))), grd := none }]
def c29_23 : ACode := .seq c29_24 c29_25
def c29_22 : ACode := .reg [{ dst := some 10, op := AOp.mv (Opd.t 5), grd := none }, { dst := some 11, op := AOp.bin (BinOp.add) (Opd.t 10) (Opd.c (AV.int (IntKind.i64) 1)), grd := none }, { dst := some 5, op := AOp.mv (Opd.t 11), grd := none }]
def c29_21 : ACode := .skip
def c29_20 : ACode := .ret
def c29_19 : ACode := .reg [{ dst := some 18, op := AOp.mv (Opd.t 5), grd := none }, { dst := some 4, op := AOp.mv (Opd.t 18), grd := none }]
def c29_18 : ACode := .seq c29_19 c29_20
def c29_17 : ACode := .cond (.t 17) c29_18 c29_21
def c29_16 : ACode := .reg [{ dst := some 12, op := AOp.mv (Opd.t 0), grd := none }, { dst := some 13, op := AOp.mv (Opd.t 5), grd := none }, { dst := some 14, op := AOp.iadr 1 (Opd.t 12) (Opd.t 13), grd := none }, { dst := some 15, op := AOp.load false 1 (Opd.t 14), grd := none }, { dst := some 16, op := AOp.mv (Opd.t 1), grd := none }, { dst := some 17, op := AOp.bin (BinOp.eql) (Opd.t 15) (Opd.t 16), grd := none }]
def c29_15 : ACode := .seq c29_16 c29_17
def c29_14 : ACode := .block 1 c29_15
def c29_13 : ACode := .seq c29_14 c29_22
def c29_12 : ACode := .exit 0
def c29_11 : ACode := .skip
def c29_10 : ACode := .cond (.t 9) c29_11 c29_12
def c29_9 : ACode := .reg [{ dst := some 6, op := AOp.mv (Opd.t 5), grd := none }, { dst := some 7, op := AOp.mv (Opd.t 0), grd := none }, { dst := some 8, op := AOp.len 1 (Opd.t 7), grd := none }, { dst := some 9, op := AOp.bin (BinOp.lss) (Opd.t 6) (Opd.t 8), grd := none }]
def c29_8 : ACode := .seq c29_9 c29_10
def c29_7 : ACode := .seq c29_8 c29_13
def c29_6 : ACode := .loop c29_7
def c29_5 : ACode := .block 0 c29_6
def c29_4 : ACode := .reg [{ dst := some 5, op := AOp.mv (Opd.c (AV.int (IntKind.i64) 0)), grd := none }]
def c29_3 : ACode := .seq c29_4 c29_5
def c29_2 : ACode := .seq c29_3 c29_23
def c29_1 : ACode := .reg [{ dst := some 4, op := AOp.mv (Opd.c (AV.int (IntKind.i64) 0)), grd := none }]
def c29_0 : ACode := .seq c29_1 c29_2
def A29 : AFun := { np := 2, res := [(4, none)], body := c29_0 }

def c32_4 : ACode := .ret
def c32_3 : ACode := .reg [{ dst := some 3, op := AOp.mv (Opd.t 0), grd := none }, { dst := some 4, op := AOp.call (Opd.c (AV.fn (AFn.func 54) [] [])) [Opd.t 3, Opd.c (AV.int (IntKind.i64) 0)], grd := none }, { dst := some 2, op := AOp.mv (Opd.t 4), grd := none }]
def c32_2 : ACode := .seq c32_3 c32_4
def c32_1 : ACode := .reg [{ dst := some 2, op := AOp.mv (Opd.c (AV.int (IntKind.i64) 0)), grd := none }]
def c32_0 : ACode := .seq c32_1 c32_2
def A32 : AFun := { np := 1, res := [(2, none)], body := c32_0 }

def c35_4 : ACode := .ret
def c35_3 : ACode := .reg [{ dst := some 3, op := AOp.mv (Opd.t 0), grd := none }, { dst := some 4, op := AOp.call (Opd.c (AV.fn (AFn.func 55) [] [])) [Opd.t 3, Opd.c (AV.fn (AFn.func 56) [] [])], grd := none }, { dst := some 2, op := AOp.mv (Opd.t 4), grd := none }]
def c35_2 : ACode := .seq c35_3 c35_4
def c35_1 : ACode := .reg [{ dst := some 2, op := AOp.mv (Opd.c (AV.bool false)), grd := none }]
def c35_0 : ACode := .seq c35_1 c35_2
def A35 : AFun := { np := 1, res := [(2, none)], body := c35_0 }

def c36_4 : ACode := .ret
def c36_3 : ACode := .reg [{ dst := some 5, op := AOp.mv (Opd.t 0), grd := none }, { dst := some 6, op := AOp.mv (Opd.t 1), grd := none }, { dst := some 7, op := AOp.call (Opd.c (AV.fn (AFn.func 58) [] [])) [Opd.t 5, Opd.t 6], grd := none }, { dst := some 8, op := AOp.bin (BinOp.geq) (Opd.t 7) (Opd.c (AV.int (IntKind.i64) 0)), grd := none }, { dst := some 4, op := AOp.mv (Opd.t 8), grd := none }]
def c36_2 : ACode := .seq c36_3 c36_4
def c36_1 : ACode := .reg [{ dst := some 4, op := AOp.mv (Opd.c (AV.bool false)), grd := none }]
def c36_0 : ACode := .seq c36_1 c36_2
def A36 : AFun := { np := 2, res := [(4, none)], body := c36_0 }

def c37_4 : ACode := .ret
def c37_3 : ACode := .reg [{ dst := some 3, op := AOp.fadr 2 (Opd.t 1), grd := none }, { dst := some 4, op := AOp.load false 1 (Opd.t 3), grd := none }, { dst := some 5, op := AOp.call (Opd.c (AV.fn (AFn.func 35) [] [])) [Opd.t 4], grd := none }, { dst := some 2, op := AOp.mv (Opd.t 5), grd := none }]
def c37_2 : ACode := .seq c37_3 c37_4
def c37_1 : ACode := .reg [{ dst := some 1, op := AOp.box 3 (Opd.t 0), grd := none }, { dst := some 2, op := AOp.mv (Opd.c (AV.bool false)), grd := none }]
def c37_0 : ACode := .seq c37_1 c37_2
def A37 : AFun := { np := 1, res := [(2, none)], body := c37_0 }

def c38_25 : ACode := .ret
def c38_24 : ACode := .reg [{ dst := some 24, op := AOp.fadr 0 (Opd.t 1), grd := none }, { dst := some 25, op := AOp.load false 1 (Opd.t 24), grd := none }, { dst := some 26, op := AOp.mv (Opd.t 3), grd := none }, { dst := some 27, op := AOp.b2s (Opd.t 26), grd := none }, { dst := some 28, op := AOp.build [AV.str [], AV.str []] [(0, 1, Opd.t 25), (1, 1, Opd.t 27)], grd := none }, { dst := none, op := AOp.store 2 (Opd.t 2) (Opd.t 28), grd := none }]
def c38_23 : ACode := .seq c38_24 c38_25
def c38_22 : ACode := .reg [{ dst := some 23, op := AOp.bin (BinOp.add) (Opd.t 11) (Opd.c (AV.int (IntKind.i64) 1)), grd := none }, { dst := some 11, op := AOp.mv (Opd.t 23), grd := none }]
def c38_21 : ACode := .reg [{ dst := some 20, op := AOp.mv (Opd.t 3), grd := none }, { dst := some 21, op := AOp.mv (Opd.t 6), grd := none }, { dst := some 22, op := AOp.appb 5 (Opd.t 20) (Opd.t 21), grd := none }, { dst := some 3, op := AOp.mv (Opd.t 22), grd := none }]
def c38_20 : ACode := .reg [{ dst := some 16, op := AOp.load true 5 (Opd.t 5), grd := none }, { dst := some 17, op := AOp.call (Opd.c (AV.fn (AFn.func 59) [] [])) [Opd.t 16], grd := none }, { dst := some 15, op := AOp.mv (Opd.t 17), grd := none }, { dst := some 18, op := AOp.ext (Opd.t 15) 0, grd := none }, { dst := some 19, op := AOp.ext (Opd.t 15) 1, grd := none }, { dst := some 6, op := AOp.mv (Opd.t 18), grd := none }, { dst := some 7, op := AOp.mv (Opd.t 19), grd := none }]
def c38_19 : ACode := .seq c38_20 c38_21
def c38_18 : ACode := .reg [{ dst := some 13, op := AOp.iadr 5 (Opd.t 9) (Opd.t 11), grd := none }, { dst := some 14, op := AOp.load true 5 (Opd.t 13), grd := none }, { dst := some 5, op := AOp.alloc [AV.int (IntKind.i64) 0, AV.bool false, AV.int (IntKind.i64) 0, AV.str [], AV.nilSlc], grd := none }, { dst := none, op := AOp.store 5 (Opd.t 5) (Opd.t 14), grd := none }]
def c38_17 : ACode := .seq c38_18 c38_19
def c38_16 : ACode := .block 1 c38_17
def c38_15 : ACode := .seq c38_16 c38_22
def c38_14 : ACode := .exit 0
def c38_13 : ACode := .skip
def c38_12 : ACode := .cond (.t 12) c38_13 c38_14
def c38_11 : ACode := .seq c38_12 c38_15
def c38_10 : ACode := .reg [{ dst := some 12, op := AOp.bin (BinOp.lss) (Opd.t 11) (Opd.t 10), grd := none }]
def c38_9 : ACode := .seq c38_10 c38_11
def c38_8 : ACode := .loop c38_9
def c38_7 : ACode := .block 0 c38_8
def c38_6 : ACode := .reg [{ dst := some 8, op := AOp.fadr 1 (Opd.t 1), grd := none }, { dst := some 9, op := AOp.load false 1 (Opd.t 8), grd := none }, { dst := some 10, op := AOp.len 1 (Opd.t 9), grd := none }, { dst := some 11, op := AOp.mv (Opd.c (AV.int (IntKind.i64) 0)), grd := none }]
def c38_5 : ACode := .seq c38_6 c38_7
def c38_4 : ACode := .seq c38_5 c38_23
def c38_3 : ACode := .reg [{ dst := some 3, op := AOp.mv (Opd.c (AV.nilSlc)), grd := none }]
def c38_2 : ACode := .seq c38_3 c38_4
def c38_1 : ACode := .reg [{ dst := some 1, op := AOp.box 2 (Opd.t 0), grd := none }, { dst := some 2, op := AOp.alloc [AV.str [], AV.str []], grd := none }]
def c38_0 : ACode := .seq c38_1 c38_2
def A38 : AFun := { np := 1, res := [(2, some (true, 2))], body := c38_0 }

def c39_4 : ACode := .ret
def c39_3 : ACode := .reg [{ dst := some 3, op := AOp.fadr 1 (Opd.t 1), grd := none }, { dst := some 4, op := AOp.load false 1 (Opd.t 3), grd := none }, { dst := some 5, op := AOp.call (Opd.c (AV.fn (AFn.func 60) [] [])) [Opd.t 4], grd := none }, { dst := some 2, op := AOp.mv (Opd.t 5), grd := none }]
def c39_2 : ACode := .seq c39_3 c39_4
def c39_1 : ACode := .reg [{ dst := some 1, op := AOp.box 3 (Opd.t 0), grd := none }, { dst := some 2, op := AOp.mv (Opd.c (AV.str [])), grd := none }]
def c39_0 : ACode := .seq c39_1 c39_2
def A39 : AFun := { np := 1, res := [(2, none)], body := c39_0 }

def c40_23 : ACode := .ret
def c40_22 : ACode := .reg [{ dst := some 18, op := AOp.mv (Opd.t 3), grd := none }, { dst := some 2, op := AOp.mv (Opd.t 18), grd := none }]
def c40_21 : ACode := .seq c40_22 c40_23
def c40_20 : ACode := .reg [{ dst := some 17, op := AOp.bin (BinOp.add) (Opd.t 8) (Opd.c (AV.int (IntKind.i64) 1)), grd := none }, { dst := some 8, op := AOp.mv (Opd.t 17), grd := none }]
def c40_19 : ACode := .reg [{ dst := some 12, op := AOp.mv (Opd.t 3), grd := none }, { dst := some 13, op := AOp.load true 5 (Opd.t 5), grd := none }, { dst := some 14, op := AOp.call (Opd.c (AV.fn (AFn.func 61) [] [])) [Opd.t 13], grd := none }, { dst := some 15, op := AOp.bslice 1 5 [AV.int (IntKind.i64) 0, AV.bool false, AV.int (IntKind.i64) 0, AV.str [], AV.nilSlc] [(0, Opd.t 14)], grd := none }, { dst := some 16, op := AOp.app 5 64 (Opd.t 12) (Opd.t 15), grd := none }, { dst := some 3, op := AOp.mv (Opd.t 16), grd := none }]
def c40_18 : ACode := .reg [{ dst := some 10, op := AOp.iadr 5 (Opd.t 6) (Opd.t 8), grd := none }, { dst := some 11, op := AOp.load true 5 (Opd.t 10), grd := none }, { dst := some 5, op := AOp.alloc [AV.int (IntKind.i64) 0, AV.bool false, AV.int (IntKind.i64) 0, AV.str [], AV.nilSlc], grd := none }, { dst := none, op := AOp.store 5 (Opd.t 5) (Opd.t 11), grd := none }]
def c40_17 : ACode := .seq c40_18 c40_19
def c40_16 : ACode := .block 1 c40_17
def c40_15 : ACode := .seq c40_16 c40_20
def c40_14 : ACode := .exit 0
def c40_13 : ACode := .skip
def c40_12 : ACode := .cond (.t 9) c40_13 c40_14
def c40_11 : ACode := .seq c40_12 c40_15
def c40_10 : ACode := .reg [{ dst := some 9, op := AOp.bin (BinOp.lss) (Opd.t 8) (Opd.t 7), grd := none }]
def c40_9 : ACode := .seq c40_10 c40_11
def c40_8 : ACode := .loop c40_9
def c40_7 : ACode := .block 0 c40_8
def c40_6 : ACode := .reg [{ dst := some 6, op := AOp.mv (Opd.t 0), grd := none }, { dst := some 7, op := AOp.len 1 (Opd.t 6), grd := none }, { dst := some 8, op := AOp.mv (Opd.c (AV.int (IntKind.i64) 0)), grd := none }]
def c40_5 : ACode := .seq c40_6 c40_7
def c40_4 : ACode := .seq c40_5 c40_21
def c40_3 : ACode := .reg [{ dst := some 3, op := AOp.mv (Opd.c (AV.nilSlc)), grd := none }]
def c40_2 : ACode := .seq c40_3 c40_4
def c40_1 : ACode := .reg [{ dst := some 2, op := AOp.mv (Opd.c (AV.nilSlc)), grd := none }]
def c40_0 : ACode := .seq c40_1 c40_2
def A40 : AFun := { np := 1, res := [(2, none)], body := c40_0 }

def c41_42 : ACode := .ret
def c41_41 : ACode := .reg [{ dst := some 48, op := AOp.load true 3 (Opd.t 3), grd := none }, { dst := none, op := AOp.store 3 (Opd.t 2) (Opd.t 48), grd := none }]
def c41_40 : ACode := .seq c41_41 c41_42
def c41_39 : ACode := .reg [{ dst := some 47, op := AOp.bin (BinOp.add) (Opd.t 32) (Opd.c (AV.int (IntKind.i64) 1)), grd := none }, { dst := some 32, op := AOp.mv (Opd.t 47), grd := none }]
def c41_38 : ACode := .dreg [{ dst := some 36, op := AOp.fadr 2 (Opd.t 3), grd := none }, { dst := some 37, op := AOp.load false 1 (Opd.t 36), grd := none }, { dst := some 38, op := AOp.fadr 0 (Opd.t 7), grd := none }, { dst := some 39, op := AOp.load false 1 (Opd.t 38), grd := none }, { dst := some 40, op := AOp.fadr 1 (Opd.t 7), grd := none }, { dst := some 41, op := AOp.load true 5 (Opd.t 40), grd := none }] [({ dst := some 42, op := AOp.call (Opd.c (AV.fn (AFn.func 61) [] [])) [Opd.t 41], grd := none }, [{ dst := some 37, op := AOp.load false 1 (Opd.t 36), grd := none }, { dst := some 39, op := AOp.load false 1 (Opd.t 38), grd := none }], [{ dst := some 43, op := AOp.build [AV.str [], AV.int (IntKind.i64) 0, AV.bool false, AV.int (IntKind.i64) 0, AV.str [], AV.nilSlc] [(0, 1, Opd.t 39), (1, 5, Opd.t 42)], grd := none }]), ({ dst := some 44, op := AOp.bslice 1 6 [AV.str [], AV.int (IntKind.i64) 0, AV.bool false, AV.int (IntKind.i64) 0, AV.str [], AV.nilSlc] [(0, Opd.t 43)], grd := none }, [{ dst := some 37, op := AOp.load false 1 (Opd.t 36), grd := none }], []), ({ dst := some 45, op := AOp.app 6 80 (Opd.t 37) (Opd.t 44), grd := none }, [], [{ dst := some 46, op := AOp.fadr 2 (Opd.t 3), grd := none }]), ({ dst := none, op := AOp.store 1 (Opd.t 46) (Opd.t 45), grd := none }, [], [])]
def c41_37 : ACode := .reg [{ dst := some 34, op := AOp.iadr 6 (Opd.t 30) (Opd.t 32), grd := none }, { dst := some 35, op := AOp.load true 6 (Opd.t 34), grd := none }, { dst := some 7, op := AOp.alloc [AV.str [], AV.int (IntKind.i64) 0, AV.bool false, AV.int (IntKind.i64) 0, AV.str [], AV.nilSlc], grd := none }, { dst := none, op := AOp.store 6 (Opd.t 7) (Opd.t 35), grd := none }]
def c41_36 : ACode := .seq c41_37 c41_38
def c41_35 : ACode := .block 3 c41_36
def c41_34 : ACode := .seq c41_35 c41_39
def c41_33 : ACode := .exit 2
def c41_32 : ACode := .skip
def c41_31 : ACode := .cond (.t 33) c41_32 c41_33
def c41_30 : ACode := .seq c41_31 c41_34
def c41_29 : ACode := .reg [{ dst := some 33, op := AOp.bin (BinOp.lss) (Opd.t 32) (Opd.t 31), grd := none }]
def c41_28 : ACode := .seq c41_29 c41_30
def c41_27 : ACode := .loop c41_28
def c41_26 : ACode := .block 2 c41_27
def c41_25 : ACode := .reg [{ dst := some 29, op := AOp.fadr 2 (Opd.t 1), grd := none }, { dst := some 30, op := AOp.load false 1 (Opd.t 29), grd := none }, { dst := some 31, op := AOp.len 1 (Opd.t 30), grd := none }, { dst := some 32, op := AOp.mv (Opd.c (AV.int (IntKind.i64) 0)), grd := none }]
def c41_24 : ACode := .seq c41_25 c41_26
def c41_23 : ACode := .seq c41_24 c41_40
def c41_22 : ACode := .reg [{ dst := some 28, op := AOp.bin (BinOp.add) (Opd.t 14) (Opd.c (AV.int (IntKind.i64) 1)), grd := none }, { dst := some 14, op := AOp.mv (Opd.t 28), grd := none }]
def c41_21 : ACode := .reg [{ dst := some 22, op := AOp.fadr 1 (Opd.t 3), grd := none }, { dst := some 23, op := AOp.load false 1 (Opd.t 22), grd := none }, { dst := some 24, op := AOp.load true 3 (Opd.t 5), grd := none }, { dst := some 25, op := AOp.bslice 1 3 [AV.int (IntKind.i64) 0, AV.int (IntKind.i64) 0, AV.nilSlc] [(0, Opd.t 24)], grd := none }, { dst := some 26, op := AOp.app 3 40 (Opd.t 23) (Opd.t 25), grd := none }, { dst := some 27, op := AOp.fadr 1 (Opd.t 3), grd := none }, { dst := none, op := AOp.store 1 (Opd.t 27) (Opd.t 26), grd := none }]
def c41_20 : ACode := .reg [{ dst := some 18, op := AOp.fadr 2 (Opd.t 5), grd := none }, { dst := some 19, op := AOp.load false 1 (Opd.t 18), grd := none }, { dst := some 20, op := AOp.call (Opd.c (AV.fn (AFn.func 40) [] [])) [Opd.t 19], grd := none }, { dst := some 21, op := AOp.fadr 2 (Opd.t 5), grd := none }, { dst := none, op := AOp.store 1 (Opd.t 21) (Opd.t 20), grd := none }]
def c41_19 : ACode := .seq c41_20 c41_21
def c41_18 : ACode := .reg [{ dst := some 16, op := AOp.iadr 3 (Opd.t 12) (Opd.t 14), grd := none }, { dst := some 17, op := AOp.load true 3 (Opd.t 16), grd := none }, { dst := some 5, op := AOp.alloc [AV.int (IntKind.i64) 0, AV.int (IntKind.i64) 0, AV.nilSlc], grd := none }, { dst := none, op := AOp.store 3 (Opd.t 5) (Opd.t 17), grd := none }]
def c41_17 : ACode := .seq c41_18 c41_19
def c41_16 : ACode := .block 1 c41_17
def c41_15 : ACode := .seq c41_16 c41_22
def c41_14 : ACode := .exit 0
def c41_13 : ACode := .skip
def c41_12 : ACode := .cond (.t 15) c41_13 c41_14
def c41_11 : ACode := .seq c41_12 c41_15
def c41_10 : ACode := .reg [{ dst := some 15, op := AOp.bin (BinOp.lss) (Opd.t 14) (Opd.t 13), grd := none }]
def c41_9 : ACode := .seq c41_10 c41_11
def c41_8 : ACode := .loop c41_9
def c41_7 : ACode := .block 0 c41_8
def c41_6 : ACode := .reg [{ dst := some 11, op := AOp.fadr 1 (Opd.t 1), grd := none }, { dst := some 12, op := AOp.load false 1 (Opd.t 11), grd := none }, { dst := some 13, op := AOp.len 1 (Opd.t 12), grd := none }, { dst := some 14, op := AOp.mv (Opd.c (AV.int (IntKind.i64) 0)), grd := none }]
def c41_5 : ACode := .seq c41_6 c41_7
def c41_4 : ACode := .seq c41_5 c41_23
def c41_3 : ACode := .reg [{ dst := some 8, op := AOp.fadr 0 (Opd.t 1), grd := none }, { dst := some 9, op := AOp.load false 1 (Opd.t 8), grd := none }, { dst := some 10, op := AOp.build [AV.int (IntKind.i64) 0, AV.nilSlc, AV.nilSlc] [(0, 1, Opd.t 9)], grd := none }, { dst := some 3, op := AOp.alloc [AV.int (IntKind.i64) 0, AV.nilSlc, AV.nilSlc], grd := none }, { dst := none, op := AOp.store 3 (Opd.t 3) (Opd.t 10), grd := none }]
def c41_2 : ACode := .seq c41_3 c41_4
def c41_1 : ACode := .reg [{ dst := some 1, op := AOp.box 3 (Opd.t 0), grd := none }, { dst := some 2, op := AOp.alloc [AV.int (IntKind.i64) 0, AV.nilSlc, AV.nilSlc], grd := none }]
def c41_0 : ACode := .seq c41_1 c41_2
def A41 : AFun := { np := 1, res := [(2, some (true, 3))], body := c41_0 }

def c48_20 : ACode := .skip
def c48_19 : ACode := .dreg [{ dst := some 54, op := AOp.mv (Opd.t 0), grd := none }, { dst := some 55, op := AOp.nilck (Opd.t 54), grd := none }, { dst := some 56, op := AOp.fadr 1 (Opd.t 55), grd := none }, { dst := some 57, op := AOp.load false 1 (Opd.t 56), grd := none }, { dst := some 58, op := AOp.load true 2 (Opd.t 5), grd := none }] [({ dst := none, op := AOp.del (KK.st [K0.int, K0.str]) (Opd.t 57) (Opd.t 58), grd := none }, [], [])]
def c48_18 : ACode := .cond (.t 53) c48_19 c48_20
def c48_17 : ACode := .reg [{ dst := some 48, op := AOp.mv (Opd.t 7), grd := none }, { dst := some 49, op := AOp.nilck (Opd.t 48), grd := none }, { dst := some 50, op := AOp.fadr 4 (Opd.t 49), grd := none }, { dst := some 51, op := AOp.load false 1 (Opd.t 50), grd := none }, { dst := some 52, op := AOp.len 2 (Opd.t 51), grd := none }, { dst := some 53, op := AOp.bin (BinOp.eql) (Opd.t 52) (Opd.c (AV.int (IntKind.i64) 0)), grd := none }]
def c48_16 : ACode := .seq c48_17 c48_18
def c48_15 : ACode := .skip
def c48_14 : ACode := .dreg [{ dst := some 43, op := AOp.mv (Opd.t 0), grd := none }, { dst := some 44, op := AOp.nilck (Opd.t 43), grd := none }, { dst := some 45, op := AOp.fadr 0 (Opd.t 44), grd := none }, { dst := some 46, op := AOp.load false 1 (Opd.t 45), grd := none }, { dst := some 47, op := AOp.load true 2 (Opd.t 4), grd := none }] [({ dst := none, op := AOp.del (KK.st [K0.str, K0.str]) (Opd.t 46) (Opd.t 47), grd := none }, [], [])]
def c48_13 : ACode := .cond (.t 42) c48_14 c48_15
def c48_12 : ACode := .reg [{ dst := some 37, op := AOp.mv (Opd.t 6), grd := none }, { dst := some 38, op := AOp.nilck (Opd.t 37), grd := none }, { dst := some 39, op := AOp.fadr 3 (Opd.t 38), grd := none }, { dst := some 40, op := AOp.load false 1 (Opd.t 39), grd := none }, { dst := some 41, op := AOp.len 2 (Opd.t 40), grd := none }, { dst := some 42, op := AOp.bin (BinOp.eql) (Opd.t 41) (Opd.c (AV.int (IntKind.i64) 0)), grd := none }]
def c48_11 : ACode := .seq c48_12 c48_13
def c48_10 : ACode := .seq c48_11 c48_16
def c48_9 : ACode := .reg [{ dst := some 30, op := AOp.mv (Opd.t 0), grd := none }, { dst := some 31, op := AOp.nilck (Opd.t 30), grd := none }, { dst := some 32, op := AOp.fadr 3 (Opd.t 31), grd := none }, { dst := some 33, op := AOp.load false 1 (Opd.t 32), grd := none }, { dst := some 34, op := AOp.bin (BinOp.sub) (Opd.t 33) (Opd.c (AV.int (IntKind.i64) 1)), grd := none }, { dst := some 35, op := AOp.nilck (Opd.t 30), grd := none }, { dst := some 36, op := AOp.fadr 3 (Opd.t 35), grd := none }, { dst := none, op := AOp.store 1 (Opd.t 36) (Opd.t 34), grd := none }]
def c48_8 : ACode := .seq c48_9 c48_10
def c48_7 : ACode := .dreg [{ dst := some 25, op := AOp.mv (Opd.t 7), grd := none }, { dst := some 26, op := AOp.nilck (Opd.t 25), grd := none }, { dst := some 27, op := AOp.fadr 4 (Opd.t 26), grd := none }, { dst := some 28, op := AOp.load false 1 (Opd.t 27), grd := none }, { dst := some 29, op := AOp.load true 2 (Opd.t 4), grd := none }] [({ dst := none, op := AOp.del (KK.st [K0.str, K0.str]) (Opd.t 28) (Opd.t 29), grd := none }, [], [])]
def c48_6 : ACode := .seq c48_7 c48_8
def c48_5 : ACode := .dreg [{ dst := some 20, op := AOp.mv (Opd.t 6), grd := none }, { dst := some 21, op := AOp.nilck (Opd.t 20), grd := none }, { dst := some 22, op := AOp.fadr 3 (Opd.t 21), grd := none }, { dst := some 23, op := AOp.load false 1 (Opd.t 22), grd := none }, { dst := some 24, op := AOp.load true 2 (Opd.t 5), grd := none }] [({ dst := none, op := AOp.del (KK.st [K0.int, K0.str]) (Opd.t 23) (Opd.t 24), grd := none }, [], [])]
def c48_4 : ACode := .seq c48_5 c48_6
def c48_3 : ACode := .dreg [{ dst := some 8, op := AOp.mv (Opd.t 0), grd := none }, { dst := some 9, op := AOp.nilck (Opd.t 8), grd := none }, { dst := some 10, op := AOp.fadr 0 (Opd.t 9), grd := none }, { dst := some 11, op := AOp.load false 1 (Opd.t 10), grd := none }, { dst := some 12, op := AOp.load true 2 (Opd.t 4), grd := none }, { dst := some 13, op := AOp.look (KK.st [K0.str, K0.str]) false (AV.nilPtr) (Opd.t 11) (Opd.t 12), grd := none }, { dst := some 14, op := AOp.mv (Opd.t 0), grd := none }, { dst := some 15, op := AOp.nilck (Opd.t 14), grd := none }, { dst := some 16, op := AOp.fadr 1 (Opd.t 15), grd := none }, { dst := some 17, op := AOp.load false 1 (Opd.t 16), grd := none }, { dst := some 18, op := AOp.load true 2 (Opd.t 5), grd := none }, { dst := some 19, op := AOp.look (KK.st [K0.int, K0.str]) false (AV.nilPtr) (Opd.t 17) (Opd.t 18), grd := none }, { dst := some 6, op := AOp.mv (Opd.t 13), grd := none }, { dst := some 7, op := AOp.mv (Opd.t 19), grd := none }] []
def c48_2 : ACode := .seq c48_3 c48_4
def c48_1 : ACode := .reg [{ dst := some 4, op := AOp.box 2 (Opd.t 1), grd := none }, { dst := some 5, op := AOp.box 2 (Opd.t 2), grd := none }]
def c48_0 : ACode := .seq c48_1 c48_2
def A48 : AFun := { np := 3, res := [], body := c48_0 }

def c52_4 : ACode := .ret
def c52_3 : ACode := .dreg [{ dst := some 5, op := AOp.mv (Opd.t 0), grd := none }, { dst := some 6, op := AOp.nilck (Opd.t 5), grd := none }, { dst := some 7, op := AOp.fadr 2 (Opd.t 6), grd := none }, { dst := some 8, op := AOp.load false 1 (Opd.t 7), grd := none }, { dst := some 9, op := AOp.mv (Opd.t 1), grd := none }, { dst := some 10, op := AOp.nilck (Opd.t 9), grd := none }, { dst := some 11, op := AOp.fadr 2 (Opd.t 10), grd := none }, { dst := some 12, op := AOp.load false 1 (Opd.t 11), grd := none }, { dst := some 13, op := AOp.bin (BinOp.sub) (Opd.t 8) (Opd.t 12), grd := none }, { dst := some 4, op := AOp.mv (Opd.t 13), grd := none }] []
def c52_2 : ACode := .seq c52_3 c52_4
def c52_1 : ACode := .reg [{ dst := some 4, op := AOp.mv (Opd.c (AV.int (IntKind.i64) 0)), grd := none }]
def c52_0 : ACode := .seq c52_1 c52_2
def A52 : AFun := { np := 2, res := [(4, none)], body := c52_0 }

def c54_29 : ACode := .ret
def c54_28 : ACode := .reg [{ dst := some 34, op := AOp.mv (Opd.t 5), grd := none }, { dst := some 4, op := AOp.mv (Opd.t 34), grd := none }]
def c54_27 : ACode := .seq c54_28 c54_29
def c54_26 : ACode := .reg [{ dst := some 13, op := AOp.mv (Opd.t 6), grd := none }, { dst := some 14, op := AOp.bin (BinOp.add) (Opd.t 13) (Opd.c (AV.int (IntKind.i64) 1)), grd := none }, { dst := some 6, op := AOp.mv (Opd.t 14), grd := none }]
set_option maxRecDepth 100000 in
def c54_25 : ACode := .dreg [{ dst := some 15, op := AOp.mv (Opd.t 5), grd := none }, { dst := some 16, op := AOp.bin (BinOp.add) (Opd.t 15) (Opd.c (AV.int (IntKind.i64) 1)), grd := none }, { dst := some 17, op := AOp.mv (Opd.t 0), grd := none }, { dst := some 18, op := AOp.mv (Opd.t 6), grd := none }, { dst := some 19, op := AOp.iadr 5 (Opd.t 17) (Opd.t 18), grd := none }, { dst := some 20, op := AOp.fadr 3 (Opd.t 19), grd := none }, { dst := some 21, op := AOp.load false 1 (Opd.t 20), grd := none }, { dst := some 22, op := AOp.len 0 (Opd.t 21), grd := none }, { dst := some 23, op := AOp.bin (BinOp.quo) (Opd.t 22) (Opd.c (AV.int (IntKind.i64) 64)), grd := none }, { dst := some 24, op := AOp.bin (BinOp.add) (Opd.t 16) (Opd.t 23), grd := none }, { dst := some 25, op := AOp.mv (Opd.t 0), grd := none }, { dst := some 26, op := AOp.mv (Opd.t 6), grd := none }, { dst := some 27, op := AOp.iadr 5 (Opd.t 25) (Opd.t 26), grd := none }, { dst := some 28, op := AOp.fadr 4 (Opd.t 27), grd := none }, { dst := some 29, op := AOp.load false 1 (Opd.t 28), grd := none }, { dst := some 30, op := AOp.mv (Opd.t 1), grd := none }, { dst := some 31, op := AOp.bin (BinOp.add) (Opd.t 30) (Opd.c (AV.int (IntKind.i64) 1)), grd := none }] [({ dst := some 32, op := AOp.call (Opd.c (AV.fn (AFn.func 54) [] [])) [Opd.t 29, Opd.t 31], grd := none }, [{ dst := some 19, op := AOp.iadr 5 (Opd.t 17) (Opd.t 18), grd := none }, { dst := some 21, op := AOp.load false 1 (Opd.t 20), grd := none }, { dst := some 22, op := AOp.len 0 (Opd.t 21), grd := none }], [{ dst := some 33, op := AOp.bin (BinOp.add) (Opd.t 24) (Opd.t 32), grd := none }]), ({ dst := some 5, op := AOp.mv (Opd.t 33), grd := none }, [], [])]
def c54_24 : ACode := .block 1 c54_25
def c54_23 : ACode := .seq c54_24 c54_26
def c54_22 : ACode := .exit 0
def c54_21 : ACode := .skip
def c54_20 : ACode := .cond (.t 12) c54_21 c54_22
def c54_19 : ACode := .reg [{ dst := some 9, op := AOp.mv (Opd.t 6), grd := none }, { dst := some 10, op := AOp.mv (Opd.t 0), grd := none }, { dst := some 11, op := AOp.len 1 (Opd.t 10), grd := none }, { dst := some 12, op := AOp.bin (BinOp.lss) (Opd.t 9) (Opd.t 11), grd := none }]
def c54_18 : ACode := .seq c54_19 c54_20
def c54_17 : ACode := .seq c54_18 c54_23
def c54_16 : ACode := .loop c54_17
def c54_15 : ACode := .block 0 c54_16
def c54_14 : ACode := .reg [{ dst := some 6, op := AOp.mv (Opd.c (AV.int (IntKind.i64) 0)), grd := none }]
def c54_13 : ACode := .seq c54_14 c54_15
def c54_12 : ACode := .seq c54_13 c54_27
def c54_11 : ACode := .reg [{ dst := some 5, op := AOp.mv (Opd.c (AV.int (IntKind.i64) 0)), grd := none }]
def c54_10 : ACode := .seq c54_11 c54_12
def c54_9 : ACode := .skip
def c54_8 : ACode := .ret
def c54_7 : ACode := .reg [{ dst := some 4, op := AOp.mv (Opd.c (AV.int (IntKind.i64) 1048576)), grd := none }]
def c54_6 : ACode := .seq c54_7 c54_8
def c54_5 : ACode := .cond (.t 8) c54_6 c54_9
def c54_4 : ACode := .reg [{ dst := some 7, op := AOp.mv (Opd.t 1), grd := none }, { dst := some 8, op := AOp.bin (BinOp.gtr) (Opd.t 7) (Opd.c (AV.int (IntKind.i64) 100)), grd := none }]
def c54_3 : ACode := .seq c54_4 c54_5
def c54_2 : ACode := .seq c54_3 c54_10
def c54_1 : ACode := .reg [{ dst := some 4, op := AOp.mv (Opd.c (AV.int (IntKind.i64) 0)), grd := none }]
def c54_0 : ACode := .seq c54_1 c54_2
def A54 : AFun := { np := 2, res := [(4, none)], body := c54_0 }

def c55_4 : ACode := .ret
def c55_3 : ACode := .reg [{ dst := some 5, op := AOp.mv (Opd.t 0), grd := none }, { dst := some 6, op := AOp.mv (Opd.t 1), grd := none }, { dst := some 7, op := AOp.call (Opd.c (AV.fn (AFn.func 66) [] [])) [Opd.t 5, Opd.t 6], grd := none }, { dst := some 8, op := AOp.bin (BinOp.geq) (Opd.t 7) (Opd.c (AV.int (IntKind.i64) 0)), grd := none }, { dst := some 4, op := AOp.mv (Opd.t 8), grd := none }]
def c55_2 : ACode := .seq c55_3 c55_4
def c55_1 : ACode := .reg [{ dst := some 4, op := AOp.mv (Opd.c (AV.bool false)), grd := none }]
def c55_0 : ACode := .seq c55_1 c55_2
def A55 : AFun := { np := 2, res := [(4, none)], body := c55_0 }

def c56_4 : ACode := .ret
def c56_3 : ACode := .reg [{ dst := some 3, op := AOp.load true 5 (Opd.t 1), grd := none }, { dst := some 4, op := AOp.call (Opd.c (AV.fn (AFn.func 57) [] [])) [Opd.t 3], grd := none }, { dst := some 5, op := AOp.not (Opd.t 4), grd := none }, { dst := some 2, op := AOp.mv (Opd.t 5), grd := none }]
def c56_2 : ACode := .seq c56_3 c56_4
def c56_1 : ACode := .reg [{ dst := some 1, op := AOp.box 5 (Opd.t 0), grd := none }, { dst := some 2, op := AOp.mv (Opd.c (AV.bool false)), grd := none }]
def c56_0 : ACode := .seq c56_1 c56_2
def A56 : AFun := { np := 1, res := [(2, none)], body := c56_0 }

def c57_4 : ACode := .ret
def c57_3 : ACode := .reg [{ dst := some 3, op := AOp.load true 5 (Opd.t 1), grd := none }, { dst := some 4, op := AOp.call (Opd.c (AV.fn (AFn.func 67) [] [])) [Opd.t 3, Opd.c (AV.int (IntKind.i64) 0)], grd := none }, { dst := some 2, op := AOp.mv (Opd.t 4), grd := none }]
def c57_2 : ACode := .seq c57_3 c57_4
def c57_1 : ACode := .reg [{ dst := some 1, op := AOp.box 5 (Opd.t 0), grd := none }, { dst := some 2, op := AOp.mv (Opd.c (AV.bool false)), grd := none }]
def c57_0 : ACode := .seq c57_1 c57_2
def A57 : AFun := { np := 1, res := [(2, none)], body := c57_0 }

def c58_27 : ACode := .ret
def c58_26 : ACode := .reg [{ dst := some 4, op := AOp.mv (Opd.c (AV.int (IntKind.i64) (-1))), grd := none }]
def c58_25 : ACode := .seq c58_26 c58_27
def c58_24 : ACode := .reg [{ dst := some 18, op := AOp.bin (BinOp.add) (Opd.t 8) (Opd.c (AV.int (IntKind.i64) 1)), grd := none }, { dst := some 8, op := AOp.mv (Opd.t 18), grd := none }]
def c58_23 : ACode := .skip
def c58_22 : ACode := .ret
def c58_21 : ACode := .reg [{ dst := some 17, op := AOp.mv (Opd.t 5), grd := none }, { dst := some 4, op := AOp.mv (Opd.t 17), grd := none }]
def c58_20 : ACode := .seq c58_21 c58_22
def c58_19 : ACode := .cond (.t 16) c58_20 c58_23
def c58_18 : ACode := .reg [{ dst := some 11, op := AOp.mv (Opd.t 1), grd := none }, { dst := some 12, op := AOp.mv (Opd.t 0), grd := none }, { dst := some 13, op := AOp.mv (Opd.t 5), grd := none }, { dst := some 14, op := AOp.iadr 3 (Opd.t 12) (Opd.t 13), grd := none }, { dst := some 15, op := AOp.load true 3 (Opd.t 14), grd := none }, { dst := some 16, op := AOp.call (Opd.t 11) [Opd.t 15], grd := none }]
def c58_17 : ACode := .seq c58_18 c58_19
def c58_16 : ACode := .reg [{ dst := some 10, op := AOp.mv (Opd.t 8), grd := none }, { dst := some 5, op := AOp.mv (Opd.t 10), grd := none }]
def c58_15 : ACode := .seq c58_16 c58_17
def c58_14 : ACode := .block 1 c58_15
def c58_13 : ACode := .seq c58_14 c58_24
def c58_12 : ACode := .exit 0
def c58_11 : ACode := .skip
def c58_10 : ACode := .cond (.t 9) c58_11 c58_12
def c58_9 : ACode := .seq c58_10 c58_13
def c58_8 : ACode := .reg [{ dst := some 9, op := AOp.bin (BinOp.lss) (Opd.t 8) (Opd.t 7), grd := none }]
def c58_7 : ACode := .seq c58_8 c58_9
def c58_6 : ACode := .loop c58_7
def c58_5 : ACode := .block 0 c58_6
def c58_4 : ACode := .reg [{ dst := some 6, op := AOp.mv (Opd.t 0), grd := none }, { dst := some 7, op := AOp.len 1 (Opd.t 6), grd := none }, { dst := some 8, op := AOp.mv (Opd.c (AV.int (IntKind.i64) 0)), grd := none }]
def c58_3 : ACode := .seq c58_4 c58_5
def c58_2 : ACode := .seq c58_3 c58_25
def c58_1 : ACode := .reg [{ dst := some 4, op := AOp.mv (Opd.c (AV.int (IntKind.i64) 0)), grd := none }]
def c58_0 : ACode := .seq c58_1 c58_2
def A58 : AFun := { np := 2, res := [(4, none)], body := c58_0 }

def c59_12 : ACode := .ret
def c59_11 : ACode := .reg [{ dst := some 7, op := AOp.load true 5 (Opd.t 1), grd := none }, { dst := some 8, op := AOp.call (Opd.c (AV.fn (AFn.func 68) [] [])) [Opd.c (AV.nilSlc), Opd.t 7], grd := none }, { dst := some 2, op := AOp.mv (Opd.t 8), grd := none }, { dst := some 3, op := AOp.mv (Opd.c (AV.int (IntKind.i64) 0)), grd := none }]
def c59_10 : ACode := .seq c59_11 c59_12
def c59_9 : ACode := .skip
def c59_8 : ACode := .ret
def c59_7 : ACode := .reg [{ dst := some 2, op := AOp.mv (Opd.c (AV.nilSlc)), grd := none }, { dst := some 3, op := AOp.mv (Opd.c (AV.int (IntKind.i64) 1)), grd := none }]
def c59_6 : ACode := .seq c59_7 c59_8
def c59_5 : ACode := .cond (.t 6) c59_6 c59_9
def c59_4 : ACode := .reg [{ dst := some 4, op := AOp.load true 5 (Opd.t 1), grd := none }, { dst := some 5, op := AOp.call (Opd.c (AV.fn (AFn.func 57) [] [])) [Opd.t 4], grd := none }, { dst := some 6, op := AOp.not (Opd.t 5), grd := none }]
def c59_3 : ACode := .seq c59_4 c59_5
def c59_2 : ACode := .seq c59_3 c59_10
def c59_1 : ACode := .reg [{ dst := some 1, op := AOp.box 5 (Opd.t 0), grd := none }, { dst := some 2, op := AOp.mv (Opd.c (AV.nilSlc)), grd := none }, { dst := some 3, op := AOp.mv (Opd.c (AV.int (IntKind.i64) 0)), grd := none }]
def c59_0 : ACode := .seq c59_1 c59_2
def A59 : AFun := { np := 1, res := [(2, none), (3, none)], body := c59_0 }

def c60_48 : ACode := .ret
def c60_47 : ACode := .reg [{ dst := some 48, op := AOp.load false 1 (Opd.t 3), grd := none }, { dst := some 49, op := AOp.b2s (Opd.t 48), grd := none }, { dst := some 2, op := AOp.mv (Opd.t 49), grd := none }]
def c60_46 : ACode := .seq c60_47 c60_48
def c60_45 : ACode := .reg [{ dst := some 47, op := AOp.bin (BinOp.add) (Opd.t 14) (Opd.c (AV.int (IntKind.i64) 1)), grd := none }, { dst := some 14, op := AOp.mv (Opd.t 47), grd := none }]
def c60_44 : ACode := .reg [{ dst := some 46, op := AOp.bin (BinOp.add) (Opd.t 34) (Opd.c (AV.int (IntKind.i64) 1)), grd := none }, { dst := some 34, op := AOp.mv (Opd.t 46), grd := none }]
def c60_43 : ACode := .reg [{ dst := some 43, op := AOp.load false 1 (Opd.t 3), grd := none }, { dst := some 44, op := AOp.mv (Opd.t 9), grd := none }, { dst := some 45, op := AOp.appb 5 (Opd.t 43) (Opd.t 44), grd := none }, { dst := none, op := AOp.store 1 (Opd.t 3) (Opd.t 45), grd := none }]
def c60_42 : ACode := .reg [{ dst := some 39, op := AOp.load true 5 (Opd.t 8), grd := none }, { dst := some 40, op := AOp.call (Opd.c (AV.fn (AFn.func 59) [] [])) [Opd.t 39], grd := none }, { dst := some 38, op := AOp.mv (Opd.t 40), grd := none }, { dst := some 41, op := AOp.ext (Opd.t 38) 0, grd := none }, { dst := some 42, op := AOp.ext (Opd.t 38) 1, grd := none }, { dst := some 9, op := AOp.mv (Opd.t 41), grd := none }, { dst := some 10, op := AOp.mv (Opd.t 42), grd := none }]
def c60_41 : ACode := .seq c60_42 c60_43
def c60_40 : ACode := .reg [{ dst := some 36, op := AOp.iadr 5 (Opd.t 32) (Opd.t 34), grd := none }, { dst := some 37, op := AOp.load true 5 (Opd.t 36), grd := none }, { dst := some 8, op := AOp.alloc [AV.int (IntKind.i64) 0, AV.bool false, AV.int (IntKind.i64) 0, AV.str [], AV.nilSlc], grd := none }, { dst := none, op := AOp.store 5 (Opd.t 8) (Opd.t 37), grd := none }]
def c60_39 : ACode := .seq c60_40 c60_41
def c60_38 : ACode := .block 3 c60_39
def c60_37 : ACode := .seq c60_38 c60_44
def c60_36 : ACode := .exit 2
def c60_35 : ACode := .skip
def c60_34 : ACode := .cond (.t 35) c60_35 c60_36
def c60_33 : ACode := .seq c60_34 c60_37
def c60_32 : ACode := .reg [{ dst := some 35, op := AOp.bin (BinOp.lss) (Opd.t 34) (Opd.t 33), grd := none }]
def c60_31 : ACode := .seq c60_32 c60_33
def c60_30 : ACode := .loop c60_31
def c60_29 : ACode := .block 2 c60_30
def c60_28 : ACode := .reg [{ dst := some 31, op := AOp.fadr 2 (Opd.t 6), grd := none }, { dst := some 32, op := AOp.load false 1 (Opd.t 31), grd := none }, { dst := some 33, op := AOp.len 1 (Opd.t 32), grd := none }, { dst := some 34, op := AOp.mv (Opd.c (AV.int (IntKind.i64) 0)), grd := none }]
def c60_27 : ACode := .seq c60_28 c60_29
def c60_26 : ACode := .reg [{ dst := some 26, op := AOp.mv (Opd.t 4), grd := none }, { dst := some 27, op := AOp.fadr 2 (Opd.t 6), grd := none }, { dst := some 28, op := AOp.load false 1 (Opd.t 27), grd := none }, { dst := some 29, op := AOp.len 1 (Opd.t 28), grd := none }, { dst := some 30, op := AOp.call (Opd.t 26) [Opd.t 29], grd := none }]
def c60_25 : ACode := .seq c60_26 c60_27
def c60_24 : ACode := .reg [{ dst := some 22, op := AOp.mv (Opd.t 4), grd := none }, { dst := some 23, op := AOp.fadr 1 (Opd.t 6), grd := none }, { dst := some 24, op := AOp.load false 1 (Opd.t 23), grd := none }, { dst := some 25, op := AOp.call (Opd.t 22) [Opd.t 24], grd := none }]
def c60_23 : ACode := .seq c60_24 c60_25
def c60_22 : ACode := .reg [{ dst := some 18, op := AOp.mv (Opd.t 4), grd := none }, { dst := some 19, op := AOp.fadr 0 (Opd.t 6), grd := none }, { dst := some 20, op := AOp.load false 1 (Opd.t 19), grd := none }, { dst := some 21, op := AOp.call (Opd.t 18) [Opd.t 20], grd := none }]
def c60_21 : ACode := .seq c60_22 c60_23
def c60_20 : ACode := .reg [{ dst := some 16, op := AOp.iadr 3 (Opd.t 12) (Opd.t 14), grd := none }, { dst := some 17, op := AOp.load true 3 (Opd.t 16), grd := none }, { dst := some 6, op := AOp.alloc [AV.int (IntKind.i64) 0, AV.int (IntKind.i64) 0, AV.nilSlc], grd := none }, { dst := none, op := AOp.store 3 (Opd.t 6) (Opd.t 17), grd := none }]
def c60_19 : ACode := .seq c60_20 c60_21
def c60_18 : ACode := .block 1 c60_19
def c60_17 : ACode := .seq c60_18 c60_45
def c60_16 : ACode := .exit 0
def c60_15 : ACode := .skip
def c60_14 : ACode := .cond (.t 15) c60_15 c60_16
def c60_13 : ACode := .seq c60_14 c60_17
def c60_12 : ACode := .reg [{ dst := some 15, op := AOp.bin (BinOp.lss) (Opd.t 14) (Opd.t 13), grd := none }]
def c60_11 : ACode := .seq c60_12 c60_13
def c60_10 : ACode := .loop c60_11
def c60_9 : ACode := .block 0 c60_10
def c60_8 : ACode := .reg [{ dst := some 12, op := AOp.mv (Opd.t 0), grd := none }, { dst := some 13, op := AOp.len 1 (Opd.t 12), grd := none }, { dst := some 14, op := AOp.mv (Opd.c (AV.int (IntKind.i64) 0)), grd := none }]
def c60_7 : ACode := .seq c60_8 c60_9
def c60_6 : ACode := .seq c60_7 c60_46
def c60_5 : ACode := .reg [{ dst := some 11, op := AOp.mkfn 69 [] [Opd.t 3], grd := none }, { dst := some 4, op := AOp.mv (Opd.t 11), grd := none }]
def c60_4 : ACode := .seq c60_5 c60_6
def c60_3 : ACode := .reg [{ dst := some 3, op := AOp.alloc [AV.nilSlc], grd := none }]
def c60_2 : ACode := .seq c60_3 c60_4
def c60_1 : ACode := .reg [{ dst := some 2, op := AOp.mv (Opd.c (AV.str [])), grd := none }]
def c60_0 : ACode := .seq c60_1 c60_2
def A60 : AFun := { np := 1, res := [(2, none)], body := c60_0 }

def c61_6 : ACode := .ret
def c61_5 : ACode := .reg [{ dst := some 7, op := AOp.load true 5 (Opd.t 1), grd := none }, { dst := none, op := AOp.store 5 (Opd.t 2) (Opd.t 7), grd := none }]
def c61_4 : ACode := .seq c61_5 c61_6
def c61_3 : ACode := .reg [{ dst := some 3, op := AOp.fadr 4 (Opd.t 1), grd := none }, { dst := some 4, op := AOp.load false 1 (Opd.t 3), grd := none }, { dst := some 5, op := AOp.call (Opd.c (AV.fn (AFn.func 40) [] [])) [Opd.t 4], grd := none }, { dst := some 6, op := AOp.fadr 4 (Opd.t 1), grd := none }, { dst := none, op := AOp.store 1 (Opd.t 6) (Opd.t 5), grd := none }]
def c61_2 : ACode := .seq c61_3 c61_4
def c61_1 : ACode := .reg [{ dst := some 1, op := AOp.box 5 (Opd.t 0), grd := none }, { dst := some 2, op := AOp.alloc [AV.int (IntKind.i64) 0, AV.bool false, AV.int (IntKind.i64) 0, AV.str [], AV.nilSlc], grd := none }]
def c61_0 : ACode := .seq c61_1 c61_2
def A61 : AFun := { np := 1, res := [(2, some (true, 5))], body := c61_0 }

def c66_27 : ACode := .ret
def c66_26 : ACode := .reg [{ dst := some 4, op := AOp.mv (Opd.c (AV.int (IntKind.i64) (-1))), grd := none }]
def c66_25 : ACode := .seq c66_26 c66_27
def c66_24 : ACode := .reg [{ dst := some 18, op := AOp.bin (BinOp.add) (Opd.t 8) (Opd.c (AV.int (IntKind.i64) 1)), grd := none }, { dst := some 8, op := AOp.mv (Opd.t 18), grd := none }]
def c66_23 : ACode := .skip
def c66_22 : ACode := .ret
def c66_21 : ACode := .reg [{ dst := some 17, op := AOp.mv (Opd.t 5), grd := none }, { dst := some 4, op := AOp.mv (Opd.t 17), grd := none }]
def c66_20 : ACode := .seq c66_21 c66_22
def c66_19 : ACode := .cond (.t 16) c66_20 c66_23
def c66_18 : ACode := .reg [{ dst := some 11, op := AOp.mv (Opd.t 1), grd := none }, { dst := some 12, op := AOp.mv (Opd.t 0), grd := none }, { dst := some 13, op := AOp.mv (Opd.t 5), grd := none }, { dst := some 14, op := AOp.iadr 5 (Opd.t 12) (Opd.t 13), grd := none }, { dst := some 15, op := AOp.load true 5 (Opd.t 14), grd := none }, { dst := some 16, op := AOp.call (Opd.t 11) [Opd.t 15], grd := none }]
def c66_17 : ACode := .seq c66_18 c66_19
def c66_16 : ACode := .reg [{ dst := some 10, op := AOp.mv (Opd.t 8), grd := none }, { dst := some 5, op := AOp.mv (Opd.t 10), grd := none }]
def c66_15 : ACode := .seq c66_16 c66_17
def c66_14 : ACode := .block 1 c66_15
def c66_13 : ACode := .seq c66_14 c66_24
def c66_12 : ACode := .exit 0
def c66_11 : ACode := .skip
def c66_10 : ACode := .cond (.t 9) c66_11 c66_12
def c66_9 : ACode := .seq c66_10 c66_13
def c66_8 : ACode := .reg [{ dst := some 9, op := AOp.bin (BinOp.lss) (Opd.t 8) (Opd.t 7), grd := none }]
def c66_7 : ACode := .seq c66_8 c66_9
def c66_6 : ACode := .loop c66_7
def c66_5 : ACode := .block 0 c66_6
def c66_4 : ACode := .reg [{ dst := some 6, op := AOp.mv (Opd.t 0), grd := none }, { dst := some 7, op := AOp.len 1 (Opd.t 6), grd := none }, { dst := some 8, op := AOp.mv (Opd.c (AV.int (IntKind.i64) 0)), grd := none }]
def c66_3 : ACode := .seq c66_4 c66_5
def c66_2 : ACode := .seq c66_3 c66_25
def c66_1 : ACode := .reg [{ dst := some 4, op := AOp.mv (Opd.c (AV.int (IntKind.i64) 0)), grd := none }]
def c66_0 : ACode := .seq c66_1 c66_2
def A66 : AFun := { np := 2, res := [(4, none)], body := c66_0 }

def c67_66 : ACode := .ret
set_option maxRecDepth 100000 in
def c67_65 : ACode := .reg [{ dst := some 59, op := AOp.fadr 1 (Opd.t 2), grd := none }, { dst := some 60, op := AOp.load false 1 (Opd.t 59), grd := none }, { dst := some 61, op := AOp.fadr 1 (Opd.t 5), grd := none }, { dst := some 62, op := AOp.load false 1 (Opd.t 61), grd := none }, { dst := some 63, op := AOp.eq false (EqK.bool) (Opd.t 60) (Opd.t 62), grd := none }, { dst := some 64, op := AOp.mv (Opd.t 63), grd := none }, { dst := some 65, op := AOp.fadr 2 (Opd.t 2), grd := some (64, true) }, { dst := some 66, op := AOp.load false 1 (Opd.t 65), grd := some (64, true) }, { dst := some 67, op := AOp.fadr 2 (Opd.t 5), grd := some (64, true) }, { dst := some 68, op := AOp.load false 1 (Opd.t 67), grd := some (64, true) }, { dst := some 69, op := AOp.bin (BinOp.eql) (Opd.t 66) (Opd.t 68), grd := some (64, true) }, { dst := some 70, op := AOp.pick (Opd.t 64) (Opd.t 69) (Opd.c (AV.bool false)), grd := none }, { dst := some 71, op := AOp.mv (Opd.t 70), grd := none }, { dst := some 72, op := AOp.fadr 3 (Opd.t 2), grd := some (71, true) }, { dst := some 73, op := AOp.load false 1 (Opd.t 72), grd := some (71, true) }, { dst := some 74, op := AOp.fadr 3 (Opd.t 5), grd := some (71, true) }, { dst := some 75, op := AOp.load false 1 (Opd.t 74), grd := some (71, true) }, { dst := some 76, op := AOp.bin (BinOp.eql) (Opd.t 73) (Opd.t 75), grd := some (71, true) }, { dst := some 77, op := AOp.pick (Opd.t 71) (Opd.t 76) (Opd.c (AV.bool false)), grd := none }, { dst := some 78, op := AOp.mv (Opd.t 77), grd := none }, { dst := some 79, op := AOp.fadr 3 (Opd.t 2), grd := some (78, true) }, { dst := some 80, op := AOp.load false 1 (Opd.t 79), grd := some (78, true) }, { dst := some 81, op := AOp.len 0 (Opd.t 80), grd := some (78, true) }, { dst := some 82, op := AOp.bin (BinOp.leq) (Opd.t 81) (Opd.c (AV.int (IntKind.i64) 65536)), grd := some (78, true) }, { dst := some 83, op := AOp.pick (Opd.t 78) (Opd.t 82) (Opd.c (AV.bool false)), grd := none }, { dst := some 84, op := AOp.mv (Opd.t 83), grd := none }, { dst := some 85, op := AOp.fadr 4 (Opd.t 2), grd := some (84, true) }, { dst := some 86, op := AOp.load false 1 (Opd.t 85), grd := some (84, true) }, { dst := some 87, op := AOp.len 1 (Opd.t 86), grd := some (84, true) }, { dst := some 88, op := AOp.bin (BinOp.eql) (Opd.t 87) (Opd.c (AV.int (IntKind.i64) 0)), grd := some (84, true) }, { dst := some 89, op := AOp.mv (Opd.t 88), grd := some (84, true) }, { dst := some 90, op := AOp.fadr 0 (Opd.t 2), grd := some (89, false) }, { dst := some 91, op := AOp.load false 1 (Opd.t 90), grd := some (89, false) }, { dst := some 92, op := AOp.bin (BinOp.eql) (Opd.t 91) (Opd.c (AV.int (IntKind.i64) 4)), grd := some (89, false) }, { dst := some 93, op := AOp.pick (Opd.t 89) (Opd.c (AV.bool true)) (Opd.t 92), grd := some (84, true) }, { dst := some 94, op := AOp.pick (Opd.t 84) (Opd.t 93) (Opd.c (AV.bool false)), grd := none }, { dst := some 4, op := AOp.mv (Opd.t 94), grd := none }]
def c67_64 : ACode := .seq c67_65 c67_66
def c67_63 : ACode := .ret
def c67_62 : ACode := .reg [{ dst := some 4, op := AOp.mv (Opd.c (AV.bool false)), grd := none }]
def c67_61 : ACode := .seq c67_62 c67_63
def c67_60 : ACode := .reg [{ dst := some 58, op := AOp.bin (BinOp.add) (Opd.t 49) (Opd.c (AV.int (IntKind.i64) 1)), grd := none }, { dst := some 49, op := AOp.mv (Opd.t 58), grd := none }]
def c67_59 : ACode := .skip
def c67_58 : ACode := .ret
def c67_57 : ACode := .reg [{ dst := some 4, op := AOp.mv (Opd.c (AV.bool false)), grd := none }]
def c67_56 : ACode := .seq c67_57 c67_58
def c67_55 : ACode := .cond (.t 57) c67_56 c67_59
def c67_54 : ACode := .reg [{ dst := some 53, op := AOp.load true 5 (Opd.t 7), grd := none }, { dst := some 54, op := AOp.mv (Opd.t 1), grd := none }, { dst := some 55, op := AOp.bin (BinOp.add) (Opd.t 54) (Opd.c (AV.int (IntKind.i64) 1)), grd := none }, { dst := some 56, op := AOp.call (Opd.c (AV.fn (AFn.func 67) [] [])) [Opd.t 53, Opd.t 55], grd := none }, { dst := some 57, op := AOp.not (Opd.t 56), grd := none }]
def c67_53 : ACode := .seq c67_54 c67_55
def c67_52 : ACode := .reg [{ dst := some 51, op := AOp.iadr 5 (Opd.t 47) (Opd.t 49), grd := none }, { dst := some 52, op := AOp.load true 5 (Opd.t 51), grd := none }, { dst := some 7, op := AOp.alloc [AV.int (IntKind.i64) 0, AV.bool false, AV.int (IntKind.i64) 0, AV.str [], AV.nilSlc], grd := none }, { dst := none, op := AOp.store 5 (Opd.t 7) (Opd.t 52), grd := none }]
def c67_51 : ACode := .seq c67_52 c67_53
def c67_50 : ACode := .block 2 c67_51
def c67_49 : ACode := .seq c67_50 c67_60
def c67_48 : ACode := .exit 1
def c67_47 : ACode := .skip
def c67_46 : ACode := .cond (.t 50) c67_47 c67_48
def c67_45 : ACode := .seq c67_46 c67_49
def c67_44 : ACode := .reg [{ dst := some 50, op := AOp.bin (BinOp.lss) (Opd.t 49) (Opd.t 48), grd := none }]
def c67_43 : ACode := .seq c67_44 c67_45
def c67_42 : ACode := .loop c67_43
def c67_41 : ACode := .block 1 c67_42
def c67_40 : ACode := .reg [{ dst := some 46, op := AOp.fadr 4 (Opd.t 2), grd := none }, { dst := some 47, op := AOp.load false 1 (Opd.t 46), grd := none }, { dst := some 48, op := AOp.len 1 (Opd.t 47), grd := none }, { dst := some 49, op := AOp.mv (Opd.c (AV.int (IntKind.i64) 0)), grd := none }]
def c67_39 : ACode := .seq c67_40 c67_41
def c67_38 : ACode := .skip
def c67_37 : ACode := .ret
def c67_36 : ACode := .reg [{ dst := some 4, op := AOp.mv (Opd.c (AV.bool false)), grd := none }]
def c67_35 : ACode := .seq c67_36 c67_37
def c67_34 : ACode := .cond (.t 45) c67_35 c67_38
def c67_33 : ACode := .reg [{ dst := some 38, op := AOp.mv (Opd.t 1), grd := none }, { dst := some 39, op := AOp.bin (BinOp.geq) (Opd.t 38) (Opd.c (AV.int (IntKind.i64) 30)), grd := none }, { dst := some 40, op := AOp.mv (Opd.t 39), grd := none }, { dst := some 41, op := AOp.fadr 4 (Opd.t 2), grd := some (40, false) }, { dst := some 42, op := AOp.load false 1 (Opd.t 41), grd := some (40, false) }, { dst := some 43, op := AOp.len 1 (Opd.t 42), grd := some (40, false) }, { dst := some 44, op := AOp.bin (BinOp.gtr) (Opd.t 43) (Opd.c (AV.int (IntKind.i64) 4096)), grd := some (40, false) }, { dst := some 45, op := AOp.pick (Opd.t 40) (Opd.c (AV.bool true)) (Opd.t 44), grd := none }]
def c67_32 : ACode := .seq c67_33 c67_34
def c67_31 : ACode := .seq c67_32 c67_39
def c67_30 : ACode := .cond (.t 36) c67_31 c67_61
def c67_29 : ACode := .reg [{ dst := some 37, op := AOp.bin (BinOp.eql) (Opd.t 12) (Opd.c (AV.int (IntKind.i64) 4)), grd := none }, { dst := some 36, op := AOp.mv (Opd.t 37), grd := none }]
def c67_28 : ACode := .seq c67_29 c67_30
def c67_27 : ACode := .reg [{ dst := some 33, op := AOp.fadr 3 (Opd.t 2), grd := none }, { dst := some 34, op := AOp.load false 1 (Opd.t 33), grd := none }, { dst := some 35, op := AOp.fadr 3 (Opd.t 5), grd := none }, { dst := none, op := AOp.store 1 (Opd.t 35) (Opd.t 34), grd := none }]
def c67_26 : ACode := .cond (.t 31) c67_27 c67_28
def c67_25 : ACode := .reg [{ dst := some 32, op := AOp.bin (BinOp.eql) (Opd.t 12) (Opd.c (AV.int (IntKind.i64) 3)), grd := none }, { dst := some 31, op := AOp.mv (Opd.t 32), grd := none }]
def c67_24 : ACode := .seq c67_25 c67_26
def c67_23 : ACode := .reg [{ dst := some 27, op := AOp.fadr 2 (Opd.t 2), grd := none }, { dst := some 28, op := AOp.load false 1 (Opd.t 27), grd := none }, { dst := some 29, op := AOp.mm true [Opd.t 28, Opd.c (AV.int (IntKind.i64) 1)], grd := none }, { dst := some 30, op := AOp.fadr 2 (Opd.t 5), grd := none }, { dst := none, op := AOp.store 1 (Opd.t 30) (Opd.t 29), grd := none }]
def c67_22 : ACode := .cond (.t 25) c67_23 c67_24
def c67_21 : ACode := .reg [{ dst := some 26, op := AOp.bin (BinOp.eql) (Opd.t 12) (Opd.c (AV.int (IntKind.i64) 5)), grd := none }, { dst := some 25, op := AOp.mv (Opd.t 26), grd := none }]
def c67_20 : ACode := .seq c67_21 c67_22
def c67_19 : ACode := .reg [{ dst := some 22, op := AOp.fadr 2 (Opd.t 2), grd := none }, { dst := some 23, op := AOp.load false 1 (Opd.t 22), grd := none }, { dst := some 24, op := AOp.fadr 2 (Opd.t 5), grd := none }, { dst := none, op := AOp.store 1 (Opd.t 24) (Opd.t 23), grd := none }]
def c67_18 : ACode := .cond (.t 20) c67_19 c67_20
def c67_17 : ACode := .reg [{ dst := some 21, op := AOp.bin (BinOp.eql) (Opd.t 12) (Opd.c (AV.int (IntKind.i64) 2)), grd := none }, { dst := some 20, op := AOp.mv (Opd.t 21), grd := none }]
def c67_16 : ACode := .seq c67_17 c67_18
def c67_15 : ACode := .reg [{ dst := some 17, op := AOp.fadr 1 (Opd.t 2), grd := none }, { dst := some 18, op := AOp.load false 1 (Opd.t 17), grd := none }, { dst := some 19, op := AOp.fadr 1 (Opd.t 5), grd := none }, { dst := none, op := AOp.store 1 (Opd.t 19) (Opd.t 18), grd := none }]
def c67_14 : ACode := .cond (.t 15) c67_15 c67_16
def c67_13 : ACode := .reg [{ dst := some 16, op := AOp.bin (BinOp.eql) (Opd.t 12) (Opd.c (AV.int (IntKind.i64) 1)), grd := none }, { dst := some 15, op := AOp.mv (Opd.t 16), grd := none }]
def c67_12 : ACode := .seq c67_13 c67_14
def c67_11 : ACode := .skip
def c67_10 : ACode := .cond (.t 13) c67_11 c67_12
def c67_9 : ACode := .reg [{ dst := some 14, op := AOp.bin (BinOp.eql) (Opd.t 12) (Opd.c (AV.int (IntKind.i64) 0)), grd := none }, { dst := some 13, op := AOp.mv (Opd.t 14), grd := none }]
def c67_8 : ACode := .seq c67_9 c67_10
def c67_7 : ACode := .block 0 c67_8
def c67_6 : ACode := .reg [{ dst := some 11, op := AOp.fadr 0 (Opd.t 2), grd := none }, { dst := some 12, op := AOp.load false 1 (Opd.t 11), grd := none }]
def c67_5 : ACode := .seq c67_6 c67_7
def c67_4 : ACode := .seq c67_5 c67_64
def c67_3 : ACode := .reg [{ dst := some 8, op := AOp.fadr 0 (Opd.t 2), grd := none }, { dst := some 9, op := AOp.load false 1 (Opd.t 8), grd := none }, { dst := some 10, op := AOp.build [AV.int (IntKind.i64) 0, AV.bool false, AV.int (IntKind.i64) 0, AV.str [], AV.nilSlc] [(0, 1, Opd.t 9)], grd := none }, { dst := some 5, op := AOp.alloc [AV.int (IntKind.i64) 0, AV.bool false, AV.int (IntKind.i64) 0, AV.str [], AV.nilSlc], grd := none }, { dst := none, op := AOp.store 5 (Opd.t 5) (Opd.t 10), grd := none }]
def c67_2 : ACode := .seq c67_3 c67_4
def c67_1 : ACode := .reg [{ dst := some 2, op := AOp.box 5 (Opd.t 0), grd := none }, { dst := some 4, op := AOp.mv (Opd.c (AV.bool false)), grd := none }]
def c67_0 : ACode := .seq c67_1 c67_2
def A67 : AFun := { np := 2, res := [(4, none)], body := c67_0 }

def c68_48 : ACode := .ret
def c68_47 : ACode := .reg [{ dst := some 62, op := AOp.mv (Opd.t 0), grd := none }, { dst := some 4, op := AOp.mv (Opd.t 62), grd := none }]
def c68_46 : ACode := .seq c68_47 c68_48
def c68_45 : ACode := .skip
def c68_44 : ACode := .reg [{ dst := some 61, op := AOp.bin (BinOp.add) (Opd.t 54) (Opd.c (AV.int (IntKind.i64) 1)), grd := none }, { dst := some 54, op := AOp.mv (Opd.t 61), grd := none }]
def c68_43 : ACode := .reg [{ dst := some 58, op := AOp.mv (Opd.t 0), grd := none }, { dst := some 59, op := AOp.load true 5 (Opd.t 6), grd := none }, { dst := some 60, op := AOp.call (Opd.c (AV.fn (AFn.func 68) [] [])) [Opd.t 58, Opd.t 59], grd := none }, { dst := some 0, op := AOp.mv (Opd.t 60), grd := none }]
def c68_42 : ACode := .reg [{ dst := some 56, op := AOp.iadr 5 (Opd.t 52) (Opd.t 54), grd := none }, { dst := some 57, op := AOp.load true 5 (Opd.t 56), grd := none }, { dst := some 6, op := AOp.alloc [AV.int (IntKind.i64) 0, AV.bool false, AV.int (IntKind.i64) 0, AV.str [], AV.nilSlc], grd := none }, { dst := none, op := AOp.store 5 (Opd.t 6) (Opd.t 57), grd := none }]
def c68_41 : ACode := .seq c68_42 c68_43
def c68_40 : ACode := .block 2 c68_41
def c68_39 : ACode := .seq c68_40 c68_44
def c68_38 : ACode := .exit 1
def c68_37 : ACode := .skip
def c68_36 : ACode := .cond (.t 55) c68_37 c68_38
def c68_35 : ACode := .seq c68_36 c68_39
def c68_34 : ACode := .reg [{ dst := some 55, op := AOp.bin (BinOp.lss) (Opd.t 54) (Opd.t 53), grd := none }]
def c68_33 : ACode := .seq c68_34 c68_35
def c68_32 : ACode := .loop c68_33
def c68_31 : ACode := .block 1 c68_32
def c68_30 : ACode := .reg [{ dst := some 51, op := AOp.fadr 4 (Opd.t 3), grd := none }, { dst := some 52, op := AOp.load false 1 (Opd.t 51), grd := none }, { dst := some 53, op := AOp.len 1 (Opd.t 52), grd := none }, { dst := some 54, op := AOp.mv (Opd.c (AV.int (IntKind.i64) 0)), grd := none }]
def c68_29 : ACode := .seq c68_30 c68_31
def c68_28 : ACode := .reg [{ dst := some 45, op := AOp.mv (Opd.t 0), grd := none }, { dst := some 46, op := AOp.fadr 4 (Opd.t 3), grd := none }, { dst := some 47, op := AOp.load false 1 (Opd.t 46), grd := none }, { dst := some 48, op := AOp.len 1 (Opd.t 47), grd := none }, { dst := some 49, op := AOp.conv (IntKind.u64) (Opd.t 48), grd := none }, { dst := some 50, op := AOp.call (Opd.c (AV.fn (AFn.func 89) [] [])) [Opd.t 45, Opd.t 49, Opd.c (AV.int (IntKind.i64) 4)], grd := none }, { dst := some 0, op := AOp.mv (Opd.t 50), grd := none }]
def c68_27 : ACode := .seq c68_28 c68_29
def c68_26 : ACode := .cond (.t 43) c68_27 c68_45
def c68_25 : ACode := .reg [{ dst := some 44, op := AOp.bin (BinOp.eql) (Opd.t 14) (Opd.c (AV.int (IntKind.i64) 4)), grd := none }, { dst := some 43, op := AOp.mv (Opd.t 44), grd := none }]
def c68_24 : ACode := .seq c68_25 c68_26
def c68_23 : ACode := .dreg [{ dst := some 34, op := AOp.mv (Opd.t 0), grd := none }, { dst := some 35, op := AOp.fadr 3 (Opd.t 3), grd := none }, { dst := some 36, op := AOp.load false 1 (Opd.t 35), grd := none }, { dst := some 37, op := AOp.len 0 (Opd.t 36), grd := none }, { dst := some 38, op := AOp.conv (IntKind.u64) (Opd.t 37), grd := none }, { dst := some 40, op := AOp.fadr 3 (Opd.t 3), grd := none }, { dst := some 41, op := AOp.load false 1 (Opd.t 40), grd := none }] [({ dst := some 39, op := AOp.call (Opd.c (AV.fn (AFn.func 89) [] [])) [Opd.t 34, Opd.t 38, Opd.c (AV.int (IntKind.i64) 4)], grd := none }, [{ dst := some 41, op := AOp.load false 1 (Opd.t 40), grd := none }], []), ({ dst := some 42, op := AOp.app 1 1 (Opd.t 39) (Opd.t 41), grd := none }, [], []), ({ dst := some 0, op := AOp.mv (Opd.t 42), grd := none }, [], [])]
def c68_22 : ACode := .cond (.t 32) c68_23 c68_24
def c68_21 : ACode := .reg [{ dst := some 33, op := AOp.bin (BinOp.eql) (Opd.t 14) (Opd.c (AV.int (IntKind.i64) 3)), grd := none }, { dst := some 32, op := AOp.mv (Opd.t 33), grd := none }]
def c68_20 : ACode := .seq c68_21 c68_22
def c68_19 : ACode := .reg [{ dst := some 27, op := AOp.mv (Opd.t 0), grd := none }, { dst := some 28, op := AOp.fadr 2 (Opd.t 3), grd := none }, { dst := some 29, op := AOp.load false 1 (Opd.t 28), grd := none }, { dst := some 30, op := AOp.conv (IntKind.u64) (Opd.t 29), grd := none }, { dst := some 31, op := AOp.call (Opd.c (AV.fn (AFn.func 89) [] [])) [Opd.t 27, Opd.t 30, Opd.c (AV.int (IntKind.i64) 8)], grd := none }, { dst := some 0, op := AOp.mv (Opd.t 31), grd := none }]
def c68_18 : ACode := .cond (.t 24) c68_19 c68_20
def c68_17 : ACode := .reg [{ dst := some 26, op := AOp.bin (BinOp.eql) (Opd.t 14) (Opd.c (AV.int (IntKind.i64) 5)), grd := none }, { dst := some 24, op := AOp.mv (Opd.t 26), grd := none }]
def c68_16 : ACode := .skip
def c68_15 : ACode := .cond (.t 24) c68_16 c68_17
def c68_14 : ACode := .reg [{ dst := some 25, op := AOp.bin (BinOp.eql) (Opd.t 14) (Opd.c (AV.int (IntKind.i64) 2)), grd := none }, { dst := some 24, op := AOp.mv (Opd.t 25), grd := none }]
def c68_13 : ACode := .seq c68_14 c68_15
def c68_12 : ACode := .seq c68_13 c68_18
def c68_11 : ACode := .reg [{ dst := some 17, op := AOp.mv (Opd.t 0), grd := none }, { dst := some 18, op := AOp.fadr 1 (Opd.t 3), grd := none }, { dst := some 19, op := AOp.load false 1 (Opd.t 18), grd := none }, { dst := some 20, op := AOp.call (Opd.c (AV.fn (AFn.func 88) [] [])) [Opd.t 19], grd := none }, { dst := some 21, op := AOp.conv (IntKind.u8) (Opd.t 20), grd := none }, { dst := some 22, op := AOp.bslice 1 1 [AV.int (IntKind.u8) 0] [(0, Opd.t 21)], grd := none }, { dst := some 23, op := AOp.appb 5 (Opd.t 17) (Opd.t 22), grd := none }, { dst := some 0, op := AOp.mv (Opd.t 23), grd := none }]
def c68_10 : ACode := .cond (.t 15) c68_11 c68_12
def c68_9 : ACode := .reg [{ dst := some 16, op := AOp.bin (BinOp.eql) (Opd.t 14) (Opd.c (AV.int (IntKind.i64) 1)), grd := none }, { dst := some 15, op := AOp.mv (Opd.t 16), grd := none }]
def c68_8 : ACode := .seq c68_9 c68_10
def c68_7 : ACode := .block 0 c68_8
def c68_6 : ACode := .reg [{ dst := some 13, op := AOp.fadr 0 (Opd.t 3), grd := none }, { dst := some 14, op := AOp.load false 1 (Opd.t 13), grd := none }]
def c68_5 : ACode := .seq c68_6 c68_7
def c68_4 : ACode := .seq c68_5 c68_46
def c68_3 : ACode := .reg [{ dst := some 7, op := AOp.mv (Opd.t 0), grd := none }, { dst := some 8, op := AOp.fadr 0 (Opd.t 3), grd := none }, { dst := some 9, op := AOp.load false 1 (Opd.t 8), grd := none }, { dst := some 10, op := AOp.conv (IntKind.u8) (Opd.t 9), grd := none }, { dst := some 11, op := AOp.bslice 1 1 [AV.int (IntKind.u8) 0] [(0, Opd.t 10)], grd := none }, { dst := some 12, op := AOp.appb 5 (Opd.t 7) (Opd.t 11), grd := none }, { dst := some 0, op := AOp.mv (Opd.t 12), grd := none }]
def c68_2 : ACode := .seq c68_3 c68_4
def c68_1 : ACode := .reg [{ dst := some 3, op := AOp.box 5 (Opd.t 1), grd := none }, { dst := some 4, op := AOp.mv (Opd.c (AV.nilSlc)), grd := none }]
def c68_0 : ACode := .seq c68_1 c68_2
def A68 : AFun := { np := 2, res := [(4, none)], body := c68_0 }

def c69_13 : ACode := .reg [{ dst := some 6, op := AOp.mv (Opd.t 3), grd := none }, { dst := some 7, op := AOp.bin (BinOp.sub) (Opd.t 6) (Opd.c (AV.int (IntKind.i64) 1)), grd := none }, { dst := some 3, op := AOp.mv (Opd.t 7), grd := none }]
def c69_12 : ACode := .dreg [{ dst := some 8, op := AOp.load false 1 (Opd.t 1), grd := none }, { dst := some 9, op := AOp.mv (Opd.t 0), grd := none }, { dst := some 10, op := AOp.mv (Opd.t 3), grd := none }, { dst := some 11, op := AOp.bin (BinOp.mul) (Opd.c (AV.int (IntKind.i64) 8)) (Opd.t 10), grd := none }, { dst := some 12, op := AOp.bin (BinOp.shr) (Opd.t 9) (Opd.t 11), grd := none }, { dst := some 13, op := AOp.conv (IntKind.u8) (Opd.t 12), grd := none }] [({ dst := some 14, op := AOp.bslice 1 1 [AV.int (IntKind.u8) 0] [(0, Opd.t 13)], grd := none }, [{ dst := some 8, op := AOp.load false 1 (Opd.t 1), grd := none }], []), ({ dst := some 15, op := AOp.appb 5 (Opd.t 8) (Opd.t 14), grd := none }, [], []), ({ dst := none, op := AOp.store 1 (Opd.t 1) (Opd.t 15), grd := none }, [], [])]
def c69_11 : ACode := .block 1 c69_12
def c69_10 : ACode := .seq c69_11 c69_13
def c69_9 : ACode := .exit 0
def c69_8 : ACode := .skip
def c69_7 : ACode := .cond (.t 5) c69_8 c69_9
def c69_6 : ACode := .reg [{ dst := some 4, op := AOp.mv (Opd.t 3), grd := none }, { dst := some 5, op := AOp.bin (BinOp.geq) (Opd.t 4) (Opd.c (AV.int (IntKind.i64) 0)), grd := none }]
def c69_5 : ACode := .seq c69_6 c69_7
def c69_4 : ACode := .seq c69_5 c69_10
def c69_3 : ACode := .loop c69_4
def c69_2 : ACode := .block 0 c69_3
def c69_1 : ACode := .reg [{ dst := some 3, op := AOp.mv (Opd.c (AV.int (IntKind.i64) 7)), grd := none }]
def c69_0 : ACode := .seq c69_1 c69_2
def A69 : AFun := { np := 2, res := [], body := c69_0 }

def c88_12 : ACode := .ret
def c88_11 : ACode := .reg [{ dst := some 2, op := AOp.mv (Opd.c (AV.int (IntKind.i64) 0)), grd := none }]
def c88_10 : ACode := .seq c88_11 c88_12
def c88_9 : ACode := .skip
def c88_8 : ACode := .ret
def c88_7 : ACode := .reg [{ dst := some 2, op := AOp.mv (Opd.c (AV.int (IntKind.i64) 1)), grd := none }]
def c88_6 : ACode := .seq c88_7 c88_8
def c88_5 : ACode := .cond (.t 3) c88_6 c88_9
def c88_4 : ACode := .reg [{ dst := some 3, op := AOp.mv (Opd.t 0), grd := none }]
def c88_3 : ACode := .seq c88_4 c88_5
def c88_2 : ACode := .seq c88_3 c88_10
def c88_1 : ACode := .reg [{ dst := some 2, op := AOp.mv (Opd.c (AV.int (IntKind.i64) 0)), grd := none }]
def c88_0 : ACode := .seq c88_1 c88_2
def A88 : AFun := { np := 1, res := [(2, none)], body := c88_0 }

def c89_19 : ACode := .ret
def c89_18 : ACode := .reg [{ dst := some 22, op := AOp.mv (Opd.t 0), grd := none }, { dst := some 6, op := AOp.mv (Opd.t 22), grd := none }]
def c89_17 : ACode := .seq c89_18 c89_19
def c89_16 : ACode := .reg [{ dst := some 12, op := AOp.mv (Opd.t 7), grd := none }, { dst := some 13, op := AOp.bin (BinOp.sub) (Opd.t 12) (Opd.c (AV.int (IntKind.i64) 1)), grd := none }, { dst := some 7, op := AOp.mv (Opd.t 13), grd := none }]
def c89_15 : ACode := .reg [{ dst := some 14, op := AOp.mv (Opd.t 0), grd := none }, { dst := some 15, op := AOp.mv (Opd.t 1), grd := none }, { dst := some 16, op := AOp.mv (Opd.t 7), grd := none }, { dst := some 17, op := AOp.bin (BinOp.mul) (Opd.c (AV.int (IntKind.i64) 8)) (Opd.t 16), grd := none }, { dst := some 18, op := AOp.bin (BinOp.shr) (Opd.t 15) (Opd.t 17), grd := none }, { dst := some 19, op := AOp.conv (IntKind.u8) (Opd.t 18), grd := none }, { dst := some 20, op := AOp.bslice 1 1 [AV.int (IntKind.u8) 0] [(0, Opd.t 19)], grd := none }, { dst := some 21, op := AOp.appb 5 (Opd.t 14) (Opd.t 20), grd := none }, { dst := some 0, op := AOp.mv (Opd.t 21), grd := none }]
def c89_14 : ACode := .block 1 c89_15
def c89_13 : ACode := .seq c89_14 c89_16
def c89_12 : ACode := .exit 0
def c89_11 : ACode := .skip
def c89_10 : ACode := .cond (.t 11) c89_11 c89_12
def c89_9 : ACode := .reg [{ dst := some 10, op := AOp.mv (Opd.t 7), grd := none }, { dst := some 11, op := AOp.bin (BinOp.geq) (Opd.t 10) (Opd.c (AV.int (IntKind.i64) 0)), grd := none }]
def c89_8 : ACode := .seq c89_9 c89_10
def c89_7 : ACode := .seq c89_8 c89_13
def c89_6 : ACode := .loop c89_7
def c89_5 : ACode := .block 0 c89_6
def c89_4 : ACode := .reg [{ dst := some 8, op := AOp.mv (Opd.t 2), grd := none }, { dst := some 9, op := AOp.bin (BinOp.sub) (Opd.t 8) (Opd.c (AV.int (IntKind.i64) 1)), grd := none }, { dst := some 7, op := AOp.mv (Opd.t 9), grd := none }]
def c89_3 : ACode := .seq c89_4 c89_5
def c89_2 : ACode := .seq c89_3 c89_17
def c89_1 : ACode := .reg [{ dst := some 6, op := AOp.mv (Opd.c (AV.nilSlc)), grd := none }]
def c89_0 : ACode := .seq c89_1 c89_2
def A89 : AFun := { np := 3, res := [(6, none)], body := c89_0 }

end Go.Proofs.Ytbamgdknkhhikaa
