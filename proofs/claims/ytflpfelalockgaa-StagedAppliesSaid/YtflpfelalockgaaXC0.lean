/-
  The code of the functions, as the abstract machine's (printed by wip/tools/gen.py).
-/
import Derived.Test.YtflpfelalockgaaAbSim
namespace Go.Proofs.Ytflpfelalockgaa
open Go.Ab
set_option linter.unusedVariables false

def c3_131 : ACode := .ret
def c3_130 : ACode := .reg [{ dst := some 152, op := AOp.call (Opd.c (AV.fn (AFn.func 11) [] [])) [], grd := none }, { dst := some 2, op := AOp.mv (Opd.t 152), grd := none }]
def c3_129 : ACode := .seq c3_130 c3_131
def c3_128 : ACode := .reg [{ dst := some 141, op := AOp.mv (Opd.t 17), grd := none }, { dst := some 142, op := AOp.bin (BinOp.add) (Opd.t 141) (Opd.c (AV.int (IntKind.i64) 1)), grd := none }, { dst := some 17, op := AOp.mv (Opd.t 142), grd := none }]
def c3_127 : ACode := .skip
def c3_126 : ACode := .ret
def c3_125 : ACode := .reg [{ dst := some 2, op := AOp.mv (Opd.c (AV.bool false)), grd := none }]
def c3_124 : ACode := .seq c3_125 c3_126
def c3_123 : ACode := .cond (.t 151) c3_124 c3_127
def c3_122 : ACode := .dreg [{ dst := some 143, op := AOp.mv (Opd.t 5), grd := none }, { dst := some 144, op := AOp.mv (Opd.t 17), grd := none }, { dst := some 145, op := AOp.iadr 1 (Opd.t 143) (Opd.t 144), grd := none }, { dst := some 146, op := AOp.load false 1 (Opd.t 145), grd := none }, { dst := some 147, op := AOp.mv (Opd.t 6), grd := none }, { dst := some 148, op := AOp.mv (Opd.t 17), grd := none }, { dst := some 149, op := AOp.iadr 1 (Opd.t 147) (Opd.t 148), grd := none }, { dst := some 150, op := AOp.load false 1 (Opd.t 149), grd := none }, { dst := some 151, op := AOp.eq true (EqK.bool) (Opd.t 146) (Opd.t 150), grd := none }] []
def c3_121 : ACode := .seq c3_122 c3_123
def c3_120 : ACode := .block 9 c3_121
def c3_119 : ACode := .seq c3_120 c3_128
def c3_118 : ACode := .exit 8
def c3_117 : ACode := .skip
def c3_116 : ACode := .cond (.t 140) c3_117 c3_118
def c3_115 : ACode := .reg [{ dst := some 139, op := AOp.mv (Opd.t 17), grd := none }, { dst := some 140, op := AOp.bin (BinOp.lss) (Opd.t 139) (Opd.c (AV.int (IntKind.i64) 5)), grd := none }]
def c3_114 : ACode := .seq c3_115 c3_116
def c3_113 : ACode := .seq c3_114 c3_119
def c3_112 : ACode := .loop c3_113
def c3_111 : ACode := .block 8 c3_112
def c3_110 : ACode := .reg [{ dst := some 17, op := AOp.mv (Opd.c (AV.int (IntKind.i64) 0)), grd := none }]
def c3_109 : ACode := .seq c3_110 c3_111
def c3_108 : ACode := .seq c3_109 c3_129
def c3_107 : ACode := .reg [{ dst := some 127, op := AOp.mv (Opd.t 16), grd := none }, { dst := some 128, op := AOp.bin (BinOp.add) (Opd.t 127) (Opd.c (AV.int (IntKind.i64) 1)), grd := none }, { dst := some 16, op := AOp.mv (Opd.t 128), grd := none }]
def c3_106 : ACode := .skip
def c3_105 : ACode := .ret
def c3_104 : ACode := .reg [{ dst := some 2, op := AOp.mv (Opd.c (AV.bool false)), grd := none }]
def c3_103 : ACode := .seq c3_104 c3_105
def c3_102 : ACode := .cond (.t 138) c3_103 c3_106
def c3_101 : ACode := .reg [{ dst := some 129, op := AOp.mv (Opd.t 5), grd := none }, { dst := some 130, op := AOp.mv (Opd.t 4), grd := none }, { dst := some 131, op := AOp.mv (Opd.t 12), grd := none }, { dst := some 132, op := AOp.mv (Opd.t 16), grd := none }, { dst := some 133, op := AOp.iadr 1 (Opd.t 131) (Opd.t 132), grd := none }, { dst := some 134, op := AOp.load false 1 (Opd.t 133), grd := none }, { dst := some 135, op := AOp.call (Opd.c (AV.fn (AFn.func 10) [] [])) [Opd.t 130, Opd.t 134], grd := none }, { dst := some 136, op := AOp.iadr 1 (Opd.t 129) (Opd.t 135), grd := none }, { dst := some 137, op := AOp.load false 1 (Opd.t 136), grd := none }, { dst := some 138, op := AOp.not (Opd.t 137), grd := none }]
def c3_100 : ACode := .seq c3_101 c3_102
def c3_99 : ACode := .block 7 c3_100
def c3_98 : ACode := .seq c3_99 c3_107
def c3_97 : ACode := .exit 6
def c3_96 : ACode := .skip
def c3_95 : ACode := .cond (.t 126) c3_96 c3_97
def c3_94 : ACode := .reg [{ dst := some 123, op := AOp.mv (Opd.t 16), grd := none }, { dst := some 124, op := AOp.mv (Opd.t 12), grd := none }, { dst := some 125, op := AOp.len 1 (Opd.t 124), grd := none }, { dst := some 126, op := AOp.bin (BinOp.lss) (Opd.t 123) (Opd.t 125), grd := none }]
def c3_93 : ACode := .seq c3_94 c3_95
def c3_92 : ACode := .seq c3_93 c3_98
def c3_91 : ACode := .loop c3_92
def c3_90 : ACode := .block 6 c3_91
def c3_89 : ACode := .reg [{ dst := some 16, op := AOp.mv (Opd.c (AV.int (IntKind.i64) 0)), grd := none }]
def c3_88 : ACode := .seq c3_89 c3_90
def c3_87 : ACode := .seq c3_88 c3_108
def c3_86 : ACode := .reg [{ dst := some 113, op := AOp.mv (Opd.t 15), grd := none }, { dst := some 114, op := AOp.bin (BinOp.add) (Opd.t 113) (Opd.c (AV.int (IntKind.i64) 1)), grd := none }, { dst := some 15, op := AOp.mv (Opd.t 114), grd := none }]
def c3_85 : ACode := .reg [{ dst := some 115, op := AOp.mv (Opd.t 5), grd := none }, { dst := some 116, op := AOp.mv (Opd.t 4), grd := none }, { dst := some 117, op := AOp.mv (Opd.t 13), grd := none }, { dst := some 118, op := AOp.mv (Opd.t 15), grd := none }, { dst := some 119, op := AOp.iadr 1 (Opd.t 117) (Opd.t 118), grd := none }, { dst := some 120, op := AOp.load false 1 (Opd.t 119), grd := none }, { dst := some 121, op := AOp.call (Opd.c (AV.fn (AFn.func 10) [] [])) [Opd.t 116, Opd.t 120], grd := none }, { dst := some 122, op := AOp.iadr 1 (Opd.t 115) (Opd.t 121), grd := none }, { dst := none, op := AOp.store 1 (Opd.t 122) (Opd.c (AV.bool false)), grd := none }]
def c3_84 : ACode := .block 5 c3_85
def c3_83 : ACode := .seq c3_84 c3_86
def c3_82 : ACode := .exit 4
def c3_81 : ACode := .skip
def c3_80 : ACode := .cond (.t 112) c3_81 c3_82
def c3_79 : ACode := .reg [{ dst := some 109, op := AOp.mv (Opd.t 15), grd := none }, { dst := some 110, op := AOp.mv (Opd.t 13), grd := none }, { dst := some 111, op := AOp.len 1 (Opd.t 110), grd := none }, { dst := some 112, op := AOp.bin (BinOp.lss) (Opd.t 109) (Opd.t 111), grd := none }]
def c3_78 : ACode := .seq c3_79 c3_80
def c3_77 : ACode := .seq c3_78 c3_83
def c3_76 : ACode := .loop c3_77
def c3_75 : ACode := .block 4 c3_76
def c3_74 : ACode := .reg [{ dst := some 15, op := AOp.mv (Opd.c (AV.int (IntKind.i64) 0)), grd := none }]
def c3_73 : ACode := .seq c3_74 c3_75
def c3_72 : ACode := .seq c3_73 c3_87
def c3_71 : ACode := .reg [{ dst := some 99, op := AOp.mv (Opd.t 14), grd := none }, { dst := some 100, op := AOp.bin (BinOp.add) (Opd.t 99) (Opd.c (AV.int (IntKind.i64) 1)), grd := none }, { dst := some 14, op := AOp.mv (Opd.t 100), grd := none }]
def c3_70 : ACode := .reg [{ dst := some 101, op := AOp.mv (Opd.t 5), grd := none }, { dst := some 102, op := AOp.mv (Opd.t 4), grd := none }, { dst := some 103, op := AOp.mv (Opd.t 11), grd := none }, { dst := some 104, op := AOp.mv (Opd.t 14), grd := none }, { dst := some 105, op := AOp.iadr 1 (Opd.t 103) (Opd.t 104), grd := none }, { dst := some 106, op := AOp.load false 1 (Opd.t 105), grd := none }, { dst := some 107, op := AOp.call (Opd.c (AV.fn (AFn.func 10) [] [])) [Opd.t 102, Opd.t 106], grd := none }, { dst := some 108, op := AOp.iadr 1 (Opd.t 101) (Opd.t 107), grd := none }, { dst := none, op := AOp.store 1 (Opd.t 108) (Opd.c (AV.bool true)), grd := none }]
def c3_69 : ACode := .block 3 c3_70
def c3_68 : ACode := .seq c3_69 c3_71
def c3_67 : ACode := .exit 2
def c3_66 : ACode := .skip
def c3_65 : ACode := .cond (.t 98) c3_66 c3_67
def c3_64 : ACode := .reg [{ dst := some 95, op := AOp.mv (Opd.t 14), grd := none }, { dst := some 96, op := AOp.mv (Opd.t 11), grd := none }, { dst := some 97, op := AOp.len 1 (Opd.t 96), grd := none }, { dst := some 98, op := AOp.bin (BinOp.lss) (Opd.t 95) (Opd.t 97), grd := none }]
def c3_63 : ACode := .seq c3_64 c3_65
def c3_62 : ACode := .seq c3_63 c3_68
def c3_61 : ACode := .loop c3_62
def c3_60 : ACode := .block 2 c3_61
def c3_59 : ACode := .reg [{ dst := some 14, op := AOp.mv (Opd.c (AV.int (IntKind.i64) 0)), grd := none }]
def c3_58 : ACode := .seq c3_59 c3_60
def c3_57 : ACode := .seq c3_58 c3_72
def c3_56 : ACode := .reg [{ dst := some 90, op := AOp.mv (Opd.t 3), grd := none }, { dst := some 91, op := AOp.call (Opd.c (AV.fn (AFn.func 9) [] [])) [Opd.t 90], grd := none }, { dst := some 89, op := AOp.mv (Opd.t 91), grd := none }, { dst := some 92, op := AOp.ext (Opd.t 89) 0, grd := none }, { dst := some 93, op := AOp.ext (Opd.t 89) 1, grd := none }, { dst := some 94, op := AOp.ext (Opd.t 89) 2, grd := none }, { dst := some 11, op := AOp.mv (Opd.t 92), grd := none }, { dst := some 12, op := AOp.mv (Opd.t 93), grd := none }, { dst := some 13, op := AOp.mv (Opd.t 94), grd := none }]
def c3_55 : ACode := .seq c3_56 c3_57
def c3_54 : ACode := .reg [{ dst := some 35, op := AOp.mv (Opd.t 7), grd := none }, { dst := some 36, op := AOp.bin (BinOp.add) (Opd.t 35) (Opd.c (AV.int (IntKind.i64) 1)), grd := none }, { dst := some 7, op := AOp.mv (Opd.t 36), grd := none }]
def c3_53 : ACode := .reg [{ dst := some 83, op := AOp.mv (Opd.t 6), grd := none }, { dst := some 84, op := AOp.mv (Opd.t 8), grd := none }, { dst := some 85, op := AOp.load true 2 (Opd.t 9), grd := none }, { dst := some 86, op := AOp.call (Opd.c (AV.fn (AFn.func 7) [] [])) [Opd.t 85], grd := none }, { dst := some 87, op := AOp.bin (BinOp.neq) (Opd.t 86) (Opd.c (AV.int (IntKind.i64) 3)), grd := none }, { dst := some 88, op := AOp.iadr 1 (Opd.t 83) (Opd.t 84), grd := none }, { dst := none, op := AOp.store 1 (Opd.t 88) (Opd.t 87), grd := none }]
def c3_52 : ACode := .skip
def c3_51 : ACode := .ret
def c3_50 : ACode := .reg [{ dst := some 2, op := AOp.mv (Opd.c (AV.bool false)), grd := none }]
def c3_49 : ACode := .seq c3_50 c3_51
def c3_48 : ACode := .cond (.t 82) c3_49 c3_52
def c3_47 : ACode := .reg [{ dst := some 79, op := AOp.mv (Opd.t 3), grd := none }, { dst := some 80, op := AOp.load true 2 (Opd.t 9), grd := none }, { dst := some 81, op := AOp.call (Opd.c (AV.fn (AFn.func 8) [] [])) [Opd.t 79, Opd.t 80], grd := none }, { dst := some 82, op := AOp.bin (BinOp.neq) (Opd.t 81) (Opd.c (AV.int (IntKind.i64) 0)), grd := none }]
def c3_46 : ACode := .seq c3_47 c3_48
def c3_45 : ACode := .seq c3_46 c3_53
def c3_44 : ACode := .skip
def c3_43 : ACode := .exit 1
def c3_42 : ACode := .cond (.t 78) c3_43 c3_44
def c3_41 : ACode := .reg [{ dst := some 77, op := AOp.mv (Opd.t 10), grd := none }, { dst := some 78, op := AOp.not (Opd.t 77), grd := none }]
def c3_40 : ACode := .seq c3_41 c3_42
def c3_39 : ACode := .seq c3_40 c3_45
set_option maxRecDepth 100000 in
def c3_38 : ACode := .reg [{ dst := some 56, op := AOp.load true 2 (Opd.t 9), grd := none }, { dst := some 57, op := AOp.call (Opd.c (AV.fn (AFn.func 7) [] [])) [Opd.t 56], grd := none }, { dst := some 58, op := AOp.bin (BinOp.eql) (Opd.t 57) (Opd.c (AV.int (IntKind.i64) 1)), grd := none }, { dst := some 59, op := AOp.mv (Opd.t 58), grd := none }, { dst := some 60, op := AOp.mv (Opd.t 6), grd := some (59, true) }, { dst := some 61, op := AOp.mv (Opd.t 8), grd := some (59, true) }, { dst := some 62, op := AOp.iadr 1 (Opd.t 60) (Opd.t 61), grd := some (59, true) }, { dst := some 63, op := AOp.load false 1 (Opd.t 62), grd := some (59, true) }, { dst := some 64, op := AOp.not (Opd.t 63), grd := some (59, true) }, { dst := some 65, op := AOp.pick (Opd.t 59) (Opd.t 64) (Opd.c (AV.bool false)), grd := none }, { dst := some 66, op := AOp.mv (Opd.t 65), grd := none }, { dst := some 67, op := AOp.load true 2 (Opd.t 9), grd := some (66, false) }, { dst := some 68, op := AOp.call (Opd.c (AV.fn (AFn.func 7) [] [])) [Opd.t 67], grd := some (66, false) }, { dst := some 69, op := AOp.bin (BinOp.neq) (Opd.t 68) (Opd.c (AV.int (IntKind.i64) 1)), grd := some (66, false) }, { dst := some 70, op := AOp.mv (Opd.t 69), grd := some (66, false) }, { dst := some 71, op := AOp.mv (Opd.t 6), grd := some (70, true) }, { dst := some 72, op := AOp.mv (Opd.t 8), grd := some (70, true) }, { dst := some 73, op := AOp.iadr 1 (Opd.t 71) (Opd.t 72), grd := some (70, true) }, { dst := some 74, op := AOp.load false 1 (Opd.t 73), grd := some (70, true) }, { dst := some 75, op := AOp.pick (Opd.t 70) (Opd.t 74) (Opd.c (AV.bool false)), grd := some (66, false) }, { dst := some 76, op := AOp.pick (Opd.t 66) (Opd.c (AV.bool true)) (Opd.t 75), grd := none }, { dst := some 10, op := AOp.mv (Opd.t 76), grd := none }]
def c3_37 : ACode := .seq c3_38 c3_39
def c3_36 : ACode := .dreg [{ dst := some 45, op := AOp.fadr 0 (Opd.t 1), grd := none }, { dst := some 46, op := AOp.load false 1 (Opd.t 45), grd := none }, { dst := some 47, op := AOp.mv (Opd.t 7), grd := none }, { dst := some 48, op := AOp.iadr 2 (Opd.t 46) (Opd.t 47), grd := none }, { dst := some 49, op := AOp.fadr 0 (Opd.t 48), grd := none }, { dst := some 50, op := AOp.load false 1 (Opd.t 49), grd := none }, { dst := some 51, op := AOp.mv (Opd.t 4), grd := none }, { dst := some 52, op := AOp.mv (Opd.t 8), grd := none }, { dst := some 53, op := AOp.iadr 1 (Opd.t 51) (Opd.t 52), grd := none }, { dst := some 54, op := AOp.load false 1 (Opd.t 53), grd := none }, { dst := some 55, op := AOp.build [AV.int (IntKind.i64) 0, AV.str []] [(0, 1, Opd.t 50), (1, 1, Opd.t 54)], grd := none }] [({ dst := some 9, op := AOp.alloc [AV.int (IntKind.i64) 0, AV.str []], grd := none }, [{ dst := some 46, op := AOp.load false 1 (Opd.t 45), grd := none }, { dst := some 48, op := AOp.iadr 2 (Opd.t 46) (Opd.t 47), grd := none }, { dst := some 50, op := AOp.load false 1 (Opd.t 49), grd := none }, { dst := some 53, op := AOp.iadr 1 (Opd.t 51) (Opd.t 52), grd := none }, { dst := some 54, op := AOp.load false 1 (Opd.t 53), grd := none }], []), ({ dst := none, op := AOp.store 2 (Opd.t 9) (Opd.t 55), grd := none }, [], [])]
def c3_35 : ACode := .seq c3_36 c3_37
def c3_34 : ACode := .reg [{ dst := some 37, op := AOp.fadr 0 (Opd.t 1), grd := none }, { dst := some 38, op := AOp.load false 1 (Opd.t 37), grd := none }, { dst := some 39, op := AOp.mv (Opd.t 7), grd := none }, { dst := some 40, op := AOp.iadr 2 (Opd.t 38) (Opd.t 39), grd := none }, { dst := some 41, op := AOp.fadr 1 (Opd.t 40), grd := none }, { dst := some 42, op := AOp.load false 1 (Opd.t 41), grd := none }, { dst := some 43, op := AOp.len 0 (Opd.t 42), grd := none }, { dst := some 44, op := AOp.bin (BinOp.rem) (Opd.t 43) (Opd.c (AV.int (IntKind.i64) 5)), grd := none }, { dst := some 8, op := AOp.mv (Opd.t 44), grd := none }]
def c3_33 : ACode := .seq c3_34 c3_35
def c3_32 : ACode := .block 1 c3_33
def c3_31 : ACode := .seq c3_32 c3_54
def c3_30 : ACode := .exit 0
def c3_29 : ACode := .skip
def c3_28 : ACode := .cond (.t 34) c3_29 c3_30
def c3_27 : ACode := .reg [{ dst := some 26, op := AOp.mv (Opd.t 7), grd := none }, { dst := some 27, op := AOp.fadr 0 (Opd.t 1), grd := none }, { dst := some 28, op := AOp.load false 1 (Opd.t 27), grd := none }, { dst := some 29, op := AOp.len 1 (Opd.t 28), grd := none }, { dst := some 30, op := AOp.bin (BinOp.lss) (Opd.t 26) (Opd.t 29), grd := none }, { dst := some 31, op := AOp.mv (Opd.t 30), grd := none }, { dst := some 32, op := AOp.mv (Opd.t 7), grd := some (31, true) }, { dst := some 33, op := AOp.bin (BinOp.lss) (Opd.t 32) (Opd.c (AV.int (IntKind.i64) 100)), grd := some (31, true) }, { dst := some 34, op := AOp.pick (Opd.t 31) (Opd.t 33) (Opd.c (AV.bool false)), grd := none }]
def c3_26 : ACode := .seq c3_27 c3_28
def c3_25 : ACode := .seq c3_26 c3_31
def c3_24 : ACode := .loop c3_25
def c3_23 : ACode := .block 0 c3_24
def c3_22 : ACode := .reg [{ dst := some 7, op := AOp.mv (Opd.c (AV.int (IntKind.i64) 0)), grd := none }]
def c3_21 : ACode := .seq c3_22 c3_23
def c3_20 : ACode := .seq c3_21 c3_55
def c3_19 : ACode := .reg [{ dst := some 23, op := AOp.mv (Opd.t 6), grd := none }, { dst := some 24, op := AOp.mv (Opd.t 5), grd := none }, { dst := some 25, op := AOp.app 1 1 (Opd.t 23) (Opd.t 24), grd := none }, { dst := some 6, op := AOp.mv (Opd.t 25), grd := none }]
def c3_18 : ACode := .seq c3_19 c3_20
def c3_17 : ACode := .reg [{ dst := some 6, op := AOp.mv (Opd.c (AV.nilSlc)), grd := none }]
def c3_16 : ACode := .seq c3_17 c3_18
def c3_15 : ACode := .reg [{ dst := some 22, op := AOp.bslice 5 1 [AV.bool false] [(0, Opd.c (AV.bool true)), (1, Opd.c (AV.bool false)), (2, Opd.c (AV.bool true)), (3, Opd.c (AV.bool false)), (4, Opd.c (AV.bool true))], grd := none }, { dst := some 5, op := AOp.mv (Opd.t 22), grd := none }]
def c3_14 : ACode := .seq c3_15 c3_16
def c3_13 : ACode := .reg [{ dst := some 21, op := AOp.bslice 5 1 [AV.str []] [(0, Opd.c (AV.str [97])), (1, Opd.c (AV.str [98])), (2, Opd.c (AV.str [99])), (3, Opd.c (AV.str [100])), (4, Opd.c (AV.str [101]))], grd := none }, { dst := some 4, op := AOp.mv (Opd.t 21), grd := none }]
def c3_12 : ACode := .seq c3_13 c3_14
def c3_11 : ACode := .skip
def c3_10 : ACode := .ret
def c3_9 : ACode := .reg [{ dst := some 2, op := AOp.mv (Opd.c (AV.bool false)), grd := none }]
def c3_8 : ACode := .seq c3_9 c3_10
def c3_7 : ACode := .cond (.t 20) c3_8 c3_11
def c3_6 : ACode := .reg [{ dst := some 19, op := AOp.mv (Opd.t 3), grd := none }, { dst := some 20, op := AOp.eq false (EqK.ptr) (Opd.t 19) (Opd.c (AV.nilPtr)), grd := none }]
def c3_5 : ACode := .seq c3_6 c3_7
def c3_4 : ACode := .seq c3_5 c3_12
def c3_3 : ACode := .reg [{ dst := some 18, op := AOp.call (Opd.c (AV.fn (AFn.func 6) [] [])) [], grd := none }, { dst := some 3, op := AOp.mv (Opd.t 18), grd := none }]
def c3_2 : ACode := .seq c3_3 c3_4
def c3_1 : ACode := .reg [{ dst := some 1, op := AOp.box 2 (Opd.t 0), grd := none }, { dst := some 2, op := AOp.mv (Opd.c (AV.bool false)), grd := none }]
def c3_0 : ACode := .seq c3_1 c3_2
def A3 : AFun := { np := 1, res := [(2, none)], body := c3_0 }

def c4_122 : ACode := .ret
def c4_121 : ACode := .reg [{ dst := some 194, op := AOp.mv (Opd.t 3), grd := none }, { dst := some 195, op := AOp.mv (Opd.t 9), grd := none }, { dst := some 196, op := AOp.call (Opd.c (AV.fn (AFn.func 18) [] [])) [Opd.t 194, Opd.t 195], grd := none }, { dst := some 197, op := AOp.mv (Opd.t 196), grd := none }, { dst := some 198, op := AOp.mv (Opd.t 4), grd := some (197, true) }, { dst := some 199, op := AOp.call (Opd.c (AV.fn (AFn.func 15) [] [])) [Opd.t 198], grd := some (197, true) }, { dst := some 200, op := AOp.bin (BinOp.eql) (Opd.t 199) (Opd.c (AV.int (IntKind.i64) 0)), grd := some (197, true) }, { dst := some 201, op := AOp.pick (Opd.t 197) (Opd.t 200) (Opd.c (AV.bool false)), grd := none }, { dst := some 202, op := AOp.mv (Opd.t 201), grd := none }, { dst := some 203, op := AOp.call (Opd.c (AV.fn (AFn.func 11) [] [])) [], grd := some (202, true) }, { dst := some 204, op := AOp.pick (Opd.t 202) (Opd.t 203) (Opd.c (AV.bool false)), grd := none }, { dst := some 2, op := AOp.mv (Opd.t 204), grd := none }]
def c4_120 : ACode := .seq c4_121 c4_122
def c4_119 : ACode := .skip
def c4_118 : ACode := .ret
def c4_117 : ACode := .reg [{ dst := some 183, op := AOp.mv (Opd.t 3), grd := none }, { dst := some 184, op := AOp.mv (Opd.t 5), grd := none }, { dst := some 185, op := AOp.call (Opd.c (AV.fn (AFn.func 18) [] [])) [Opd.t 183, Opd.t 184], grd := none }, { dst := some 186, op := AOp.mv (Opd.t 185), grd := none }, { dst := some 187, op := AOp.mv (Opd.t 4), grd := some (186, true) }, { dst := some 188, op := AOp.mv (Opd.t 6), grd := some (186, true) }, { dst := some 189, op := AOp.call (Opd.c (AV.fn (AFn.func 18) [] [])) [Opd.t 187, Opd.t 188], grd := some (186, true) }, { dst := some 190, op := AOp.pick (Opd.t 186) (Opd.t 189) (Opd.c (AV.bool false)), grd := none }, { dst := some 191, op := AOp.mv (Opd.t 190), grd := none }, { dst := some 192, op := AOp.call (Opd.c (AV.fn (AFn.func 11) [] [])) [], grd := some (191, true) }, { dst := some 193, op := AOp.pick (Opd.t 191) (Opd.t 192) (Opd.c (AV.bool false)), grd := none }, { dst := some 2, op := AOp.mv (Opd.t 193), grd := none }]
def c4_116 : ACode := .seq c4_117 c4_118
def c4_115 : ACode := .cond (.t 182) c4_116 c4_119
def c4_114 : ACode := .reg [{ dst := some 181, op := AOp.mv (Opd.t 10), grd := none }, { dst := some 182, op := AOp.bin (BinOp.neq) (Opd.t 181) (Opd.c (AV.int (IntKind.i64) 0)), grd := none }]
def c4_113 : ACode := .seq c4_114 c4_115
def c4_112 : ACode := .seq c4_113 c4_120
def c4_111 : ACode := .skip
def c4_110 : ACode := .ret
def c4_109 : ACode := .reg [{ dst := some 2, op := AOp.mv (Opd.c (AV.bool false)), grd := none }]
def c4_108 : ACode := .seq c4_109 c4_110
def c4_107 : ACode := .cond (.t 180) c4_108 c4_111
def c4_106 : ACode := .reg [{ dst := some 176, op := AOp.mv (Opd.t 3), grd := none }, { dst := some 177, op := AOp.mv (Opd.t 4), grd := none }, { dst := some 178, op := AOp.call (Opd.c (AV.fn (AFn.func 16) [] [])) [Opd.t 176, Opd.t 177], grd := none }, { dst := some 179, op := AOp.mv (Opd.t 10), grd := none }, { dst := some 180, op := AOp.bin (BinOp.neq) (Opd.t 178) (Opd.t 179), grd := none }]
def c4_105 : ACode := .seq c4_106 c4_107
def c4_104 : ACode := .seq c4_105 c4_112
def c4_103 : ACode := .reg [{ dst := some 148, op := AOp.mv (Opd.t 12), grd := none }, { dst := some 149, op := AOp.bin (BinOp.add) (Opd.t 148) (Opd.c (AV.int (IntKind.i64) 1)), grd := none }, { dst := some 12, op := AOp.mv (Opd.t 149), grd := none }]
def c4_102 : ACode := .reg [{ dst := some 164, op := AOp.mv (Opd.t 14), grd := none }, { dst := some 165, op := AOp.bin (BinOp.add) (Opd.t 164) (Opd.c (AV.int (IntKind.i64) 1)), grd := none }, { dst := some 14, op := AOp.mv (Opd.t 165), grd := none }]
def c4_101 : ACode := .dreg [{ dst := some 166, op := AOp.mv (Opd.t 9), grd := none }, { dst := some 167, op := AOp.mv (Opd.t 11), grd := none }, { dst := some 168, op := AOp.mv (Opd.t 12), grd := none }, { dst := some 169, op := AOp.iadr 1 (Opd.t 167) (Opd.t 168), grd := none }, { dst := some 170, op := AOp.load false 1 (Opd.t 169), grd := none }, { dst := some 171, op := AOp.mv (Opd.t 13), grd := none }, { dst := some 172, op := AOp.mv (Opd.t 14), grd := none }, { dst := some 173, op := AOp.iadr 1 (Opd.t 171) (Opd.t 172), grd := none }, { dst := some 174, op := AOp.load false 1 (Opd.t 173), grd := none }] [({ dst := some 175, op := AOp.call (Opd.c (AV.fn (AFn.func 12) [] [])) [Opd.t 166, Opd.t 170, Opd.t 174], grd := none }, [], [{ dst := some 10, op := AOp.mv (Opd.t 175), grd := none }])]
def c4_100 : ACode := .block 7 c4_101
def c4_99 : ACode := .seq c4_100 c4_102
def c4_98 : ACode := .exit 6
def c4_97 : ACode := .skip
def c4_96 : ACode := .cond (.t 163) c4_97 c4_98
def c4_95 : ACode := .reg [{ dst := some 156, op := AOp.mv (Opd.t 14), grd := none }, { dst := some 157, op := AOp.mv (Opd.t 13), grd := none }, { dst := some 158, op := AOp.len 1 (Opd.t 157), grd := none }, { dst := some 159, op := AOp.bin (BinOp.lss) (Opd.t 156) (Opd.t 158), grd := none }, { dst := some 160, op := AOp.mv (Opd.t 159), grd := none }, { dst := some 161, op := AOp.mv (Opd.t 10), grd := some (160, true) }, { dst := some 162, op := AOp.bin (BinOp.eql) (Opd.t 161) (Opd.c (AV.int (IntKind.i64) 0)), grd := some (160, true) }, { dst := some 163, op := AOp.pick (Opd.t 160) (Opd.t 162) (Opd.c (AV.bool false)), grd := none }]
def c4_94 : ACode := .seq c4_95 c4_96
def c4_93 : ACode := .seq c4_94 c4_99
def c4_92 : ACode := .loop c4_93
def c4_91 : ACode := .block 6 c4_92
def c4_90 : ACode := .reg [{ dst := some 14, op := AOp.mv (Opd.c (AV.int (IntKind.i64) 0)), grd := none }]
def c4_89 : ACode := .seq c4_90 c4_91
def c4_88 : ACode := .reg [{ dst := some 150, op := AOp.mv (Opd.t 6), grd := none }, { dst := some 151, op := AOp.mv (Opd.t 11), grd := none }, { dst := some 152, op := AOp.mv (Opd.t 12), grd := none }, { dst := some 153, op := AOp.iadr 1 (Opd.t 151) (Opd.t 152), grd := none }, { dst := some 154, op := AOp.load false 1 (Opd.t 153), grd := none }, { dst := some 155, op := AOp.call (Opd.c (AV.fn (AFn.func 17) [] [])) [Opd.t 150, Opd.t 154], grd := none }, { dst := some 13, op := AOp.mv (Opd.t 155), grd := none }]
def c4_87 : ACode := .seq c4_88 c4_89
def c4_86 : ACode := .block 5 c4_87
def c4_85 : ACode := .seq c4_86 c4_103
def c4_84 : ACode := .exit 4
def c4_83 : ACode := .skip
def c4_82 : ACode := .cond (.t 147) c4_83 c4_84
def c4_81 : ACode := .reg [{ dst := some 146, op := AOp.mv (Opd.t 12), grd := none }, { dst := some 147, op := AOp.bin (BinOp.lss) (Opd.t 146) (Opd.c (AV.int (IntKind.i64) 3)), grd := none }]
def c4_80 : ACode := .seq c4_81 c4_82
def c4_79 : ACode := .seq c4_80 c4_85
def c4_78 : ACode := .loop c4_79
def c4_77 : ACode := .block 4 c4_78
def c4_76 : ACode := .reg [{ dst := some 12, op := AOp.mv (Opd.c (AV.int (IntKind.i64) 0)), grd := none }]
def c4_75 : ACode := .seq c4_76 c4_77
def c4_74 : ACode := .seq c4_75 c4_104
def c4_73 : ACode := .reg [{ dst := some 145, op := AOp.bslice 3 1 [AV.int (IntKind.i64) 0] [(0, Opd.c (AV.int (IntKind.i64) 1)), (1, Opd.c (AV.int (IntKind.i64) 2)), (2, Opd.c (AV.int (IntKind.i64) 3))], grd := none }, { dst := some 11, op := AOp.mv (Opd.t 145), grd := none }]
def c4_72 : ACode := .seq c4_73 c4_74
def c4_71 : ACode := .reg [{ dst := some 10, op := AOp.mv (Opd.c (AV.int (IntKind.i64) 0)), grd := none }]
def c4_70 : ACode := .seq c4_71 c4_72
def c4_69 : ACode := .dreg [{ dst := some 133, op := AOp.mv (Opd.t 9), grd := none }, { dst := some 134, op := AOp.mv (Opd.t 9), grd := none }, { dst := some 135, op := AOp.nilck (Opd.t 134), grd := none }, { dst := some 136, op := AOp.fadr 0 (Opd.t 135), grd := none }, { dst := some 137, op := AOp.load false 1 (Opd.t 136), grd := none }, { dst := some 138, op := AOp.mv (Opd.t 5), grd := none }, { dst := some 139, op := AOp.nilck (Opd.t 138), grd := none }, { dst := some 140, op := AOp.fadr 0 (Opd.t 139), grd := none }, { dst := some 141, op := AOp.load false 1 (Opd.t 140), grd := none }] [({ dst := some 142, op := AOp.app 2 24 (Opd.t 137) (Opd.t 141), grd := none }, [], [{ dst := some 143, op := AOp.nilck (Opd.t 133), grd := none }, { dst := some 144, op := AOp.fadr 0 (Opd.t 143), grd := none }]), ({ dst := none, op := AOp.store 1 (Opd.t 144) (Opd.t 142), grd := none }, [], [])]
def c4_68 : ACode := .seq c4_69 c4_70
def c4_67 : ACode := .reg [{ dst := some 131, op := AOp.build [AV.nilSlc] [], grd := none }, { dst := some 132, op := AOp.box 1 (Opd.t 131), grd := none }, { dst := some 9, op := AOp.mv (Opd.t 132), grd := none }]
def c4_66 : ACode := .seq c4_67 c4_68
def c4_65 : ACode := .skip
def c4_64 : ACode := .ret
def c4_63 : ACode := .reg [{ dst := some 2, op := AOp.mv (Opd.c (AV.bool false)), grd := none }]
def c4_62 : ACode := .seq c4_63 c4_64
def c4_61 : ACode := .cond (.t 130) c4_62 c4_65
def c4_60 : ACode := .reg [{ dst := some 122, op := AOp.mv (Opd.t 3), grd := none }, { dst := some 123, op := AOp.call (Opd.c (AV.fn (AFn.func 16) [] [])) [Opd.t 122, Opd.c (AV.nilPtr)], grd := none }, { dst := some 124, op := AOp.bin (BinOp.neq) (Opd.t 123) (Opd.c (AV.int (IntKind.i64) 1)), grd := none }, { dst := some 125, op := AOp.mv (Opd.t 124), grd := none }, { dst := some 126, op := AOp.mv (Opd.t 3), grd := some (125, false) }, { dst := some 127, op := AOp.mv (Opd.t 3), grd := some (125, false) }, { dst := some 128, op := AOp.call (Opd.c (AV.fn (AFn.func 16) [] [])) [Opd.t 126, Opd.t 127], grd := some (125, false) }, { dst := some 129, op := AOp.bin (BinOp.neq) (Opd.t 128) (Opd.c (AV.int (IntKind.i64) 1)), grd := some (125, false) }, { dst := some 130, op := AOp.pick (Opd.t 125) (Opd.c (AV.bool true)) (Opd.t 129), grd := none }]
def c4_59 : ACode := .seq c4_60 c4_61
def c4_58 : ACode := .seq c4_59 c4_66
def c4_57 : ACode := .reg [{ dst := some 98, op := AOp.mv (Opd.t 8), grd := none }, { dst := some 99, op := AOp.bin (BinOp.add) (Opd.t 98) (Opd.c (AV.int (IntKind.i64) 1)), grd := none }, { dst := some 8, op := AOp.mv (Opd.t 99), grd := none }]
def c4_56 : ACode := .skip
def c4_55 : ACode := .ret
def c4_54 : ACode := .reg [{ dst := some 2, op := AOp.mv (Opd.c (AV.bool false)), grd := none }]
def c4_53 : ACode := .seq c4_54 c4_55
def c4_52 : ACode := .cond (.t 121) c4_53 c4_56
set_option maxRecDepth 100000 in
def c4_51 : ACode := .dreg [{ dst := some 100, op := AOp.mv (Opd.t 4), grd := none }, { dst := some 101, op := AOp.fadr 1 (Opd.t 1), grd := none }, { dst := some 102, op := AOp.load false 1 (Opd.t 101), grd := none }, { dst := some 103, op := AOp.mv (Opd.t 8), grd := none }, { dst := some 104, op := AOp.iadr 2 (Opd.t 102) (Opd.t 103), grd := none }, { dst := some 105, op := AOp.load true 2 (Opd.t 104), grd := none }, { dst := some 107, op := AOp.mv (Opd.t 6), grd := none }, { dst := some 108, op := AOp.fadr 1 (Opd.t 1), grd := none }, { dst := some 109, op := AOp.load false 1 (Opd.t 108), grd := none }, { dst := some 110, op := AOp.mv (Opd.t 8), grd := none }, { dst := some 111, op := AOp.iadr 2 (Opd.t 109) (Opd.t 110), grd := none }, { dst := some 112, op := AOp.load true 2 (Opd.t 111), grd := none }, { dst := some 114, op := AOp.fadr 1 (Opd.t 1), grd := none }, { dst := some 115, op := AOp.load false 1 (Opd.t 114), grd := none }, { dst := some 116, op := AOp.mv (Opd.t 8), grd := none }, { dst := some 117, op := AOp.iadr 2 (Opd.t 115) (Opd.t 116), grd := none }, { dst := some 118, op := AOp.fadr 1 (Opd.t 117), grd := none }, { dst := some 119, op := AOp.load false 1 (Opd.t 118), grd := none }] [({ dst := some 106, op := AOp.call (Opd.c (AV.fn (AFn.func 8) [] [])) [Opd.t 100, Opd.t 105], grd := none }, [{ dst := some 109, op := AOp.load false 1 (Opd.t 108), grd := none }, { dst := some 111, op := AOp.iadr 2 (Opd.t 109) (Opd.t 110), grd := none }, { dst := some 112, op := AOp.load true 2 (Opd.t 111), grd := none }, { dst := some 115, op := AOp.load false 1 (Opd.t 114), grd := none }, { dst := some 117, op := AOp.iadr 2 (Opd.t 115) (Opd.t 116), grd := none }, { dst := some 119, op := AOp.load false 1 (Opd.t 118), grd := none }], []), ({ dst := some 113, op := AOp.call (Opd.c (AV.fn (AFn.func 7) [] [])) [Opd.t 112], grd := none }, [{ dst := some 115, op := AOp.load false 1 (Opd.t 114), grd := none }, { dst := some 117, op := AOp.iadr 2 (Opd.t 115) (Opd.t 116), grd := none }, { dst := some 119, op := AOp.load false 1 (Opd.t 118), grd := none }], []), ({ dst := some 120, op := AOp.call (Opd.c (AV.fn (AFn.func 12) [] [])) [Opd.t 107, Opd.t 113, Opd.t 119], grd := none }, [], [{ dst := some 121, op := AOp.bin (BinOp.neq) (Opd.t 106) (Opd.t 120), grd := none }])]
def c4_50 : ACode := .seq c4_51 c4_52
def c4_49 : ACode := .block 3 c4_50
def c4_48 : ACode := .seq c4_49 c4_57
def c4_47 : ACode := .exit 2
def c4_46 : ACode := .skip
def c4_45 : ACode := .cond (.t 97) c4_46 c4_47
def c4_44 : ACode := .reg [{ dst := some 89, op := AOp.mv (Opd.t 8), grd := none }, { dst := some 90, op := AOp.fadr 1 (Opd.t 1), grd := none }, { dst := some 91, op := AOp.load false 1 (Opd.t 90), grd := none }, { dst := some 92, op := AOp.len 1 (Opd.t 91), grd := none }, { dst := some 93, op := AOp.bin (BinOp.lss) (Opd.t 89) (Opd.t 92), grd := none }, { dst := some 94, op := AOp.mv (Opd.t 93), grd := none }, { dst := some 95, op := AOp.mv (Opd.t 8), grd := some (94, true) }, { dst := some 96, op := AOp.bin (BinOp.lss) (Opd.t 95) (Opd.c (AV.int (IntKind.i64) 100)), grd := some (94, true) }, { dst := some 97, op := AOp.pick (Opd.t 94) (Opd.t 96) (Opd.c (AV.bool false)), grd := none }]
def c4_43 : ACode := .seq c4_44 c4_45
def c4_42 : ACode := .seq c4_43 c4_48
def c4_41 : ACode := .loop c4_42
def c4_40 : ACode := .block 2 c4_41
def c4_39 : ACode := .reg [{ dst := some 8, op := AOp.mv (Opd.c (AV.int (IntKind.i64) 0)), grd := none }]
def c4_38 : ACode := .seq c4_39 c4_40
def c4_37 : ACode := .seq c4_38 c4_58
def c4_36 : ACode := .reg [{ dst := some 36, op := AOp.mv (Opd.t 7), grd := none }, { dst := some 37, op := AOp.bin (BinOp.add) (Opd.t 36) (Opd.c (AV.int (IntKind.i64) 1)), grd := none }, { dst := some 7, op := AOp.mv (Opd.t 37), grd := none }]
def c4_35 : ACode := .skip
def c4_34 : ACode := .ret
def c4_33 : ACode := .reg [{ dst := some 2, op := AOp.mv (Opd.c (AV.bool false)), grd := none }]
def c4_32 : ACode := .seq c4_33 c4_34
def c4_31 : ACode := .cond (.t 88) c4_32 c4_35
set_option maxRecDepth 100000 in
def c4_30 : ACode := .dreg [{ dst := some 38, op := AOp.mv (Opd.t 3), grd := none }, { dst := some 39, op := AOp.fadr 0 (Opd.t 1), grd := none }, { dst := some 40, op := AOp.load false 1 (Opd.t 39), grd := none }, { dst := some 41, op := AOp.mv (Opd.t 7), grd := none }, { dst := some 42, op := AOp.iadr 2 (Opd.t 40) (Opd.t 41), grd := none }, { dst := some 43, op := AOp.load true 2 (Opd.t 42), grd := none }, { dst := some 45, op := AOp.mv (Opd.t 5), grd := none }, { dst := some 46, op := AOp.fadr 0 (Opd.t 1), grd := none }, { dst := some 47, op := AOp.load false 1 (Opd.t 46), grd := none }, { dst := some 48, op := AOp.mv (Opd.t 7), grd := none }, { dst := some 49, op := AOp.iadr 2 (Opd.t 47) (Opd.t 48), grd := none }, { dst := some 50, op := AOp.load true 2 (Opd.t 49), grd := none }, { dst := some 52, op := AOp.fadr 0 (Opd.t 1), grd := none }, { dst := some 53, op := AOp.load false 1 (Opd.t 52), grd := none }, { dst := some 54, op := AOp.mv (Opd.t 7), grd := none }, { dst := some 55, op := AOp.iadr 2 (Opd.t 53) (Opd.t 54), grd := none }, { dst := some 56, op := AOp.fadr 1 (Opd.t 55), grd := none }, { dst := some 57, op := AOp.load false 1 (Opd.t 56), grd := none }] [({ dst := some 44, op := AOp.call (Opd.c (AV.fn (AFn.func 8) [] [])) [Opd.t 38, Opd.t 43], grd := none }, [{ dst := some 47, op := AOp.load false 1 (Opd.t 46), grd := none }, { dst := some 49, op := AOp.iadr 2 (Opd.t 47) (Opd.t 48), grd := none }, { dst := some 50, op := AOp.load true 2 (Opd.t 49), grd := none }, { dst := some 53, op := AOp.load false 1 (Opd.t 52), grd := none }, { dst := some 55, op := AOp.iadr 2 (Opd.t 53) (Opd.t 54), grd := none }, { dst := some 57, op := AOp.load false 1 (Opd.t 56), grd := none }], []), ({ dst := some 51, op := AOp.call (Opd.c (AV.fn (AFn.func 7) [] [])) [Opd.t 50], grd := none }, [{ dst := some 53, op := AOp.load false 1 (Opd.t 52), grd := none }, { dst := some 55, op := AOp.iadr 2 (Opd.t 53) (Opd.t 54), grd := none }, { dst := some 57, op := AOp.load false 1 (Opd.t 56), grd := none }], []), ({ dst := some 58, op := AOp.call (Opd.c (AV.fn (AFn.func 12) [] [])) [Opd.t 45, Opd.t 51, Opd.t 57], grd := none }, [], [{ dst := some 59, op := AOp.bin (BinOp.neq) (Opd.t 44) (Opd.t 58), grd := none }, { dst := some 60, op := AOp.mv (Opd.t 59), grd := none }, { dst := some 61, op := AOp.mv (Opd.t 3), grd := some (60, false) }, { dst := some 62, op := AOp.fadr 0 (Opd.t 1), grd := some (60, false) }, { dst := some 63, op := AOp.load false 1 (Opd.t 62), grd := some (60, false) }, { dst := some 64, op := AOp.mv (Opd.t 7), grd := some (60, false) }, { dst := some 65, op := AOp.iadr 2 (Opd.t 63) (Opd.t 64), grd := some (60, false) }, { dst := some 66, op := AOp.fadr 1 (Opd.t 65), grd := some (60, false) }, { dst := some 67, op := AOp.load false 1 (Opd.t 66), grd := some (60, false) }, { dst := some 69, op := AOp.mv (Opd.t 5), grd := some (60, false) }, { dst := some 70, op := AOp.fadr 0 (Opd.t 1), grd := some (60, false) }, { dst := some 71, op := AOp.load false 1 (Opd.t 70), grd := some (60, false) }, { dst := some 72, op := AOp.mv (Opd.t 7), grd := some (60, false) }, { dst := some 73, op := AOp.iadr 2 (Opd.t 71) (Opd.t 72), grd := some (60, false) }, { dst := some 74, op := AOp.fadr 1 (Opd.t 73), grd := some (60, false) }, { dst := some 75, op := AOp.load false 1 (Opd.t 74), grd := some (60, false) }]), ({ dst := some 68, op := AOp.call (Opd.c (AV.fn (AFn.func 13) [] [])) [Opd.t 61, Opd.t 67], grd := some (60, false) }, [{ dst := some 71, op := AOp.load false 1 (Opd.t 70), grd := some (60, false) }, { dst := some 73, op := AOp.iadr 2 (Opd.t 71) (Opd.t 72), grd := some (60, false) }, { dst := some 75, op := AOp.load false 1 (Opd.t 74), grd := some (60, false) }], []), ({ dst := some 76, op := AOp.call (Opd.c (AV.fn (AFn.func 14) [] [])) [Opd.t 69, Opd.t 75], grd := some (60, false) }, [], [{ dst := some 77, op := AOp.bin (BinOp.neq) (Opd.t 68) (Opd.t 76), grd := some (60, false) }, { dst := some 78, op := AOp.pick (Opd.t 60) (Opd.c (AV.bool true)) (Opd.t 77), grd := none }, { dst := some 79, op := AOp.mv (Opd.t 78), grd := none }, { dst := some 80, op := AOp.mv (Opd.t 3), grd := some (79, false) }, { dst := some 82, op := AOp.mv (Opd.t 5), grd := some (79, false) }, { dst := some 83, op := AOp.nilck (Opd.t 82), grd := some (79, false) }, { dst := some 84, op := AOp.fadr 0 (Opd.t 83), grd := some (79, false) }, { dst := some 85, op := AOp.load false 1 (Opd.t 84), grd := some (79, false) }, { dst := some 86, op := AOp.len 1 (Opd.t 85), grd := some (79, false) }]), ({ dst := some 81, op := AOp.call (Opd.c (AV.fn (AFn.func 15) [] [])) [Opd.t 80], grd := some (79, false) }, [{ dst := some 85, op := AOp.load false 1 (Opd.t 84), grd := some (79, false) }, { dst := some 86, op := AOp.len 1 (Opd.t 85), grd := some (79, false) }], [{ dst := some 87, op := AOp.bin (BinOp.neq) (Opd.t 81) (Opd.t 86), grd := some (79, false) }, { dst := some 88, op := AOp.pick (Opd.t 79) (Opd.c (AV.bool true)) (Opd.t 87), grd := none }])]
def c4_29 : ACode := .seq c4_30 c4_31
def c4_28 : ACode := .block 1 c4_29
def c4_27 : ACode := .seq c4_28 c4_36
def c4_26 : ACode := .exit 0
def c4_25 : ACode := .skip
def c4_24 : ACode := .cond (.t 35) c4_25 c4_26
def c4_23 : ACode := .reg [{ dst := some 27, op := AOp.mv (Opd.t 7), grd := none }, { dst := some 28, op := AOp.fadr 0 (Opd.t 1), grd := none }, { dst := some 29, op := AOp.load false 1 (Opd.t 28), grd := none }, { dst := some 30, op := AOp.len 1 (Opd.t 29), grd := none }, { dst := some 31, op := AOp.bin (BinOp.lss) (Opd.t 27) (Opd.t 30), grd := none }, { dst := some 32, op := AOp.mv (Opd.t 31), grd := none }, { dst := some 33, op := AOp.mv (Opd.t 7), grd := some (32, true) }, { dst := some 34, op := AOp.bin (BinOp.lss) (Opd.t 33) (Opd.c (AV.int (IntKind.i64) 100)), grd := some (32, true) }, { dst := some 35, op := AOp.pick (Opd.t 32) (Opd.t 34) (Opd.c (AV.bool false)), grd := none }]
def c4_22 : ACode := .seq c4_23 c4_24
def c4_21 : ACode := .seq c4_22 c4_27
def c4_20 : ACode := .loop c4_21
def c4_19 : ACode := .block 0 c4_20
def c4_18 : ACode := .reg [{ dst := some 7, op := AOp.mv (Opd.c (AV.int (IntKind.i64) 0)), grd := none }]
def c4_17 : ACode := .seq c4_18 c4_19
def c4_16 : ACode := .seq c4_17 c4_37
def c4_15 : ACode := .reg [{ dst := some 23, op := AOp.build [AV.nilSlc] [], grd := none }, { dst := some 24, op := AOp.box 1 (Opd.t 23), grd := none }, { dst := some 25, op := AOp.build [AV.nilSlc] [], grd := none }, { dst := some 26, op := AOp.box 1 (Opd.t 25), grd := none }, { dst := some 5, op := AOp.mv (Opd.t 24), grd := none }, { dst := some 6, op := AOp.mv (Opd.t 26), grd := none }]
def c4_14 : ACode := .seq c4_15 c4_16
def c4_13 : ACode := .skip
def c4_12 : ACode := .ret
def c4_11 : ACode := .reg [{ dst := some 2, op := AOp.mv (Opd.c (AV.bool false)), grd := none }]
def c4_10 : ACode := .seq c4_11 c4_12
def c4_9 : ACode := .cond (.t 22) c4_10 c4_13
def c4_8 : ACode := .reg [{ dst := some 17, op := AOp.mv (Opd.t 3), grd := none }, { dst := some 18, op := AOp.eq false (EqK.ptr) (Opd.t 17) (Opd.c (AV.nilPtr)), grd := none }, { dst := some 19, op := AOp.mv (Opd.t 18), grd := none }, { dst := some 20, op := AOp.mv (Opd.t 4), grd := some (19, false) }, { dst := some 21, op := AOp.eq false (EqK.ptr) (Opd.t 20) (Opd.c (AV.nilPtr)), grd := some (19, false) }, { dst := some 22, op := AOp.pick (Opd.t 19) (Opd.c (AV.bool true)) (Opd.t 21), grd := none }]
def c4_7 : ACode := .seq c4_8 c4_9
def c4_6 : ACode := .seq c4_7 c4_14
def c4_5 : ACode := .reg [{ dst := some 16, op := AOp.call (Opd.c (AV.fn (AFn.func 6) [] [])) [], grd := none }, { dst := some 4, op := AOp.mv (Opd.t 16), grd := none }]
def c4_4 : ACode := .seq c4_5 c4_6
def c4_3 : ACode := .reg [{ dst := some 15, op := AOp.call (Opd.c (AV.fn (AFn.func 6) [] [])) [], grd := none }, { dst := some 3, op := AOp.mv (Opd.t 15), grd := none }]
def c4_2 : ACode := .seq c4_3 c4_4
def c4_1 : ACode := .reg [{ dst := some 1, op := AOp.box 2 (Opd.t 0), grd := none }, { dst := some 2, op := AOp.mv (Opd.c (AV.bool false)), grd := none }]
def c4_0 : ACode := .seq c4_1 c4_2
def A4 : AFun := { np := 1, res := [(2, none)], body := c4_0 }

def c5_80 : ACode := .ret
def c5_79 : ACode := .reg [{ dst := some 123, op := AOp.mv (Opd.t 11), grd := none }, { dst := some 124, op := AOp.len 1 (Opd.t 123), grd := none }, { dst := some 125, op := AOp.bin (BinOp.eql) (Opd.t 124) (Opd.c (AV.int (IntKind.i64) 0)), grd := none }, { dst := some 126, op := AOp.mv (Opd.t 125), grd := none }, { dst := some 127, op := AOp.mv (Opd.t 12), grd := some (126, true) }, { dst := some 128, op := AOp.mv (Opd.t 8), grd := some (126, true) }, { dst := some 129, op := AOp.call (Opd.c (AV.fn (AFn.func 21) [] [])) [Opd.t 127, Opd.t 128], grd := some (126, true) }, { dst := some 130, op := AOp.pick (Opd.t 126) (Opd.t 129) (Opd.c (AV.bool false)), grd := none }, { dst := some 131, op := AOp.mv (Opd.t 130), grd := none }, { dst := some 132, op := AOp.mv (Opd.t 13), grd := some (131, true) }, { dst := some 133, op := AOp.mv (Opd.t 9), grd := some (131, true) }, { dst := some 134, op := AOp.call (Opd.c (AV.fn (AFn.func 21) [] [])) [Opd.t 132, Opd.t 133], grd := some (131, true) }, { dst := some 135, op := AOp.pick (Opd.t 131) (Opd.t 134) (Opd.c (AV.bool false)), grd := none }, { dst := some 136, op := AOp.mv (Opd.t 135), grd := none }, { dst := some 137, op := AOp.call (Opd.c (AV.fn (AFn.func 11) [] [])) [], grd := some (136, true) }, { dst := some 138, op := AOp.pick (Opd.t 136) (Opd.t 137) (Opd.c (AV.bool false)), grd := none }, { dst := some 2, op := AOp.mv (Opd.t 138), grd := none }]
def c5_78 : ACode := .seq c5_79 c5_80
def c5_77 : ACode := .reg [{ dst := some 118, op := AOp.mv (Opd.t 4), grd := none }, { dst := some 119, op := AOp.call (Opd.c (AV.fn (AFn.func 9) [] [])) [Opd.t 118], grd := none }, { dst := some 117, op := AOp.mv (Opd.t 119), grd := none }, { dst := some 120, op := AOp.ext (Opd.t 117) 0, grd := none }, { dst := some 121, op := AOp.ext (Opd.t 117) 1, grd := none }, { dst := some 122, op := AOp.ext (Opd.t 117) 2, grd := none }, { dst := some 11, op := AOp.mv (Opd.t 120), grd := none }, { dst := some 12, op := AOp.mv (Opd.t 121), grd := none }, { dst := some 13, op := AOp.mv (Opd.t 122), grd := none }]
def c5_76 : ACode := .seq c5_77 c5_78
def c5_75 : ACode := .skip
def c5_74 : ACode := .ret
def c5_73 : ACode := .reg [{ dst := some 2, op := AOp.mv (Opd.c (AV.bool false)), grd := none }]
def c5_72 : ACode := .seq c5_73 c5_74
def c5_71 : ACode := .cond (.t 116) c5_72 c5_75
def c5_70 : ACode := .reg [{ dst := some 113, op := AOp.mv (Opd.t 4), grd := none }, { dst := some 114, op := AOp.mv (Opd.t 5), grd := none }, { dst := some 115, op := AOp.call (Opd.c (AV.fn (AFn.func 16) [] [])) [Opd.t 113, Opd.t 114], grd := none }, { dst := some 116, op := AOp.bin (BinOp.neq) (Opd.t 115) (Opd.c (AV.int (IntKind.i64) 0)), grd := none }]
def c5_69 : ACode := .seq c5_70 c5_71
def c5_68 : ACode := .seq c5_69 c5_76
def c5_67 : ACode := .reg [{ dst := some 85, op := AOp.mv (Opd.t 10), grd := none }, { dst := some 86, op := AOp.bin (BinOp.add) (Opd.t 85) (Opd.c (AV.int (IntKind.i64) 1)), grd := none }, { dst := some 10, op := AOp.mv (Opd.t 86), grd := none }]
def c5_66 : ACode := .skip
def c5_65 : ACode := .ret
def c5_64 : ACode := .reg [{ dst := some 2, op := AOp.mv (Opd.c (AV.bool false)), grd := none }]
def c5_63 : ACode := .seq c5_64 c5_65
def c5_62 : ACode := .cond (.t 112) c5_63 c5_66
set_option maxRecDepth 100000 in
def c5_61 : ACode := .reg [{ dst := some 87, op := AOp.mv (Opd.t 4), grd := none }, { dst := some 88, op := AOp.mv (Opd.t 7), grd := none }, { dst := some 89, op := AOp.mv (Opd.t 10), grd := none }, { dst := some 90, op := AOp.iadr 1 (Opd.t 88) (Opd.t 89), grd := none }, { dst := some 91, op := AOp.load false 1 (Opd.t 90), grd := none }, { dst := some 92, op := AOp.call (Opd.c (AV.fn (AFn.func 13) [] [])) [Opd.t 87, Opd.t 91], grd := none }, { dst := some 93, op := AOp.bin (BinOp.neq) (Opd.t 92) (Opd.c (AV.int (IntKind.i64) 1)), grd := none }, { dst := some 94, op := AOp.mv (Opd.t 93), grd := none }, { dst := some 95, op := AOp.mv (Opd.t 3), grd := some (94, false) }, { dst := some 96, op := AOp.call (Opd.c (AV.fn (AFn.func 19) [] [])) [Opd.t 95, Opd.c (AV.str [113])], grd := some (94, false) }, { dst := some 97, op := AOp.bin (BinOp.neq) (Opd.t 96) (Opd.c (AV.int (IntKind.i64) 0)), grd := some (94, false) }, { dst := some 98, op := AOp.pick (Opd.t 94) (Opd.c (AV.bool true)) (Opd.t 97), grd := none }, { dst := some 99, op := AOp.mv (Opd.t 98), grd := none }, { dst := some 100, op := AOp.mv (Opd.t 3), grd := some (99, false) }, { dst := some 101, op := AOp.call (Opd.c (AV.fn (AFn.func 20) [] [])) [Opd.t 100, Opd.c (AV.str [113])], grd := some (99, false) }, { dst := some 102, op := AOp.bin (BinOp.neq) (Opd.t 101) (Opd.c (AV.int (IntKind.i64) 0)), grd := some (99, false) }, { dst := some 103, op := AOp.pick (Opd.t 99) (Opd.c (AV.bool true)) (Opd.t 102), grd := none }, { dst := some 104, op := AOp.mv (Opd.t 103), grd := none }, { dst := some 105, op := AOp.mv (Opd.t 5), grd := some (104, false) }, { dst := some 106, op := AOp.mv (Opd.t 7), grd := some (104, false) }, { dst := some 107, op := AOp.mv (Opd.t 10), grd := some (104, false) }, { dst := some 108, op := AOp.iadr 1 (Opd.t 106) (Opd.t 107), grd := some (104, false) }, { dst := some 109, op := AOp.load false 1 (Opd.t 108), grd := some (104, false) }, { dst := some 110, op := AOp.call (Opd.c (AV.fn (AFn.func 20) [] [])) [Opd.t 105, Opd.t 109], grd := some (104, false) }, { dst := some 111, op := AOp.bin (BinOp.neq) (Opd.t 110) (Opd.c (AV.int (IntKind.i64) 0)), grd := some (104, false) }, { dst := some 112, op := AOp.pick (Opd.t 104) (Opd.c (AV.bool true)) (Opd.t 111), grd := none }]
def c5_60 : ACode := .seq c5_61 c5_62
def c5_59 : ACode := .block 3 c5_60
def c5_58 : ACode := .seq c5_59 c5_67
def c5_57 : ACode := .exit 2
def c5_56 : ACode := .skip
def c5_55 : ACode := .cond (.t 84) c5_56 c5_57
def c5_54 : ACode := .reg [{ dst := some 81, op := AOp.mv (Opd.t 10), grd := none }, { dst := some 82, op := AOp.mv (Opd.t 7), grd := none }, { dst := some 83, op := AOp.len 1 (Opd.t 82), grd := none }, { dst := some 84, op := AOp.bin (BinOp.lss) (Opd.t 81) (Opd.t 83), grd := none }]
def c5_53 : ACode := .seq c5_54 c5_55
def c5_52 : ACode := .seq c5_53 c5_58
def c5_51 : ACode := .loop c5_52
def c5_50 : ACode := .block 2 c5_51
def c5_49 : ACode := .reg [{ dst := some 10, op := AOp.mv (Opd.c (AV.int (IntKind.i64) 0)), grd := none }]
def c5_48 : ACode := .seq c5_49 c5_50
def c5_47 : ACode := .seq c5_48 c5_68
def c5_46 : ACode := .skip
def c5_45 : ACode := .ret
def c5_44 : ACode := .reg [{ dst := some 2, op := AOp.mv (Opd.c (AV.bool false)), grd := none }]
def c5_43 : ACode := .seq c5_44 c5_45
def c5_42 : ACode := .cond (.t 80) c5_43 c5_46
set_option maxRecDepth 100000 in
def c5_41 : ACode := .reg [{ dst := some 59, op := AOp.mv (Opd.t 4), grd := none }, { dst := some 60, op := AOp.mv (Opd.t 3), grd := none }, { dst := some 61, op := AOp.call (Opd.c (AV.fn (AFn.func 16) [] [])) [Opd.t 59, Opd.t 60], grd := none }, { dst := some 62, op := AOp.bin (BinOp.neq) (Opd.t 61) (Opd.c (AV.int (IntKind.i64) 0)), grd := none }, { dst := some 63, op := AOp.mv (Opd.t 62), grd := none }, { dst := some 64, op := AOp.mv (Opd.t 3), grd := some (63, false) }, { dst := some 65, op := AOp.call (Opd.c (AV.fn (AFn.func 15) [] [])) [Opd.t 64], grd := some (63, false) }, { dst := some 66, op := AOp.bin (BinOp.neq) (Opd.t 65) (Opd.c (AV.int (IntKind.i64) 0)), grd := some (63, false) }, { dst := some 67, op := AOp.pick (Opd.t 63) (Opd.c (AV.bool true)) (Opd.t 66), grd := none }, { dst := some 68, op := AOp.mv (Opd.t 67), grd := none }, { dst := some 69, op := AOp.mv (Opd.t 4), grd := some (68, false) }, { dst := some 70, op := AOp.call (Opd.c (AV.fn (AFn.func 15) [] [])) [Opd.t 69], grd := some (68, false) }, { dst := some 71, op := AOp.mv (Opd.t 7), grd := some (68, false) }, { dst := some 72, op := AOp.len 1 (Opd.t 71), grd := some (68, false) }, { dst := some 73, op := AOp.mv (Opd.t 8), grd := some (68, false) }, { dst := some 74, op := AOp.len 1 (Opd.t 73), grd := some (68, false) }, { dst := some 75, op := AOp.bin (BinOp.add) (Opd.t 72) (Opd.t 74), grd := some (68, false) }, { dst := some 76, op := AOp.mv (Opd.t 9), grd := some (68, false) }, { dst := some 77, op := AOp.len 1 (Opd.t 76), grd := some (68, false) }, { dst := some 78, op := AOp.bin (BinOp.add) (Opd.t 75) (Opd.t 77), grd := some (68, false) }, { dst := some 79, op := AOp.bin (BinOp.neq) (Opd.t 70) (Opd.t 78), grd := some (68, false) }, { dst := some 80, op := AOp.pick (Opd.t 68) (Opd.c (AV.bool true)) (Opd.t 79), grd := none }]
def c5_40 : ACode := .seq c5_41 c5_42
def c5_39 : ACode := .seq c5_40 c5_47
def c5_38 : ACode := .reg [{ dst := some 54, op := AOp.mv (Opd.t 5), grd := none }, { dst := some 55, op := AOp.call (Opd.c (AV.fn (AFn.func 9) [] [])) [Opd.t 54], grd := none }, { dst := some 53, op := AOp.mv (Opd.t 55), grd := none }, { dst := some 56, op := AOp.ext (Opd.t 53) 0, grd := none }, { dst := some 57, op := AOp.ext (Opd.t 53) 1, grd := none }, { dst := some 58, op := AOp.ext (Opd.t 53) 2, grd := none }, { dst := some 7, op := AOp.mv (Opd.t 56), grd := none }, { dst := some 8, op := AOp.mv (Opd.t 57), grd := none }, { dst := some 9, op := AOp.mv (Opd.t 58), grd := none }]
def c5_37 : ACode := .seq c5_38 c5_39
def c5_36 : ACode := .reg [{ dst := some 36, op := AOp.mv (Opd.t 6), grd := none }, { dst := some 37, op := AOp.bin (BinOp.add) (Opd.t 36) (Opd.c (AV.int (IntKind.i64) 1)), grd := none }, { dst := some 6, op := AOp.mv (Opd.t 37), grd := none }]
def c5_35 : ACode := .skip
def c5_34 : ACode := .ret
def c5_33 : ACode := .reg [{ dst := some 2, op := AOp.mv (Opd.c (AV.bool false)), grd := none }]
def c5_32 : ACode := .seq c5_33 c5_34
def c5_31 : ACode := .cond (.t 52) c5_32 c5_35
def c5_30 : ACode := .dreg [{ dst := some 38, op := AOp.mv (Opd.t 3), grd := none }, { dst := some 39, op := AOp.fadr 0 (Opd.t 1), grd := none }, { dst := some 40, op := AOp.load false 1 (Opd.t 39), grd := none }, { dst := some 41, op := AOp.mv (Opd.t 6), grd := none }, { dst := some 42, op := AOp.iadr 2 (Opd.t 40) (Opd.t 41), grd := none }, { dst := some 43, op := AOp.load true 2 (Opd.t 42), grd := none }, { dst := some 45, op := AOp.mv (Opd.t 5), grd := none }, { dst := some 46, op := AOp.fadr 0 (Opd.t 1), grd := none }, { dst := some 47, op := AOp.load false 1 (Opd.t 46), grd := none }, { dst := some 48, op := AOp.mv (Opd.t 6), grd := none }, { dst := some 49, op := AOp.iadr 2 (Opd.t 47) (Opd.t 48), grd := none }, { dst := some 50, op := AOp.load true 2 (Opd.t 49), grd := none }] [({ dst := some 44, op := AOp.call (Opd.c (AV.fn (AFn.func 8) [] [])) [Opd.t 38, Opd.t 43], grd := none }, [{ dst := some 47, op := AOp.load false 1 (Opd.t 46), grd := none }, { dst := some 49, op := AOp.iadr 2 (Opd.t 47) (Opd.t 48), grd := none }, { dst := some 50, op := AOp.load true 2 (Opd.t 49), grd := none }], []), ({ dst := some 51, op := AOp.call (Opd.c (AV.fn (AFn.func 8) [] [])) [Opd.t 45, Opd.t 50], grd := none }, [], [{ dst := some 52, op := AOp.bin (BinOp.neq) (Opd.t 44) (Opd.t 51), grd := none }])]
def c5_29 : ACode := .seq c5_30 c5_31
def c5_28 : ACode := .block 1 c5_29
def c5_27 : ACode := .seq c5_28 c5_36
def c5_26 : ACode := .exit 0
def c5_25 : ACode := .skip
def c5_24 : ACode := .cond (.t 35) c5_25 c5_26
def c5_23 : ACode := .reg [{ dst := some 27, op := AOp.mv (Opd.t 6), grd := none }, { dst := some 28, op := AOp.fadr 0 (Opd.t 1), grd := none }, { dst := some 29, op := AOp.load false 1 (Opd.t 28), grd := none }, { dst := some 30, op := AOp.len 1 (Opd.t 29), grd := none }, { dst := some 31, op := AOp.bin (BinOp.lss) (Opd.t 27) (Opd.t 30), grd := none }, { dst := some 32, op := AOp.mv (Opd.t 31), grd := none }, { dst := some 33, op := AOp.mv (Opd.t 6), grd := some (32, true) }, { dst := some 34, op := AOp.bin (BinOp.lss) (Opd.t 33) (Opd.c (AV.int (IntKind.i64) 60)), grd := some (32, true) }, { dst := some 35, op := AOp.pick (Opd.t 32) (Opd.t 34) (Opd.c (AV.bool false)), grd := none }]
def c5_22 : ACode := .seq c5_23 c5_24
def c5_21 : ACode := .seq c5_22 c5_27
def c5_20 : ACode := .loop c5_21
def c5_19 : ACode := .block 0 c5_20
def c5_18 : ACode := .reg [{ dst := some 6, op := AOp.mv (Opd.c (AV.int (IntKind.i64) 0)), grd := none }]
def c5_17 : ACode := .seq c5_18 c5_19
def c5_16 : ACode := .seq c5_17 c5_37
def c5_15 : ACode := .skip
def c5_14 : ACode := .ret
def c5_13 : ACode := .reg [{ dst := some 2, op := AOp.mv (Opd.c (AV.bool false)), grd := none }]
def c5_12 : ACode := .seq c5_13 c5_14
def c5_11 : ACode := .cond (.t 26) c5_12 c5_15
def c5_10 : ACode := .reg [{ dst := some 17, op := AOp.mv (Opd.t 3), grd := none }, { dst := some 18, op := AOp.eq false (EqK.ptr) (Opd.t 17) (Opd.c (AV.nilPtr)), grd := none }, { dst := some 19, op := AOp.mv (Opd.t 18), grd := none }, { dst := some 20, op := AOp.mv (Opd.t 4), grd := some (19, false) }, { dst := some 21, op := AOp.eq false (EqK.ptr) (Opd.t 20) (Opd.c (AV.nilPtr)), grd := some (19, false) }, { dst := some 22, op := AOp.pick (Opd.t 19) (Opd.c (AV.bool true)) (Opd.t 21), grd := none }, { dst := some 23, op := AOp.mv (Opd.t 22), grd := none }, { dst := some 24, op := AOp.mv (Opd.t 5), grd := some (23, false) }, { dst := some 25, op := AOp.eq false (EqK.ptr) (Opd.t 24) (Opd.c (AV.nilPtr)), grd := some (23, false) }, { dst := some 26, op := AOp.pick (Opd.t 23) (Opd.c (AV.bool true)) (Opd.t 25), grd := none }]
def c5_9 : ACode := .seq c5_10 c5_11
def c5_8 : ACode := .seq c5_9 c5_16
def c5_7 : ACode := .reg [{ dst := some 16, op := AOp.call (Opd.c (AV.fn (AFn.func 6) [] [])) [], grd := none }, { dst := some 5, op := AOp.mv (Opd.t 16), grd := none }]
def c5_6 : ACode := .seq c5_7 c5_8
def c5_5 : ACode := .reg [{ dst := some 15, op := AOp.call (Opd.c (AV.fn (AFn.func 6) [] [])) [], grd := none }, { dst := some 4, op := AOp.mv (Opd.t 15), grd := none }]
def c5_4 : ACode := .seq c5_5 c5_6
def c5_3 : ACode := .reg [{ dst := some 14, op := AOp.call (Opd.c (AV.fn (AFn.func 6) [] [])) [], grd := none }, { dst := some 3, op := AOp.mv (Opd.t 14), grd := none }]
def c5_2 : ACode := .seq c5_3 c5_4
def c5_1 : ACode := .reg [{ dst := some 1, op := AOp.box 2 (Opd.t 0), grd := none }, { dst := some 2, op := AOp.mv (Opd.c (AV.bool false)), grd := none }]
def c5_0 : ACode := .seq c5_1 c5_2
def A5 : AFun := { np := 1, res := [(2, none)], body := c5_0 }

def c6_4 : ACode := .ret
def c6_3 : ACode := .reg [{ dst := some 1, op := AOp.mkmap, grd := none }, { dst := some 2, op := AOp.build [AV.nilMap, AV.int (IntKind.i64) 0] [(0, 1, Opd.t 1)], grd := none }, { dst := some 3, op := AOp.box 2 (Opd.t 2), grd := none }, { dst := some 0, op := AOp.mv (Opd.t 3), grd := none }]
def c6_2 : ACode := .seq c6_3 c6_4
def c6_1 : ACode := .reg [{ dst := some 0, op := AOp.mv (Opd.c (AV.nilPtr)), grd := none }]
def c6_0 : ACode := .seq c6_1 c6_2
def A6 : AFun := { np := 0, res := [(0, none)], body := c6_0 }

def c7_12 : ACode := .ret
def c7_11 : ACode := .reg [{ dst := some 2, op := AOp.mv (Opd.c (AV.int (IntKind.i64) 3)), grd := none }]
def c7_10 : ACode := .seq c7_11 c7_12
def c7_9 : ACode := .skip
def c7_8 : ACode := .ret
def c7_7 : ACode := .reg [{ dst := some 11, op := AOp.fadr 0 (Opd.t 1), grd := none }, { dst := some 12, op := AOp.load false 1 (Opd.t 11), grd := none }, { dst := some 2, op := AOp.mv (Opd.t 12), grd := none }]
def c7_6 : ACode := .seq c7_7 c7_8
def c7_5 : ACode := .cond (.t 10) c7_6 c7_9
def c7_4 : ACode := .reg [{ dst := some 3, op := AOp.fadr 0 (Opd.t 1), grd := none }, { dst := some 4, op := AOp.load false 1 (Opd.t 3), grd := none }, { dst := some 5, op := AOp.bin (BinOp.eql) (Opd.t 4) (Opd.c (AV.int (IntKind.i64) 1)), grd := none }, { dst := some 6, op := AOp.mv (Opd.t 5), grd := none }, { dst := some 7, op := AOp.fadr 0 (Opd.t 1), grd := some (6, false) }, { dst := some 8, op := AOp.load false 1 (Opd.t 7), grd := some (6, false) }, { dst := some 9, op := AOp.bin (BinOp.eql) (Opd.t 8) (Opd.c (AV.int (IntKind.i64) 2)), grd := some (6, false) }, { dst := some 10, op := AOp.pick (Opd.t 6) (Opd.c (AV.bool true)) (Opd.t 9), grd := none }]
def c7_3 : ACode := .seq c7_4 c7_5
def c7_2 : ACode := .seq c7_3 c7_10
def c7_1 : ACode := .reg [{ dst := some 1, op := AOp.box 2 (Opd.t 0), grd := none }, { dst := some 2, op := AOp.mv (Opd.c (AV.int (IntKind.i64) 0)), grd := none }]
def c7_0 : ACode := .seq c7_1 c7_2
def A7 : AFun := { np := 1, res := [(2, none)], body := c7_0 }

def c8_21 : ACode := .ret
def c8_20 : ACode := .reg [{ dst := some 19, op := AOp.mv (Opd.t 0), grd := none }, { dst := some 20, op := AOp.fadr 1 (Opd.t 3), grd := none }, { dst := some 21, op := AOp.load false 1 (Opd.t 20), grd := none }, { dst := some 22, op := AOp.call (Opd.c (AV.fn (AFn.func 20) [] [])) [Opd.t 19, Opd.t 21], grd := none }, { dst := some 4, op := AOp.mv (Opd.t 22), grd := none }]
def c8_19 : ACode := .seq c8_20 c8_21
def c8_18 : ACode := .skip
def c8_17 : ACode := .ret
def c8_16 : ACode := .reg [{ dst := some 15, op := AOp.mv (Opd.t 0), grd := none }, { dst := some 16, op := AOp.fadr 1 (Opd.t 3), grd := none }, { dst := some 17, op := AOp.load false 1 (Opd.t 16), grd := none }, { dst := some 18, op := AOp.call (Opd.c (AV.fn (AFn.func 22) [] [])) [Opd.t 15, Opd.t 17], grd := none }, { dst := some 4, op := AOp.mv (Opd.t 18), grd := none }]
def c8_15 : ACode := .seq c8_16 c8_17
def c8_14 : ACode := .cond (.t 13) c8_15 c8_18
def c8_13 : ACode := .reg [{ dst := some 14, op := AOp.bin (BinOp.eql) (Opd.t 6) (Opd.c (AV.int (IntKind.i64) 2)), grd := none }, { dst := some 13, op := AOp.mv (Opd.t 14), grd := none }]
def c8_12 : ACode := .seq c8_13 c8_14
def c8_11 : ACode := .ret
def c8_10 : ACode := .reg [{ dst := some 9, op := AOp.mv (Opd.t 0), grd := none }, { dst := some 10, op := AOp.fadr 1 (Opd.t 3), grd := none }, { dst := some 11, op := AOp.load false 1 (Opd.t 10), grd := none }, { dst := some 12, op := AOp.call (Opd.c (AV.fn (AFn.func 19) [] [])) [Opd.t 9, Opd.t 11], grd := none }, { dst := some 4, op := AOp.mv (Opd.t 12), grd := none }]
def c8_9 : ACode := .seq c8_10 c8_11
def c8_8 : ACode := .cond (.t 7) c8_9 c8_12
def c8_7 : ACode := .reg [{ dst := some 8, op := AOp.bin (BinOp.eql) (Opd.t 6) (Opd.c (AV.int (IntKind.i64) 1)), grd := none }, { dst := some 7, op := AOp.mv (Opd.t 8), grd := none }]
def c8_6 : ACode := .seq c8_7 c8_8
def c8_5 : ACode := .block 0 c8_6
def c8_4 : ACode := .reg [{ dst := some 5, op := AOp.fadr 0 (Opd.t 3), grd := none }, { dst := some 6, op := AOp.load false 1 (Opd.t 5), grd := none }]
def c8_3 : ACode := .seq c8_4 c8_5
def c8_2 : ACode := .seq c8_3 c8_19
def c8_1 : ACode := .reg [{ dst := some 3, op := AOp.box 2 (Opd.t 1), grd := none }, { dst := some 4, op := AOp.mv (Opd.c (AV.int (IntKind.i64) 0)), grd := none }]
def c8_0 : ACode := .seq c8_1 c8_2
def A8 : AFun := { np := 2, res := [(4, none)], body := c8_0 }

def c9_8 : ACode := .ret
def c9_7 : ACode := .dreg [{ dst := some 12, op := AOp.iadra 4 1 (Opd.t 5) (Opd.c (AV.int (IntKind.i64) 1)), grd := none }, { dst := some 13, op := AOp.load false 1 (Opd.t 12), grd := none }, { dst := some 14, op := AOp.iadra 4 1 (Opd.t 5) (Opd.c (AV.int (IntKind.i64) 2)), grd := none }, { dst := some 15, op := AOp.load false 1 (Opd.t 14), grd := none }, { dst := some 16, op := AOp.iadra 4 1 (Opd.t 5) (Opd.c (AV.int (IntKind.i64) 3)), grd := none }, { dst := some 17, op := AOp.load false 1 (Opd.t 16), grd := none }, { dst := some 2, op := AOp.mv (Opd.t 13), grd := none }, { dst := some 3, op := AOp.mv (Opd.t 15), grd := none }, { dst := some 4, op := AOp.mv (Opd.t 17), grd := none }] []
def c9_6 : ACode := .seq c9_7 c9_8
def c9_5 : ACode := .reg [{ dst := some 8, op := AOp.mv (Opd.t 0), grd := none }, { dst := some 9, op := AOp.mkmap, grd := none }, { dst := some 10, op := AOp.nilck (Opd.t 8), grd := none }, { dst := some 11, op := AOp.fadr 0 (Opd.t 10), grd := none }, { dst := none, op := AOp.store 1 (Opd.t 11) (Opd.t 9), grd := none }]
def c9_4 : ACode := .seq c9_5 c9_6
def c9_3 : ACode := .reg [{ dst := some 6, op := AOp.mv (Opd.t 0), grd := none }, { dst := some 7, op := AOp.call (Opd.c (AV.fn (AFn.func 23) [] [])) [Opd.t 6], grd := none }, { dst := some 5, op := AOp.alloc [AV.nilSlc, AV.nilSlc, AV.nilSlc, AV.nilSlc], grd := none }, { dst := none, op := AOp.store 4 (Opd.t 5) (Opd.t 7), grd := none }]
def c9_2 : ACode := .seq c9_3 c9_4
def c9_1 : ACode := .reg [{ dst := some 2, op := AOp.mv (Opd.c (AV.nilSlc)), grd := none }, { dst := some 3, op := AOp.mv (Opd.c (AV.nilSlc)), grd := none }, { dst := some 4, op := AOp.mv (Opd.c (AV.nilSlc)), grd := none }]
def c9_0 : ACode := .seq c9_1 c9_2
def A9 : AFun := { np := 1, res := [(2, none), (3, none), (4, none)], body := c9_0 }

def c10_25 : ACode := .ret
def c10_24 : ACode := .reg [{ dst := some 4, op := AOp.mv (Opd.c (AV.int (IntKind.i64) (-1))), grd := none }]
def c10_23 : ACode := .seq c10_24 c10_25
def c10_22 : ACode := .reg [{ dst := some 10, op := AOp.mv (Opd.t 5), grd := none }, { dst := some 11, op := AOp.bin (BinOp.add) (Opd.t 10) (Opd.c (AV.int (IntKind.i64) 1)), grd := none }, { dst := some 5, op := AOp.mv (Opd.t 11), grd := none }]
def c10_21 : ACode := .skip
def c10_20 : ACode := .ret
def c10_19 : ACode := .reg [{ dst := some 18, op := AOp.mv (Opd.t 5), grd := none }, { dst := some 4, op := AOp.mv (Opd.t 18), grd := none }]
def c10_18 : ACode := .seq c10_19 c10_20
def c10_17 : ACode := .cond (.t 17) c10_18 c10_21
def c10_16 : ACode := .reg [{ dst := some 12, op := AOp.mv (Opd.t 0), grd := none }, { dst := some 13, op := AOp.mv (Opd.t 5), grd := none }, { dst := some 14, op := AOp.iadr 1 (Opd.t 12) (Opd.t 13), grd := none }, { dst := some 15, op := AOp.load false 1 (Opd.t 14), grd := none }, { dst := some 16, op := AOp.mv (Opd.t 1), grd := none }, { dst := some 17, op := AOp.bin (BinOp.eql) (Opd.t 15) (Opd.t 16), grd := none }]
def c10_15 : ACode := .seq c10_16 c10_17
def c10_14 : ACode := .block 1 c10_15
def c10_13 : ACode := .seq c10_14 c10_22
def c10_12 : ACode := .exit 0
def c10_11 : ACode := .skip
def c10_10 : ACode := .cond (.t 9) c10_11 c10_12
def c10_9 : ACode := .reg [{ dst := some 6, op := AOp.mv (Opd.t 5), grd := none }, { dst := some 7, op := AOp.mv (Opd.t 0), grd := none }, { dst := some 8, op := AOp.len 1 (Opd.t 7), grd := none }, { dst := some 9, op := AOp.bin (BinOp.lss) (Opd.t 6) (Opd.t 8), grd := none }]
def c10_8 : ACode := .seq c10_9 c10_10
def c10_7 : ACode := .seq c10_8 c10_13
def c10_6 : ACode := .loop c10_7
def c10_5 : ACode := .block 0 c10_6
def c10_4 : ACode := .reg [{ dst := some 5, op := AOp.mv (Opd.c (AV.int (IntKind.i64) 0)), grd := none }]
def c10_3 : ACode := .seq c10_4 c10_5
def c10_2 : ACode := .seq c10_3 c10_23
def c10_1 : ACode := .reg [{ dst := some 4, op := AOp.mv (Opd.c (AV.int (IntKind.i64) 0)), grd := none }]
def c10_0 : ACode := .seq c10_1 c10_2
def A10 : AFun := { np := 2, res := [(4, none)], body := c10_0 }

def c11_16 : ACode := .ret
def c11_15 : ACode := .reg [{ dst := some 39, op := AOp.mv (Opd.t 3), grd := none }, { dst := some 40, op := AOp.bslice 2 1 [AV.str []] [(0, Opd.c (AV.str [98])), (1, Opd.c (AV.str [99]))], grd := none }, { dst := some 41, op := AOp.call (Opd.c (AV.fn (AFn.func 21) [] [])) [Opd.t 39, Opd.t 40], grd := none }, { dst := some 42, op := AOp.mv (Opd.t 41), grd := none }, { dst := some 43, op := AOp.mv (Opd.t 1), grd := some (42, true) }, { dst := some 44, op := AOp.call (Opd.c (AV.fn (AFn.func 15) [] [])) [Opd.t 43], grd := some (42, true) }, { dst := some 45, op := AOp.bin (BinOp.eql) (Opd.t 44) (Opd.c (AV.int (IntKind.i64) 0)), grd := some (42, true) }, { dst := some 46, op := AOp.pick (Opd.t 42) (Opd.t 45) (Opd.c (AV.bool false)), grd := none }, { dst := some 0, op := AOp.mv (Opd.t 46), grd := none }]
def c11_14 : ACode := .seq c11_15 c11_16
def c11_13 : ACode := .reg [{ dst := some 34, op := AOp.mv (Opd.t 1), grd := none }, { dst := some 35, op := AOp.call (Opd.c (AV.fn (AFn.func 9) [] [])) [Opd.t 34], grd := none }, { dst := some 33, op := AOp.mv (Opd.t 35), grd := none }, { dst := some 36, op := AOp.ext (Opd.t 33) 0, grd := none }, { dst := some 37, op := AOp.ext (Opd.t 33) 1, grd := none }, { dst := some 38, op := AOp.ext (Opd.t 33) 2, grd := none }, { dst := some 2, op := AOp.mv (Opd.t 36), grd := none }, { dst := some 3, op := AOp.mv (Opd.t 37), grd := none }, { dst := some 4, op := AOp.mv (Opd.t 38), grd := none }]
def c11_12 : ACode := .seq c11_13 c11_14
def c11_11 : ACode := .skip
def c11_10 : ACode := .ret
def c11_9 : ACode := .reg [{ dst := some 0, op := AOp.mv (Opd.c (AV.bool false)), grd := none }]
def c11_8 : ACode := .seq c11_9 c11_10
def c11_7 : ACode := .cond (.t 32) c11_8 c11_11
set_option maxRecDepth 100000 in
def c11_6 : ACode := .reg [{ dst := some 6, op := AOp.mv (Opd.t 1), grd := none }, { dst := some 7, op := AOp.eq false (EqK.ptr) (Opd.t 6) (Opd.c (AV.nilPtr)), grd := none }, { dst := some 8, op := AOp.mv (Opd.t 7), grd := none }, { dst := some 9, op := AOp.mv (Opd.t 1), grd := some (8, false) }, { dst := some 10, op := AOp.call (Opd.c (AV.fn (AFn.func 19) [] [])) [Opd.t 9, Opd.c (AV.str [97])], grd := some (8, false) }, { dst := some 11, op := AOp.bin (BinOp.neq) (Opd.t 10) (Opd.c (AV.int (IntKind.i64) 0)), grd := some (8, false) }, { dst := some 12, op := AOp.pick (Opd.t 8) (Opd.c (AV.bool true)) (Opd.t 11), grd := none }, { dst := some 13, op := AOp.mv (Opd.t 12), grd := none }, { dst := some 14, op := AOp.mv (Opd.t 1), grd := some (13, false) }, { dst := some 15, op := AOp.call (Opd.c (AV.fn (AFn.func 20) [] [])) [Opd.t 14, Opd.c (AV.str [97])], grd := some (13, false) }, { dst := some 16, op := AOp.bin (BinOp.neq) (Opd.t 15) (Opd.c (AV.int (IntKind.i64) 0)), grd := some (13, false) }, { dst := some 17, op := AOp.pick (Opd.t 13) (Opd.c (AV.bool true)) (Opd.t 16), grd := none }, { dst := some 18, op := AOp.mv (Opd.t 17), grd := none }, { dst := some 19, op := AOp.mv (Opd.t 1), grd := some (18, false) }, { dst := some 20, op := AOp.call (Opd.c (AV.fn (AFn.func 20) [] [])) [Opd.t 19, Opd.c (AV.str [98])], grd := some (18, false) }, { dst := some 21, op := AOp.bin (BinOp.neq) (Opd.t 20) (Opd.c (AV.int (IntKind.i64) 0)), grd := some (18, false) }, { dst := some 22, op := AOp.pick (Opd.t 18) (Opd.c (AV.bool true)) (Opd.t 21), grd := none }, { dst := some 23, op := AOp.mv (Opd.t 22), grd := none }, { dst := some 24, op := AOp.mv (Opd.t 1), grd := some (23, false) }, { dst := some 25, op := AOp.call (Opd.c (AV.fn (AFn.func 19) [] [])) [Opd.t 24, Opd.c (AV.str [98])], grd := some (23, false) }, { dst := some 26, op := AOp.bin (BinOp.neq) (Opd.t 25) (Opd.c (AV.int (IntKind.i64) 0)), grd := some (23, false) }, { dst := some 27, op := AOp.pick (Opd.t 23) (Opd.c (AV.bool true)) (Opd.t 26), grd := none }, { dst := some 28, op := AOp.mv (Opd.t 27), grd := none }, { dst := some 29, op := AOp.mv (Opd.t 1), grd := some (28, false) }, { dst := some 30, op := AOp.call (Opd.c (AV.fn (AFn.func 22) [] [])) [Opd.t 29, Opd.c (AV.str [99])], grd := some (28, false) }, { dst := some 31, op := AOp.bin (BinOp.neq) (Opd.t 30) (Opd.c (AV.int (IntKind.i64) 0)), grd := some (28, false) }, { dst := some 32, op := AOp.pick (Opd.t 28) (Opd.c (AV.bool true)) (Opd.t 31), grd := none }]
def c11_5 : ACode := .seq c11_6 c11_7
def c11_4 : ACode := .seq c11_5 c11_12
def c11_3 : ACode := .reg [{ dst := some 5, op := AOp.call (Opd.c (AV.fn (AFn.func 6) [] [])) [], grd := none }, { dst := some 1, op := AOp.mv (Opd.t 5), grd := none }]
def c11_2 : ACode := .seq c11_3 c11_4
def c11_1 : ACode := .reg [{ dst := some 0, op := AOp.mv (Opd.c (AV.bool false)), grd := none }]
def c11_0 : ACode := .seq c11_1 c11_2
def A11 : AFun := { np := 0, res := [(0, none)], body := c11_0 }

def c12_37 : ACode := .ret
def c12_36 : ACode := .reg [{ dst := some 6, op := AOp.mv (Opd.c (AV.int (IntKind.i64) 0)), grd := none }]
def c12_35 : ACode := .seq c12_36 c12_37
def c12_34 : ACode := .ret
def c12_33 : ACode := .reg [{ dst := some 6, op := AOp.mv (Opd.c (AV.int (IntKind.i64) 33)), grd := none }]
def c12_32 : ACode := .seq c12_33 c12_34
def c12_31 : ACode := .reg [{ dst := some 81, op := AOp.mv (Opd.t 0), grd := none }, { dst := some 82, op := AOp.mv (Opd.t 9), grd := none }, { dst := some 83, op := AOp.mv (Opd.t 0), grd := none }, { dst := some 84, op := AOp.nilck (Opd.t 83), grd := none }, { dst := some 85, op := AOp.fadr 0 (Opd.t 84), grd := none }, { dst := some 86, op := AOp.load false 1 (Opd.t 85), grd := none }, { dst := some 87, op := AOp.mv (Opd.t 7), grd := none }, { dst := some 88, op := AOp.bin (BinOp.add) (Opd.t 87) (Opd.c (AV.int (IntKind.i64) 1)), grd := none }, { dst := some 89, op := AOp.sl 2 (Opd.t 86) (some (Opd.t 88)) none none, grd := none }, { dst := some 90, op := AOp.app 2 24 (Opd.t 82) (Opd.t 89), grd := none }, { dst := some 91, op := AOp.nilck (Opd.t 81), grd := none }, { dst := some 92, op := AOp.fadr 0 (Opd.t 91), grd := none }, { dst := none, op := AOp.store 1 (Opd.t 92) (Opd.t 90), grd := none }]
def c12_30 : ACode := .reg [{ dst := some 73, op := AOp.mv (Opd.t 9), grd := none }, { dst := some 74, op := AOp.mv (Opd.t 0), grd := none }, { dst := some 75, op := AOp.nilck (Opd.t 74), grd := none }, { dst := some 76, op := AOp.fadr 0 (Opd.t 75), grd := none }, { dst := some 77, op := AOp.load false 1 (Opd.t 76), grd := none }, { dst := some 78, op := AOp.mv (Opd.t 7), grd := none }, { dst := some 79, op := AOp.sl 2 (Opd.t 77) none (some (Opd.t 78)) none, grd := none }, { dst := some 80, op := AOp.app 2 24 (Opd.t 73) (Opd.t 79), grd := none }, { dst := some 9, op := AOp.mv (Opd.t 80), grd := none }]
def c12_29 : ACode := .seq c12_30 c12_31
def c12_28 : ACode := .reg [{ dst := some 9, op := AOp.mv (Opd.c (AV.nilSlc)), grd := none }]
def c12_27 : ACode := .seq c12_28 c12_29
def c12_26 : ACode := .cond (.t 66) c12_27 c12_32
def c12_25 : ACode := .reg [{ dst := some 67, op := AOp.mv (Opd.t 1), grd := none }, { dst := some 68, op := AOp.bin (BinOp.eql) (Opd.t 67) (Opd.c (AV.int (IntKind.i64) 3)), grd := none }, { dst := some 69, op := AOp.mv (Opd.t 68), grd := none }, { dst := some 70, op := AOp.mv (Opd.t 8), grd := some (69, true) }, { dst := some 71, op := AOp.bin (BinOp.eql) (Opd.t 70) (Opd.c (AV.int (IntKind.i64) 1)), grd := some (69, true) }, { dst := some 72, op := AOp.pick (Opd.t 69) (Opd.t 71) (Opd.c (AV.bool false)), grd := none }, { dst := some 66, op := AOp.mv (Opd.t 72), grd := none }]
def c12_24 : ACode := .seq c12_25 c12_26
def c12_23 : ACode := .reg [{ dst := some 59, op := AOp.mv (Opd.t 0), grd := none }, { dst := some 60, op := AOp.nilck (Opd.t 59), grd := none }, { dst := some 61, op := AOp.fadr 0 (Opd.t 60), grd := none }, { dst := some 62, op := AOp.load false 1 (Opd.t 61), grd := none }, { dst := some 63, op := AOp.mv (Opd.t 7), grd := none }, { dst := some 64, op := AOp.iadr 2 (Opd.t 62) (Opd.t 63), grd := none }, { dst := some 65, op := AOp.fadr 1 (Opd.t 64), grd := none }, { dst := none, op := AOp.store 1 (Opd.t 65) (Opd.c (AV.int (IntKind.i64) 3)), grd := none }]
def c12_22 : ACode := .cond (.t 52) c12_23 c12_24
def c12_21 : ACode := .reg [{ dst := some 53, op := AOp.mv (Opd.t 1), grd := none }, { dst := some 54, op := AOp.bin (BinOp.eql) (Opd.t 53) (Opd.c (AV.int (IntKind.i64) 3)), grd := none }, { dst := some 55, op := AOp.mv (Opd.t 54), grd := none }, { dst := some 56, op := AOp.mv (Opd.t 8), grd := some (55, true) }, { dst := some 57, op := AOp.bin (BinOp.eql) (Opd.t 56) (Opd.c (AV.int (IntKind.i64) 2)), grd := some (55, true) }, { dst := some 58, op := AOp.pick (Opd.t 55) (Opd.t 57) (Opd.c (AV.bool false)), grd := none }, { dst := some 52, op := AOp.mv (Opd.t 58), grd := none }]
def c12_20 : ACode := .seq c12_21 c12_22
def c12_19 : ACode := .skip
def c12_18 : ACode := .cond (.t 45) c12_19 c12_20
def c12_17 : ACode := .reg [{ dst := some 46, op := AOp.mv (Opd.t 1), grd := none }, { dst := some 47, op := AOp.bin (BinOp.eql) (Opd.t 46) (Opd.c (AV.int (IntKind.i64) 2)), grd := none }, { dst := some 48, op := AOp.mv (Opd.t 47), grd := none }, { dst := some 49, op := AOp.mv (Opd.t 8), grd := some (48, true) }, { dst := some 50, op := AOp.bin (BinOp.neq) (Opd.t 49) (Opd.c (AV.int (IntKind.i64) 3)), grd := some (48, true) }, { dst := some 51, op := AOp.pick (Opd.t 48) (Opd.t 50) (Opd.c (AV.bool false)), grd := none }, { dst := some 45, op := AOp.mv (Opd.t 51), grd := none }]
def c12_16 : ACode := .seq c12_17 c12_18
def c12_15 : ACode := .reg [{ dst := some 38, op := AOp.mv (Opd.t 0), grd := none }, { dst := some 39, op := AOp.nilck (Opd.t 38), grd := none }, { dst := some 40, op := AOp.fadr 0 (Opd.t 39), grd := none }, { dst := some 41, op := AOp.load false 1 (Opd.t 40), grd := none }, { dst := some 42, op := AOp.mv (Opd.t 7), grd := none }, { dst := some 43, op := AOp.iadr 2 (Opd.t 41) (Opd.t 42), grd := none }, { dst := some 44, op := AOp.fadr 1 (Opd.t 43), grd := none }, { dst := none, op := AOp.store 1 (Opd.t 44) (Opd.c (AV.int (IntKind.i64) 2)), grd := none }]
def c12_14 : ACode := .cond (.t 31) c12_15 c12_16
def c12_13 : ACode := .reg [{ dst := some 32, op := AOp.mv (Opd.t 1), grd := none }, { dst := some 33, op := AOp.bin (BinOp.eql) (Opd.t 32) (Opd.c (AV.int (IntKind.i64) 1)), grd := none }, { dst := some 34, op := AOp.mv (Opd.t 33), grd := none }, { dst := some 35, op := AOp.mv (Opd.t 8), grd := some (34, true) }, { dst := some 36, op := AOp.bin (BinOp.eql) (Opd.t 35) (Opd.c (AV.int (IntKind.i64) 3)), grd := some (34, true) }, { dst := some 37, op := AOp.pick (Opd.t 34) (Opd.t 36) (Opd.c (AV.bool false)), grd := none }, { dst := some 31, op := AOp.mv (Opd.t 37), grd := none }]
def c12_12 : ACode := .seq c12_13 c12_14
def c12_11 : ACode := .reg [{ dst := some 19, op := AOp.mv (Opd.t 0), grd := none }, { dst := some 20, op := AOp.mv (Opd.t 0), grd := none }, { dst := some 21, op := AOp.nilck (Opd.t 20), grd := none }, { dst := some 22, op := AOp.fadr 0 (Opd.t 21), grd := none }, { dst := some 23, op := AOp.load false 1 (Opd.t 22), grd := none }, { dst := some 24, op := AOp.mv (Opd.t 2), grd := none }, { dst := some 25, op := AOp.mv (Opd.t 1), grd := none }, { dst := some 26, op := AOp.build [AV.str [], AV.int (IntKind.i64) 0] [(0, 1, Opd.t 24), (1, 1, Opd.t 25)], grd := none }, { dst := some 27, op := AOp.bslice 1 2 [AV.str [], AV.int (IntKind.i64) 0] [(0, Opd.t 26)], grd := none }, { dst := some 28, op := AOp.app 2 24 (Opd.t 23) (Opd.t 27), grd := none }, { dst := some 29, op := AOp.nilck (Opd.t 19), grd := none }, { dst := some 30, op := AOp.fadr 0 (Opd.t 29), grd := none }, { dst := none, op := AOp.store 1 (Opd.t 30) (Opd.t 28), grd := none }]
def c12_10 : ACode := .cond (.t 16) c12_11 c12_12
def c12_9 : ACode := .reg [{ dst := some 17, op := AOp.mv (Opd.t 8), grd := none }, { dst := some 18, op := AOp.bin (BinOp.eql) (Opd.t 17) (Opd.c (AV.int (IntKind.i64) 0)), grd := none }, { dst := some 16, op := AOp.mv (Opd.t 18), grd := none }]
def c12_8 : ACode := .seq c12_9 c12_10
def c12_7 : ACode := .block 0 c12_8
def c12_6 : ACode := .seq c12_7 c12_35
def c12_5 : ACode := .reg [{ dst := some 13, op := AOp.mv (Opd.t 0), grd := none }, { dst := some 14, op := AOp.mv (Opd.t 2), grd := none }, { dst := some 15, op := AOp.call (Opd.c (AV.fn (AFn.func 14) [] [])) [Opd.t 13, Opd.t 14], grd := none }, { dst := some 8, op := AOp.mv (Opd.t 15), grd := none }]
def c12_4 : ACode := .seq c12_5 c12_6
def c12_3 : ACode := .reg [{ dst := some 10, op := AOp.mv (Opd.t 0), grd := none }, { dst := some 11, op := AOp.mv (Opd.t 2), grd := none }, { dst := some 12, op := AOp.call (Opd.c (AV.fn (AFn.func 24) [] [])) [Opd.t 10, Opd.t 11], grd := none }, { dst := some 7, op := AOp.mv (Opd.t 12), grd := none }]
def c12_2 : ACode := .seq c12_3 c12_4
def c12_1 : ACode := .reg [{ dst := some 6, op := AOp.mv (Opd.c (AV.int (IntKind.i64) 0)), grd := none }]
def c12_0 : ACode := .seq c12_1 c12_2
def A12 : AFun := { np := 3, res := [(6, none)], body := c12_0 }

def c13_4 : ACode := .ret
def c13_3 : ACode := .reg [{ dst := some 5, op := AOp.mv (Opd.t 0), grd := none }, { dst := some 6, op := AOp.nilck (Opd.t 5), grd := none }, { dst := some 7, op := AOp.fadr 0 (Opd.t 6), grd := none }, { dst := some 8, op := AOp.load false 1 (Opd.t 7), grd := none }, { dst := some 9, op := AOp.mv (Opd.t 1), grd := none }, { dst := some 10, op := AOp.look (KK.leaf (K0.str)) false (AV.agg [AV.int (IntKind.i64) 0, AV.int (IntKind.i64) 0]) (Opd.t 8) (Opd.t 9), grd := none }, { dst := some 11, op := AOp.fld false 0 1 (Opd.t 10), grd := none }, { dst := some 4, op := AOp.mv (Opd.t 11), grd := none }]
def c13_2 : ACode := .seq c13_3 c13_4
def c13_1 : ACode := .reg [{ dst := some 4, op := AOp.mv (Opd.c (AV.int (IntKind.i64) 0)), grd := none }]
def c13_0 : ACode := .seq c13_1 c13_2
def A13 : AFun := { np := 2, res := [(4, none)], body := c13_0 }

def c14_14 : ACode := .ret
def c14_13 : ACode := .reg [{ dst := some 11, op := AOp.mv (Opd.t 0), grd := none }, { dst := some 12, op := AOp.nilck (Opd.t 11), grd := none }, { dst := some 13, op := AOp.fadr 0 (Opd.t 12), grd := none }, { dst := some 14, op := AOp.load false 1 (Opd.t 13), grd := none }, { dst := some 15, op := AOp.mv (Opd.t 5), grd := none }, { dst := some 16, op := AOp.iadr 2 (Opd.t 14) (Opd.t 15), grd := none }, { dst := some 17, op := AOp.fadr 1 (Opd.t 16), grd := none }, { dst := some 18, op := AOp.load false 1 (Opd.t 17), grd := none }, { dst := some 4, op := AOp.mv (Opd.t 18), grd := none }]
def c14_12 : ACode := .seq c14_13 c14_14
def c14_11 : ACode := .skip
def c14_10 : ACode := .ret
def c14_9 : ACode := .reg [{ dst := some 4, op := AOp.mv (Opd.c (AV.int (IntKind.i64) 0)), grd := none }]
def c14_8 : ACode := .seq c14_9 c14_10
def c14_7 : ACode := .cond (.t 10) c14_8 c14_11
def c14_6 : ACode := .reg [{ dst := some 9, op := AOp.mv (Opd.t 5), grd := none }, { dst := some 10, op := AOp.bin (BinOp.lss) (Opd.t 9) (Opd.c (AV.int (IntKind.i64) 0)), grd := none }]
def c14_5 : ACode := .seq c14_6 c14_7
def c14_4 : ACode := .seq c14_5 c14_12
def c14_3 : ACode := .reg [{ dst := some 6, op := AOp.mv (Opd.t 0), grd := none }, { dst := some 7, op := AOp.mv (Opd.t 1), grd := none }, { dst := some 8, op := AOp.call (Opd.c (AV.fn (AFn.func 24) [] [])) [Opd.t 6, Opd.t 7], grd := none }, { dst := some 5, op := AOp.mv (Opd.t 8), grd := none }]
def c14_2 : ACode := .seq c14_3 c14_4
def c14_1 : ACode := .reg [{ dst := some 4, op := AOp.mv (Opd.c (AV.int (IntKind.i64) 0)), grd := none }]
def c14_0 : ACode := .seq c14_1 c14_2
def A14 : AFun := { np := 2, res := [(4, none)], body := c14_0 }

def c15_4 : ACode := .ret
def c15_3 : ACode := .reg [{ dst := some 3, op := AOp.mv (Opd.t 0), grd := none }, { dst := some 4, op := AOp.nilck (Opd.t 3), grd := none }, { dst := some 5, op := AOp.fadr 0 (Opd.t 4), grd := none }, { dst := some 6, op := AOp.load false 1 (Opd.t 5), grd := none }, { dst := some 7, op := AOp.len 2 (Opd.t 6), grd := none }, { dst := some 2, op := AOp.mv (Opd.t 7), grd := none }]
def c15_2 : ACode := .seq c15_3 c15_4
def c15_1 : ACode := .reg [{ dst := some 2, op := AOp.mv (Opd.c (AV.int (IntKind.i64) 0)), grd := none }]
def c15_0 : ACode := .seq c15_1 c15_2
def A15 : AFun := { np := 1, res := [(2, none)], body := c15_0 }

def c16_69 : ACode := .ret
def c16_68 : ACode := .reg [{ dst := some 4, op := AOp.mv (Opd.c (AV.int (IntKind.i64) 0)), grd := none }]
def c16_67 : ACode := .seq c16_68 c16_69
def c16_66 : ACode := .reg [{ dst := some 62, op := AOp.mv (Opd.t 1), grd := none }, { dst := some 63, op := AOp.mkmap, grd := none }, { dst := some 64, op := AOp.nilck (Opd.t 62), grd := none }, { dst := some 65, op := AOp.fadr 0 (Opd.t 64), grd := none }, { dst := none, op := AOp.store 1 (Opd.t 65) (Opd.t 63), grd := none }]
def c16_65 : ACode := .seq c16_66 c16_67
def c16_64 : ACode := .reg [{ dst := some 61, op := AOp.bin (BinOp.add) (Opd.t 44) (Opd.c (AV.int (IntKind.i64) 1)), grd := none }, { dst := some 44, op := AOp.mv (Opd.t 61), grd := none }]
def c16_63 : ACode := .reg [{ dst := some 60, op := AOp.bin (BinOp.add) (Opd.t 52) (Opd.c (AV.int (IntKind.i64) 1)), grd := none }, { dst := some 52, op := AOp.mv (Opd.t 60), grd := none }]
def c16_62 : ACode := .reg [{ dst := some 56, op := AOp.mv (Opd.t 0), grd := none }, { dst := some 57, op := AOp.mv (Opd.t 11), grd := none }, { dst := some 58, op := AOp.mv (Opd.t 9), grd := none }, { dst := some 59, op := AOp.call (Opd.c (AV.fn (AFn.func 26) [] [])) [Opd.t 56, Opd.t 57, Opd.t 58], grd := none }]
def c16_61 : ACode := .reg [{ dst := some 54, op := AOp.iadr 1 (Opd.t 50) (Opd.t 52), grd := none }, { dst := some 55, op := AOp.load false 1 (Opd.t 54), grd := none }, { dst := some 11, op := AOp.mv (Opd.t 55), grd := none }]
def c16_60 : ACode := .seq c16_61 c16_62
def c16_59 : ACode := .block 5 c16_60
def c16_58 : ACode := .seq c16_59 c16_63
def c16_57 : ACode := .exit 4
def c16_56 : ACode := .skip
def c16_55 : ACode := .cond (.t 53) c16_56 c16_57
def c16_54 : ACode := .seq c16_55 c16_58
def c16_53 : ACode := .reg [{ dst := some 53, op := AOp.bin (BinOp.lss) (Opd.t 52) (Opd.t 51), grd := none }]
def c16_52 : ACode := .seq c16_53 c16_54
def c16_51 : ACode := .loop c16_52
def c16_50 : ACode := .block 4 c16_51
def c16_49 : ACode := .reg [{ dst := some 48, op := AOp.mv (Opd.t 9), grd := none }, { dst := some 49, op := AOp.iadra 4 1 (Opd.t 7) (Opd.t 48), grd := none }, { dst := some 50, op := AOp.load false 1 (Opd.t 49), grd := none }, { dst := some 51, op := AOp.len 1 (Opd.t 50), grd := none }, { dst := some 52, op := AOp.mv (Opd.c (AV.int (IntKind.i64) 0)), grd := none }]
def c16_48 : ACode := .seq c16_49 c16_50
def c16_47 : ACode := .reg [{ dst := some 46, op := AOp.iadr 1 (Opd.t 42) (Opd.t 44), grd := none }, { dst := some 47, op := AOp.load false 1 (Opd.t 46), grd := none }, { dst := some 9, op := AOp.mv (Opd.t 47), grd := none }]
def c16_46 : ACode := .seq c16_47 c16_48
def c16_45 : ACode := .block 3 c16_46
def c16_44 : ACode := .seq c16_45 c16_64
def c16_43 : ACode := .exit 2
def c16_42 : ACode := .skip
def c16_41 : ACode := .cond (.t 45) c16_42 c16_43
def c16_40 : ACode := .seq c16_41 c16_44
def c16_39 : ACode := .reg [{ dst := some 45, op := AOp.bin (BinOp.lss) (Opd.t 44) (Opd.t 43), grd := none }]
def c16_38 : ACode := .seq c16_39 c16_40
def c16_37 : ACode := .loop c16_38
def c16_36 : ACode := .block 2 c16_37
def c16_35 : ACode := .reg [{ dst := some 42, op := AOp.bslice 3 1 [AV.int (IntKind.i64) 0] [(0, Opd.c (AV.int (IntKind.i64) 1)), (1, Opd.c (AV.int (IntKind.i64) 2)), (2, Opd.c (AV.int (IntKind.i64) 3))], grd := none }, { dst := some 43, op := AOp.len 1 (Opd.t 42), grd := none }, { dst := some 44, op := AOp.mv (Opd.c (AV.int (IntKind.i64) 0)), grd := none }]
def c16_34 : ACode := .seq c16_35 c16_36
def c16_33 : ACode := .seq c16_34 c16_65
def c16_32 : ACode := .reg [{ dst := some 40, op := AOp.mv (Opd.t 1), grd := none }, { dst := some 41, op := AOp.call (Opd.c (AV.fn (AFn.func 23) [] [])) [Opd.t 40], grd := none }, { dst := some 7, op := AOp.alloc [AV.nilSlc, AV.nilSlc, AV.nilSlc, AV.nilSlc], grd := none }, { dst := none, op := AOp.store 4 (Opd.t 7) (Opd.t 41), grd := none }]
def c16_31 : ACode := .seq c16_32 c16_33
def c16_30 : ACode := .skip
def c16_29 : ACode := .ret
def c16_28 : ACode := .reg [{ dst := some 4, op := AOp.mv (Opd.c (AV.int (IntKind.i64) 33)), grd := none }]
def c16_27 : ACode := .seq c16_28 c16_29
def c16_26 : ACode := .cond (.t 39) c16_27 c16_30
def c16_25 : ACode := .dreg [{ dst := some 29, op := AOp.mv (Opd.t 0), grd := none }, { dst := some 30, op := AOp.nilck (Opd.t 29), grd := none }, { dst := some 31, op := AOp.fadr 0 (Opd.t 30), grd := none }, { dst := some 32, op := AOp.load false 1 (Opd.t 31), grd := none }, { dst := some 33, op := AOp.mv (Opd.t 5), grd := none }, { dst := some 34, op := AOp.look (KK.leaf (K0.str)) false (AV.agg [AV.int (IntKind.i64) 0, AV.int (IntKind.i64) 0]) (Opd.t 32) (Opd.t 33), grd := none }, { dst := some 35, op := AOp.fld false 0 1 (Opd.t 34), grd := none }, { dst := some 36, op := AOp.fadr 0 (Opd.t 6), grd := none }, { dst := some 37, op := AOp.load false 1 (Opd.t 36), grd := none }] [({ dst := some 38, op := AOp.call (Opd.c (AV.fn (AFn.func 25) [] [])) [Opd.t 35, Opd.t 37], grd := none }, [], [{ dst := some 39, op := AOp.bin (BinOp.lss) (Opd.t 38) (Opd.c (AV.int (IntKind.i64) 0)), grd := none }])]
def c16_24 : ACode := .seq c16_25 c16_26
def c16_23 : ACode := .reg [{ dst := some 26, op := AOp.ent (Opd.t 23), grd := none }, { dst := some 27, op := AOp.ext (Opd.t 26) 0, grd := none }, { dst := some 28, op := AOp.ext (Opd.t 26) 1, grd := none }, { dst := some 6, op := AOp.alloc [AV.int (IntKind.i64) 0, AV.int (IntKind.i64) 0], grd := none }, { dst := some 5, op := AOp.mv (Opd.t 27), grd := none }, { dst := none, op := AOp.store 2 (Opd.t 6) (Opd.t 28), grd := none }]
def c16_22 : ACode := .seq c16_23 c16_24
def c16_21 : ACode := .block 1 c16_22
def c16_20 : ACode := .exit 0
def c16_19 : ACode := .skip
def c16_18 : ACode := .cond (.t 25) c16_19 c16_20
def c16_17 : ACode := .seq c16_18 c16_21
def c16_16 : ACode := .reg [{ dst := some 24, op := AOp.nxt (Opd.t 23), grd := none }, { dst := some 25, op := AOp.ext (Opd.t 24) 0, grd := none }]
def c16_15 : ACode := .seq c16_16 c16_17
def c16_14 : ACode := .loop c16_15
def c16_13 : ACode := .block 0 c16_14
def c16_12 : ACode := .reg [{ dst := some 19, op := AOp.mv (Opd.t 1), grd := none }, { dst := some 20, op := AOp.nilck (Opd.t 19), grd := none }, { dst := some 21, op := AOp.fadr 0 (Opd.t 20), grd := none }, { dst := some 22, op := AOp.load false 1 (Opd.t 21), grd := none }, { dst := some 23, op := AOp.rng (Opd.t 22), grd := none }]
def c16_11 : ACode := .seq c16_12 c16_13
def c16_10 : ACode := .seq c16_11 c16_31
def c16_9 : ACode := .skip
def c16_8 : ACode := .ret
def c16_7 : ACode := .reg [{ dst := some 4, op := AOp.mv (Opd.c (AV.int (IntKind.i64) 1)), grd := none }]
def c16_6 : ACode := .seq c16_7 c16_8
def c16_5 : ACode := .cond (.t 18) c16_6 c16_9
def c16_4 : ACode := .reg [{ dst := some 12, op := AOp.mv (Opd.t 1), grd := none }, { dst := some 13, op := AOp.eq false (EqK.ptr) (Opd.t 12) (Opd.c (AV.nilPtr)), grd := none }, { dst := some 14, op := AOp.mv (Opd.t 13), grd := none }, { dst := some 15, op := AOp.mv (Opd.t 1), grd := some (14, false) }, { dst := some 16, op := AOp.mv (Opd.t 0), grd := some (14, false) }, { dst := some 17, op := AOp.eq false (EqK.ptr) (Opd.t 15) (Opd.t 16), grd := some (14, false) }, { dst := some 18, op := AOp.pick (Opd.t 14) (Opd.c (AV.bool true)) (Opd.t 17), grd := none }]
def c16_3 : ACode := .seq c16_4 c16_5
def c16_2 : ACode := .seq c16_3 c16_10
def c16_1 : ACode := .reg [{ dst := some 4, op := AOp.mv (Opd.c (AV.int (IntKind.i64) 0)), grd := none }]
def c16_0 : ACode := .seq c16_1 c16_2
def A16 : AFun := { np := 2, res := [(4, none)], body := c16_0 }

def c17_25 : ACode := .ret
def c17_24 : ACode := .reg [{ dst := some 37, op := AOp.mv (Opd.t 5), grd := none }, { dst := some 4, op := AOp.mv (Opd.t 37), grd := none }]
def c17_23 : ACode := .seq c17_24 c17_25
def c17_22 : ACode := .reg [{ dst := some 14, op := AOp.mv (Opd.t 6), grd := none }, { dst := some 15, op := AOp.bin (BinOp.add) (Opd.t 14) (Opd.c (AV.int (IntKind.i64) 1)), grd := none }, { dst := some 6, op := AOp.mv (Opd.t 15), grd := none }]
def c17_21 : ACode := .skip
def c17_20 : ACode := .reg [{ dst := some 26, op := AOp.mv (Opd.t 5), grd := none }, { dst := some 27, op := AOp.mv (Opd.t 0), grd := none }, { dst := some 28, op := AOp.nilck (Opd.t 27), grd := none }, { dst := some 29, op := AOp.fadr 0 (Opd.t 28), grd := none }, { dst := some 30, op := AOp.load false 1 (Opd.t 29), grd := none }, { dst := some 31, op := AOp.mv (Opd.t 6), grd := none }, { dst := some 32, op := AOp.iadr 2 (Opd.t 30) (Opd.t 31), grd := none }, { dst := some 33, op := AOp.fadr 0 (Opd.t 32), grd := none }, { dst := some 34, op := AOp.load false 1 (Opd.t 33), grd := none }, { dst := some 35, op := AOp.bslice 1 1 [AV.str []] [(0, Opd.t 34)], grd := none }, { dst := some 36, op := AOp.app 1 16 (Opd.t 26) (Opd.t 35), grd := none }, { dst := some 5, op := AOp.mv (Opd.t 36), grd := none }]
def c17_19 : ACode := .cond (.t 25) c17_20 c17_21
def c17_18 : ACode := .reg [{ dst := some 16, op := AOp.mv (Opd.t 0), grd := none }, { dst := some 17, op := AOp.nilck (Opd.t 16), grd := none }, { dst := some 18, op := AOp.fadr 0 (Opd.t 17), grd := none }, { dst := some 19, op := AOp.load false 1 (Opd.t 18), grd := none }, { dst := some 20, op := AOp.mv (Opd.t 6), grd := none }, { dst := some 21, op := AOp.iadr 2 (Opd.t 19) (Opd.t 20), grd := none }, { dst := some 22, op := AOp.fadr 1 (Opd.t 21), grd := none }, { dst := some 23, op := AOp.load false 1 (Opd.t 22), grd := none }, { dst := some 24, op := AOp.mv (Opd.t 1), grd := none }, { dst := some 25, op := AOp.bin (BinOp.eql) (Opd.t 23) (Opd.t 24), grd := none }]
def c17_17 : ACode := .seq c17_18 c17_19
def c17_16 : ACode := .block 1 c17_17
def c17_15 : ACode := .seq c17_16 c17_22
def c17_14 : ACode := .exit 0
def c17_13 : ACode := .skip
def c17_12 : ACode := .cond (.t 13) c17_13 c17_14
def c17_11 : ACode := .reg [{ dst := some 7, op := AOp.mv (Opd.t 6), grd := none }, { dst := some 8, op := AOp.mv (Opd.t 0), grd := none }, { dst := some 9, op := AOp.nilck (Opd.t 8), grd := none }, { dst := some 10, op := AOp.fadr 0 (Opd.t 9), grd := none }, { dst := some 11, op := AOp.load false 1 (Opd.t 10), grd := none }, { dst := some 12, op := AOp.len 1 (Opd.t 11), grd := none }, { dst := some 13, op := AOp.bin (BinOp.lss) (Opd.t 7) (Opd.t 12), grd := none }]
def c17_10 : ACode := .seq c17_11 c17_12
def c17_9 : ACode := .seq c17_10 c17_15
def c17_8 : ACode := .loop c17_9
def c17_7 : ACode := .block 0 c17_8
def c17_6 : ACode := .reg [{ dst := some 6, op := AOp.mv (Opd.c (AV.int (IntKind.i64) 0)), grd := none }]
def c17_5 : ACode := .seq c17_6 c17_7
def c17_4 : ACode := .seq c17_5 c17_23
def c17_3 : ACode := .reg [{ dst := some 5, op := AOp.mv (Opd.c (AV.nilSlc)), grd := none }]
def c17_2 : ACode := .seq c17_3 c17_4
def c17_1 : ACode := .reg [{ dst := some 4, op := AOp.mv (Opd.c (AV.nilSlc)), grd := none }]
def c17_0 : ACode := .seq c17_1 c17_2
def A17 : AFun := { np := 2, res := [(4, none)], body := c17_0 }

def c18_14 : ACode := .ret
def c18_13 : ACode := .reg [{ dst := some 42, op := AOp.mv (Opd.t 8), grd := none }, { dst := some 4, op := AOp.mv (Opd.t 42), grd := none }]
def c18_12 : ACode := .seq c18_13 c18_14
def c18_11 : ACode := .reg [{ dst := some 40, op := AOp.mv (Opd.t 7), grd := none }, { dst := some 41, op := AOp.call (Opd.c (AV.fn (AFn.func 27) [] [])) [Opd.t 40], grd := none }]
def c18_10 : ACode := .seq c18_11 c18_12
def c18_9 : ACode := .reg [{ dst := some 38, op := AOp.mv (Opd.t 6), grd := none }, { dst := some 39, op := AOp.call (Opd.c (AV.fn (AFn.func 27) [] [])) [Opd.t 38], grd := none }]
def c18_8 : ACode := .seq c18_9 c18_10
def c18_7 : ACode := .reg [{ dst := some 36, op := AOp.mv (Opd.t 5), grd := none }, { dst := some 37, op := AOp.call (Opd.c (AV.fn (AFn.func 27) [] [])) [Opd.t 36], grd := none }]
def c18_6 : ACode := .seq c18_7 c18_8
set_option maxRecDepth 100000 in
def c18_5 : ACode := .reg [{ dst := some 15, op := AOp.mv (Opd.t 5), grd := none }, { dst := some 16, op := AOp.mv (Opd.t 1), grd := none }, { dst := some 17, op := AOp.call (Opd.c (AV.fn (AFn.func 17) [] [])) [Opd.t 16, Opd.c (AV.int (IntKind.i64) 1)], grd := none }, { dst := some 18, op := AOp.call (Opd.c (AV.fn (AFn.func 21) [] [])) [Opd.t 15, Opd.t 17], grd := none }, { dst := some 19, op := AOp.mv (Opd.t 18), grd := none }, { dst := some 20, op := AOp.mv (Opd.t 6), grd := some (19, true) }, { dst := some 21, op := AOp.mv (Opd.t 1), grd := some (19, true) }, { dst := some 22, op := AOp.call (Opd.c (AV.fn (AFn.func 17) [] [])) [Opd.t 21, Opd.c (AV.int (IntKind.i64) 2)], grd := some (19, true) }, { dst := some 23, op := AOp.call (Opd.c (AV.fn (AFn.func 21) [] [])) [Opd.t 20, Opd.t 22], grd := some (19, true) }, { dst := some 24, op := AOp.pick (Opd.t 19) (Opd.t 23) (Opd.c (AV.bool false)), grd := none }, { dst := some 25, op := AOp.mv (Opd.t 24), grd := none }, { dst := some 26, op := AOp.mv (Opd.t 7), grd := some (25, true) }, { dst := some 27, op := AOp.mv (Opd.t 1), grd := some (25, true) }, { dst := some 28, op := AOp.call (Opd.c (AV.fn (AFn.func 17) [] [])) [Opd.t 27, Opd.c (AV.int (IntKind.i64) 3)], grd := some (25, true) }, { dst := some 29, op := AOp.call (Opd.c (AV.fn (AFn.func 21) [] [])) [Opd.t 26, Opd.t 28], grd := some (25, true) }, { dst := some 30, op := AOp.pick (Opd.t 25) (Opd.t 29) (Opd.c (AV.bool false)), grd := none }, { dst := some 31, op := AOp.mv (Opd.t 30), grd := none }, { dst := some 32, op := AOp.mv (Opd.t 0), grd := some (31, true) }, { dst := some 33, op := AOp.call (Opd.c (AV.fn (AFn.func 15) [] [])) [Opd.t 32], grd := some (31, true) }, { dst := some 34, op := AOp.bin (BinOp.eql) (Opd.t 33) (Opd.c (AV.int (IntKind.i64) 0)), grd := some (31, true) }, { dst := some 35, op := AOp.pick (Opd.t 31) (Opd.t 34) (Opd.c (AV.bool false)), grd := none }, { dst := some 8, op := AOp.mv (Opd.t 35), grd := none }]
def c18_4 : ACode := .seq c18_5 c18_6
def c18_3 : ACode := .reg [{ dst := some 10, op := AOp.mv (Opd.t 0), grd := none }, { dst := some 11, op := AOp.call (Opd.c (AV.fn (AFn.func 9) [] [])) [Opd.t 10], grd := none }, { dst := some 9, op := AOp.mv (Opd.t 11), grd := none }, { dst := some 12, op := AOp.ext (Opd.t 9) 0, grd := none }, { dst := some 13, op := AOp.ext (Opd.t 9) 1, grd := none }, { dst := some 14, op := AOp.ext (Opd.t 9) 2, grd := none }, { dst := some 5, op := AOp.mv (Opd.t 12), grd := none }, { dst := some 6, op := AOp.mv (Opd.t 13), grd := none }, { dst := some 7, op := AOp.mv (Opd.t 14), grd := none }]
def c18_2 : ACode := .seq c18_3 c18_4
def c18_1 : ACode := .reg [{ dst := some 4, op := AOp.mv (Opd.c (AV.bool false)), grd := none }]
def c18_0 : ACode := .seq c18_1 c18_2
def A18 : AFun := { np := 2, res := [(4, none)], body := c18_0 }

def c19_4 : ACode := .ret
def c19_3 : ACode := .reg [{ dst := some 5, op := AOp.mv (Opd.t 0), grd := none }, { dst := some 6, op := AOp.mv (Opd.t 1), grd := none }, { dst := some 7, op := AOp.call (Opd.c (AV.fn (AFn.func 26) [] [])) [Opd.t 5, Opd.t 6, Opd.c (AV.int (IntKind.i64) 1)], grd := none }, { dst := some 4, op := AOp.mv (Opd.t 7), grd := none }]
def c19_2 : ACode := .seq c19_3 c19_4
def c19_1 : ACode := .reg [{ dst := some 4, op := AOp.mv (Opd.c (AV.int (IntKind.i64) 0)), grd := none }]
def c19_0 : ACode := .seq c19_1 c19_2
def A19 : AFun := { np := 2, res := [(4, none)], body := c19_0 }

def c20_4 : ACode := .ret
def c20_3 : ACode := .reg [{ dst := some 5, op := AOp.mv (Opd.t 0), grd := none }, { dst := some 6, op := AOp.mv (Opd.t 1), grd := none }, { dst := some 7, op := AOp.call (Opd.c (AV.fn (AFn.func 26) [] [])) [Opd.t 5, Opd.t 6, Opd.c (AV.int (IntKind.i64) 3)], grd := none }, { dst := some 4, op := AOp.mv (Opd.t 7), grd := none }]
def c20_2 : ACode := .seq c20_3 c20_4
def c20_1 : ACode := .reg [{ dst := some 4, op := AOp.mv (Opd.c (AV.int (IntKind.i64) 0)), grd := none }]
def c20_0 : ACode := .seq c20_1 c20_2
def A20 : AFun := { np := 2, res := [(4, none)], body := c20_0 }

def c21_33 : ACode := .ret
def c21_32 : ACode := .reg [{ dst := some 4, op := AOp.mv (Opd.c (AV.bool true)), grd := none }]
def c21_31 : ACode := .seq c21_32 c21_33
def c21_30 : ACode := .reg [{ dst := some 15, op := AOp.mv (Opd.t 5), grd := none }, { dst := some 16, op := AOp.bin (BinOp.add) (Opd.t 15) (Opd.c (AV.int (IntKind.i64) 1)), grd := none }, { dst := some 5, op := AOp.mv (Opd.t 16), grd := none }]
def c21_29 : ACode := .skip
def c21_28 : ACode := .ret
def c21_27 : ACode := .reg [{ dst := some 4, op := AOp.mv (Opd.c (AV.bool false)), grd := none }]
def c21_26 : ACode := .seq c21_27 c21_28
def c21_25 : ACode := .cond (.t 25) c21_26 c21_29
def c21_24 : ACode := .dreg [{ dst := some 17, op := AOp.mv (Opd.t 0), grd := none }, { dst := some 18, op := AOp.mv (Opd.t 5), grd := none }, { dst := some 19, op := AOp.iadr 1 (Opd.t 17) (Opd.t 18), grd := none }, { dst := some 20, op := AOp.load false 1 (Opd.t 19), grd := none }, { dst := some 21, op := AOp.mv (Opd.t 1), grd := none }, { dst := some 22, op := AOp.mv (Opd.t 5), grd := none }, { dst := some 23, op := AOp.iadr 1 (Opd.t 21) (Opd.t 22), grd := none }, { dst := some 24, op := AOp.load false 1 (Opd.t 23), grd := none }, { dst := some 25, op := AOp.bin (BinOp.neq) (Opd.t 20) (Opd.t 24), grd := none }] []
def c21_23 : ACode := .seq c21_24 c21_25
def c21_22 : ACode := .block 1 c21_23
def c21_21 : ACode := .seq c21_22 c21_30
def c21_20 : ACode := .exit 0
def c21_19 : ACode := .skip
def c21_18 : ACode := .cond (.t 14) c21_19 c21_20
def c21_17 : ACode := .reg [{ dst := some 11, op := AOp.mv (Opd.t 5), grd := none }, { dst := some 12, op := AOp.mv (Opd.t 0), grd := none }, { dst := some 13, op := AOp.len 1 (Opd.t 12), grd := none }, { dst := some 14, op := AOp.bin (BinOp.lss) (Opd.t 11) (Opd.t 13), grd := none }]
def c21_16 : ACode := .seq c21_17 c21_18
def c21_15 : ACode := .seq c21_16 c21_21
def c21_14 : ACode := .loop c21_15
def c21_13 : ACode := .block 0 c21_14
def c21_12 : ACode := .reg [{ dst := some 5, op := AOp.mv (Opd.c (AV.int (IntKind.i64) 0)), grd := none }]
def c21_11 : ACode := .seq c21_12 c21_13
def c21_10 : ACode := .seq c21_11 c21_31
def c21_9 : ACode := .skip
def c21_8 : ACode := .ret
def c21_7 : ACode := .reg [{ dst := some 4, op := AOp.mv (Opd.c (AV.bool false)), grd := none }]
def c21_6 : ACode := .seq c21_7 c21_8
def c21_5 : ACode := .cond (.t 10) c21_6 c21_9
def c21_4 : ACode := .reg [{ dst := some 6, op := AOp.mv (Opd.t 0), grd := none }, { dst := some 7, op := AOp.len 1 (Opd.t 6), grd := none }, { dst := some 8, op := AOp.mv (Opd.t 1), grd := none }, { dst := some 9, op := AOp.len 1 (Opd.t 8), grd := none }, { dst := some 10, op := AOp.bin (BinOp.neq) (Opd.t 7) (Opd.t 9), grd := none }]
def c21_3 : ACode := .seq c21_4 c21_5
def c21_2 : ACode := .seq c21_3 c21_10
def c21_1 : ACode := .reg [{ dst := some 4, op := AOp.mv (Opd.c (AV.bool false)), grd := none }]
def c21_0 : ACode := .seq c21_1 c21_2
def A21 : AFun := { np := 2, res := [(4, none)], body := c21_0 }

def c22_4 : ACode := .ret
def c22_3 : ACode := .reg [{ dst := some 5, op := AOp.mv (Opd.t 0), grd := none }, { dst := some 6, op := AOp.mv (Opd.t 1), grd := none }, { dst := some 7, op := AOp.call (Opd.c (AV.fn (AFn.func 26) [] [])) [Opd.t 5, Opd.t 6, Opd.c (AV.int (IntKind.i64) 2)], grd := none }, { dst := some 4, op := AOp.mv (Opd.t 7), grd := none }]
def c22_2 : ACode := .seq c22_3 c22_4
def c22_1 : ACode := .reg [{ dst := some 4, op := AOp.mv (Opd.c (AV.int (IntKind.i64) 0)), grd := none }]
def c22_0 : ACode := .seq c22_1 c22_2
def A22 : AFun := { np := 2, res := [(4, none)], body := c22_0 }

def c23_38 : ACode := .ret
def c23_37 : ACode := .reg [{ dst := some 36, op := AOp.load true 4 (Opd.t 3), grd := none }, { dst := none, op := AOp.store 4 (Opd.t 2) (Opd.t 36), grd := none }]
def c23_36 : ACode := .seq c23_37 c23_38
def c23_35 : ACode := .reg [{ dst := some 35, op := AOp.bin (BinOp.add) (Opd.t 29) (Opd.c (AV.int (IntKind.i64) 1)), grd := none }, { dst := some 29, op := AOp.mv (Opd.t 35), grd := none }]
def c23_34 : ACode := .reg [{ dst := some 32, op := AOp.mv (Opd.t 7), grd := none }, { dst := some 33, op := AOp.mkfn 29 [] [Opd.t 1], grd := none }, { dst := some 34, op := AOp.call (Opd.c (AV.fn (AFn.func 28) [] [])) [Opd.t 32, Opd.t 33], grd := none }]
def c23_33 : ACode := .reg [{ dst := some 31, op := AOp.idxa false 4 1 (Opd.t 28) (Opd.t 29), grd := none }, { dst := some 7, op := AOp.mv (Opd.t 31), grd := none }]
def c23_32 : ACode := .seq c23_33 c23_34
def c23_31 : ACode := .block 3 c23_32
def c23_30 : ACode := .seq c23_31 c23_35
def c23_29 : ACode := .exit 2
def c23_28 : ACode := .skip
def c23_27 : ACode := .cond (.t 30) c23_28 c23_29
def c23_26 : ACode := .seq c23_27 c23_30
def c23_25 : ACode := .reg [{ dst := some 30, op := AOp.bin (BinOp.lss) (Opd.t 29) (Opd.c (AV.int (IntKind.i64) 4)), grd := none }]
def c23_24 : ACode := .seq c23_25 c23_26
def c23_23 : ACode := .loop c23_24
def c23_22 : ACode := .block 2 c23_23
def c23_21 : ACode := .reg [{ dst := some 28, op := AOp.load true 4 (Opd.t 3), grd := none }, { dst := some 29, op := AOp.mv (Opd.c (AV.int (IntKind.i64) 0)), grd := none }]
def c23_20 : ACode := .seq c23_21 c23_22
def c23_19 : ACode := .seq c23_20 c23_36
def c23_18 : ACode := .dreg [{ dst := some 18, op := AOp.fadr 0 (Opd.t 5), grd := none }, { dst := some 19, op := AOp.load false 1 (Opd.t 18), grd := none }, { dst := some 20, op := AOp.fadr 0 (Opd.t 5), grd := none }, { dst := some 21, op := AOp.load false 1 (Opd.t 20), grd := none }, { dst := some 22, op := AOp.iadra 4 1 (Opd.t 3) (Opd.t 21), grd := none }, { dst := some 23, op := AOp.load false 1 (Opd.t 22), grd := none }, { dst := some 24, op := AOp.mv (Opd.t 4), grd := none }] [({ dst := some 25, op := AOp.bslice 1 1 [AV.str []] [(0, Opd.t 24)], grd := none }, [{ dst := some 19, op := AOp.load false 1 (Opd.t 18), grd := none }, { dst := some 21, op := AOp.load false 1 (Opd.t 20), grd := none }, { dst := some 23, op := AOp.load false 1 (Opd.t 22), grd := none }], []), ({ dst := some 26, op := AOp.app 1 16 (Opd.t 23) (Opd.t 25), grd := none }, [{ dst := some 19, op := AOp.load false 1 (Opd.t 18), grd := none }], [{ dst := some 27, op := AOp.iadra 4 1 (Opd.t 3) (Opd.t 19), grd := none }]), ({ dst := none, op := AOp.store 1 (Opd.t 27) (Opd.t 26), grd := none }, [], [])]
def c23_17 : ACode := .reg [{ dst := some 15, op := AOp.ent (Opd.t 12), grd := none }, { dst := some 16, op := AOp.ext (Opd.t 15) 0, grd := none }, { dst := some 17, op := AOp.ext (Opd.t 15) 1, grd := none }, { dst := some 5, op := AOp.alloc [AV.int (IntKind.i64) 0, AV.int (IntKind.i64) 0], grd := none }, { dst := some 4, op := AOp.mv (Opd.t 16), grd := none }, { dst := none, op := AOp.store 2 (Opd.t 5) (Opd.t 17), grd := none }]
def c23_16 : ACode := .seq c23_17 c23_18
def c23_15 : ACode := .block 1 c23_16
def c23_14 : ACode := .exit 0
def c23_13 : ACode := .skip
def c23_12 : ACode := .cond (.t 14) c23_13 c23_14
def c23_11 : ACode := .seq c23_12 c23_15
def c23_10 : ACode := .reg [{ dst := some 13, op := AOp.nxt (Opd.t 12), grd := none }, { dst := some 14, op := AOp.ext (Opd.t 13) 0, grd := none }]
def c23_9 : ACode := .seq c23_10 c23_11
def c23_8 : ACode := .loop c23_9
def c23_7 : ACode := .block 0 c23_8
def c23_6 : ACode := .reg [{ dst := some 8, op := AOp.load false 1 (Opd.t 1), grd := none }, { dst := some 9, op := AOp.nilck (Opd.t 8), grd := none }, { dst := some 10, op := AOp.fadr 0 (Opd.t 9), grd := none }, { dst := some 11, op := AOp.load false 1 (Opd.t 10), grd := none }, { dst := some 12, op := AOp.rng (Opd.t 11), grd := none }]
def c23_5 : ACode := .seq c23_6 c23_7
def c23_4 : ACode := .seq c23_5 c23_19
def c23_3 : ACode := .reg [{ dst := some 3, op := AOp.alloc [AV.nilSlc, AV.nilSlc, AV.nilSlc, AV.nilSlc], grd := none }]
def c23_2 : ACode := .seq c23_3 c23_4
def c23_1 : ACode := .reg [{ dst := some 1, op := AOp.box 1 (Opd.t 0), grd := none }, { dst := some 2, op := AOp.alloc [AV.nilSlc, AV.nilSlc, AV.nilSlc, AV.nilSlc], grd := none }]
def c23_0 : ACode := .seq c23_1 c23_2
def A23 : AFun := { np := 1, res := [(2, some (true, 4))], body := c23_0 }

def c24_25 : ACode := .ret
def c24_24 : ACode := .reg [{ dst := some 4, op := AOp.mv (Opd.c (AV.int (IntKind.i64) (-1))), grd := none }]
def c24_23 : ACode := .seq c24_24 c24_25
def c24_22 : ACode := .reg [{ dst := some 13, op := AOp.mv (Opd.t 5), grd := none }, { dst := some 14, op := AOp.bin (BinOp.add) (Opd.t 13) (Opd.c (AV.int (IntKind.i64) 1)), grd := none }, { dst := some 5, op := AOp.mv (Opd.t 14), grd := none }]
def c24_21 : ACode := .skip
def c24_20 : ACode := .ret
def c24_19 : ACode := .reg [{ dst := some 25, op := AOp.mv (Opd.t 5), grd := none }, { dst := some 4, op := AOp.mv (Opd.t 25), grd := none }]
def c24_18 : ACode := .seq c24_19 c24_20
def c24_17 : ACode := .cond (.t 24) c24_18 c24_21
def c24_16 : ACode := .reg [{ dst := some 15, op := AOp.mv (Opd.t 0), grd := none }, { dst := some 16, op := AOp.nilck (Opd.t 15), grd := none }, { dst := some 17, op := AOp.fadr 0 (Opd.t 16), grd := none }, { dst := some 18, op := AOp.load false 1 (Opd.t 17), grd := none }, { dst := some 19, op := AOp.mv (Opd.t 5), grd := none }, { dst := some 20, op := AOp.iadr 2 (Opd.t 18) (Opd.t 19), grd := none }, { dst := some 21, op := AOp.fadr 0 (Opd.t 20), grd := none }, { dst := some 22, op := AOp.load false 1 (Opd.t 21), grd := none }, { dst := some 23, op := AOp.mv (Opd.t 1), grd := none }, { dst := some 24, op := AOp.bin (BinOp.eql) (Opd.t 22) (Opd.t 23), grd := none }]
def c24_15 : ACode := .seq c24_16 c24_17
def c24_14 : ACode := .block 1 c24_15
def c24_13 : ACode := .seq c24_14 c24_22
def c24_12 : ACode := .exit 0
def c24_11 : ACode := .skip
def c24_10 : ACode := .cond (.t 12) c24_11 c24_12
def c24_9 : ACode := .reg [{ dst := some 6, op := AOp.mv (Opd.t 5), grd := none }, { dst := some 7, op := AOp.mv (Opd.t 0), grd := none }, { dst := some 8, op := AOp.nilck (Opd.t 7), grd := none }, { dst := some 9, op := AOp.fadr 0 (Opd.t 8), grd := none }, { dst := some 10, op := AOp.load false 1 (Opd.t 9), grd := none }, { dst := some 11, op := AOp.len 1 (Opd.t 10), grd := none }, { dst := some 12, op := AOp.bin (BinOp.lss) (Opd.t 6) (Opd.t 11), grd := none }]
def c24_8 : ACode := .seq c24_9 c24_10
def c24_7 : ACode := .seq c24_8 c24_13
def c24_6 : ACode := .loop c24_7
def c24_5 : ACode := .block 0 c24_6
def c24_4 : ACode := .reg [{ dst := some 5, op := AOp.mv (Opd.c (AV.int (IntKind.i64) 0)), grd := none }]
def c24_3 : ACode := .seq c24_4 c24_5
def c24_2 : ACode := .seq c24_3 c24_23
def c24_1 : ACode := .reg [{ dst := some 4, op := AOp.mv (Opd.c (AV.int (IntKind.i64) 0)), grd := none }]
def c24_0 : ACode := .seq c24_1 c24_2
def A24 : AFun := { np := 2, res := [(4, none)], body := c24_0 }

def c25_4 : ACode := .ret
set_option maxRecDepth 100000 in
def c25_3 : ACode := .reg [{ dst := some 5, op := AOp.build [AV.int (IntKind.i64) 0, AV.int (IntKind.i64) 0, AV.int (IntKind.i64) 0, AV.int (IntKind.i64) 0] [(1, 1, Opd.c (AV.int (IntKind.i64) 1)), (2, 1, Opd.c (AV.int (IntKind.i64) 2)), (3, 1, Opd.c (AV.int (IntKind.i64) 3))], grd := none }, { dst := some 6, op := AOp.build [AV.int (IntKind.i64) 0, AV.int (IntKind.i64) 0, AV.int (IntKind.i64) 0, AV.int (IntKind.i64) 0] [(1, 1, Opd.c (AV.int (IntKind.i64) (-1))), (2, 1, Opd.c (AV.int (IntKind.i64) 1)), (3, 1, Opd.c (AV.int (IntKind.i64) 0))], grd := none }, { dst := some 7, op := AOp.build [AV.int (IntKind.i64) 0, AV.int (IntKind.i64) 0, AV.int (IntKind.i64) 0, AV.int (IntKind.i64) 0] [(1, 1, Opd.c (AV.int (IntKind.i64) (-1))), (2, 1, Opd.c (AV.int (IntKind.i64) 2)), (3, 1, Opd.c (AV.int (IntKind.i64) 3))], grd := none }, { dst := some 8, op := AOp.build [AV.int (IntKind.i64) 0, AV.int (IntKind.i64) 0, AV.int (IntKind.i64) 0, AV.int (IntKind.i64) 0] [(1, 1, Opd.c (AV.int (IntKind.i64) 2)), (2, 1, Opd.c (AV.int (IntKind.i64) (-1))), (3, 1, Opd.c (AV.int (IntKind.i64) (-1)))], grd := none }, { dst := some 9, op := AOp.build [AV.int (IntKind.i64) 0, AV.int (IntKind.i64) 0, AV.int (IntKind.i64) 0, AV.int (IntKind.i64) 0, AV.int (IntKind.i64) 0, AV.int (IntKind.i64) 0, AV.int (IntKind.i64) 0, AV.int (IntKind.i64) 0, AV.int (IntKind.i64) 0, AV.int (IntKind.i64) 0, AV.int (IntKind.i64) 0, AV.int (IntKind.i64) 0, AV.int (IntKind.i64) 0, AV.int (IntKind.i64) 0, AV.int (IntKind.i64) 0, AV.int (IntKind.i64) 0] [(0, 4, Opd.t 5), (4, 4, Opd.t 6), (8, 4, Opd.t 7), (12, 4, Opd.t 8)], grd := none }, { dst := some 10, op := AOp.mv (Opd.t 0), grd := none }, { dst := some 11, op := AOp.idxa true 4 4 (Opd.t 9) (Opd.t 10), grd := none }, { dst := some 12, op := AOp.mv (Opd.t 1), grd := none }, { dst := some 13, op := AOp.idxa false 4 1 (Opd.t 11) (Opd.t 12), grd := none }, { dst := some 4, op := AOp.mv (Opd.t 13), grd := none }]
def c25_2 : ACode := .seq c25_3 c25_4
def c25_1 : ACode := .reg [{ dst := some 4, op := AOp.mv (Opd.c (AV.int (IntKind.i64) 0)), grd := none }]
def c25_0 : ACode := .seq c25_1 c25_2
def A25 : AFun := { np := 2, res := [(4, none)], body := c25_0 }

def c26_35 : ACode := .ret
def c26_34 : ACode := .reg [{ dst := some 6, op := AOp.mv (Opd.c (AV.int (IntKind.i64) 0)), grd := none }]
def c26_33 : ACode := .seq c26_34 c26_35
def c26_32 : ACode := .dreg [{ dst := some 48, op := AOp.mv (Opd.t 0), grd := none }, { dst := some 49, op := AOp.nilck (Opd.t 48), grd := none }, { dst := some 50, op := AOp.fadr 0 (Opd.t 49), grd := none }, { dst := some 51, op := AOp.load false 1 (Opd.t 50), grd := none }, { dst := some 52, op := AOp.mv (Opd.t 1), grd := none }, { dst := some 53, op := AOp.load true 2 (Opd.t 7), grd := none }] [({ dst := none, op := AOp.mupd (KK.leaf (K0.str)) (Opd.t 51) (Opd.t 52) (Opd.t 53), grd := none }, [], [])]
def c26_31 : ACode := .seq c26_32 c26_33
def c26_30 : ACode := .reg [{ dst := some 46, op := AOp.mv (Opd.t 8), grd := none }, { dst := some 47, op := AOp.fadr 0 (Opd.t 7), grd := none }, { dst := none, op := AOp.store 1 (Opd.t 47) (Opd.t 46), grd := none }]
def c26_29 : ACode := .seq c26_30 c26_31
def c26_28 : ACode := .skip
def c26_27 : ACode := .reg [{ dst := some 41, op := AOp.mv (Opd.t 0), grd := none }, { dst := some 42, op := AOp.nilck (Opd.t 41), grd := none }, { dst := some 43, op := AOp.fadr 1 (Opd.t 42), grd := none }, { dst := some 44, op := AOp.load false 1 (Opd.t 43), grd := none }, { dst := some 45, op := AOp.fadr 1 (Opd.t 7), grd := none }, { dst := none, op := AOp.store 1 (Opd.t 45) (Opd.t 44), grd := none }]
def c26_26 : ACode := .reg [{ dst := some 34, op := AOp.mv (Opd.t 0), grd := none }, { dst := some 35, op := AOp.nilck (Opd.t 34), grd := none }, { dst := some 36, op := AOp.fadr 1 (Opd.t 35), grd := none }, { dst := some 37, op := AOp.load false 1 (Opd.t 36), grd := none }, { dst := some 38, op := AOp.bin (BinOp.add) (Opd.t 37) (Opd.c (AV.int (IntKind.i64) 1)), grd := none }, { dst := some 39, op := AOp.nilck (Opd.t 34), grd := none }, { dst := some 40, op := AOp.fadr 1 (Opd.t 39), grd := none }, { dst := none, op := AOp.store 1 (Opd.t 40) (Opd.t 38), grd := none }]
def c26_25 : ACode := .seq c26_26 c26_27
def c26_24 : ACode := .cond (.t 30) c26_25 c26_28
def c26_23 : ACode := .reg [{ dst := some 31, op := AOp.fadr 0 (Opd.t 7), grd := none }, { dst := some 32, op := AOp.load false 1 (Opd.t 31), grd := none }, { dst := some 33, op := AOp.bin (BinOp.eql) (Opd.t 32) (Opd.c (AV.int (IntKind.i64) 0)), grd := none }, { dst := some 30, op := AOp.mv (Opd.t 33), grd := none }]
def c26_22 : ACode := .seq c26_23 c26_24
def c26_21 : ACode := .ret
def c26_20 : ACode := .reg [{ dst := some 6, op := AOp.mv (Opd.c (AV.int (IntKind.i64) 0)), grd := none }]
def c26_19 : ACode := .seq c26_20 c26_21
def c26_18 : ACode := .reg [{ dst := some 25, op := AOp.mv (Opd.t 0), grd := none }, { dst := some 26, op := AOp.nilck (Opd.t 25), grd := none }, { dst := some 27, op := AOp.fadr 0 (Opd.t 26), grd := none }, { dst := some 28, op := AOp.load false 1 (Opd.t 27), grd := none }, { dst := some 29, op := AOp.mv (Opd.t 1), grd := none }, { dst := none, op := AOp.del (KK.leaf (K0.str)) (Opd.t 28) (Opd.t 29), grd := none }]
def c26_17 : ACode := .seq c26_18 c26_19
def c26_16 : ACode := .cond (.t 22) c26_17 c26_22
def c26_15 : ACode := .reg [{ dst := some 23, op := AOp.mv (Opd.t 8), grd := none }, { dst := some 24, op := AOp.bin (BinOp.eql) (Opd.t 23) (Opd.c (AV.int (IntKind.i64) 0)), grd := none }, { dst := some 22, op := AOp.mv (Opd.t 24), grd := none }]
def c26_14 : ACode := .seq c26_15 c26_16
def c26_13 : ACode := .ret
def c26_12 : ACode := .reg [{ dst := some 6, op := AOp.mv (Opd.c (AV.int (IntKind.i64) 33)), grd := none }]
def c26_11 : ACode := .seq c26_12 c26_13
def c26_10 : ACode := .cond (.t 19) c26_11 c26_14
def c26_9 : ACode := .reg [{ dst := some 20, op := AOp.mv (Opd.t 8), grd := none }, { dst := some 21, op := AOp.bin (BinOp.lss) (Opd.t 20) (Opd.c (AV.int (IntKind.i64) 0)), grd := none }, { dst := some 19, op := AOp.mv (Opd.t 21), grd := none }]
def c26_8 : ACode := .seq c26_9 c26_10
def c26_7 : ACode := .block 0 c26_8
def c26_6 : ACode := .seq c26_7 c26_29
def c26_5 : ACode := .reg [{ dst := some 15, op := AOp.fadr 0 (Opd.t 7), grd := none }, { dst := some 16, op := AOp.load false 1 (Opd.t 15), grd := none }, { dst := some 17, op := AOp.mv (Opd.t 2), grd := none }, { dst := some 18, op := AOp.call (Opd.c (AV.fn (AFn.func 25) [] [])) [Opd.t 16, Opd.t 17], grd := none }, { dst := some 8, op := AOp.mv (Opd.t 18), grd := none }]
def c26_4 : ACode := .seq c26_5 c26_6
def c26_3 : ACode := .reg [{ dst := some 9, op := AOp.mv (Opd.t 0), grd := none }, { dst := some 10, op := AOp.nilck (Opd.t 9), grd := none }, { dst := some 11, op := AOp.fadr 0 (Opd.t 10), grd := none }, { dst := some 12, op := AOp.load false 1 (Opd.t 11), grd := none }, { dst := some 13, op := AOp.mv (Opd.t 1), grd := none }, { dst := some 14, op := AOp.look (KK.leaf (K0.str)) false (AV.agg [AV.int (IntKind.i64) 0, AV.int (IntKind.i64) 0]) (Opd.t 12) (Opd.t 13), grd := none }, { dst := some 7, op := AOp.alloc [AV.int (IntKind.i64) 0, AV.int (IntKind.i64) 0], grd := none }, { dst := none, op := AOp.store 2 (Opd.t 7) (Opd.t 14), grd := none }]
def c26_2 : ACode := .seq c26_3 c26_4
def c26_1 : ACode := .reg [{ dst := some 6, op := AOp.mv (Opd.c (AV.int (IntKind.i64) 0)), grd := none }]
def c26_0 : ACode := .seq c26_1 c26_2
def A26 : AFun := { np := 3, res := [(6, none)], body := c26_0 }

def c27_17 : ACode := .reg [{ dst := some 16, op := AOp.mv (Opd.t 3), grd := none }, { dst := some 17, op := AOp.mv (Opd.t 0), grd := none }, { dst := some 18, op := AOp.len 1 (Opd.t 17), grd := none }, { dst := some 19, op := AOp.iadr 1 (Opd.t 16) (Opd.t 18), grd := none }, { dst := none, op := AOp.store 1 (Opd.t 19) (Opd.c (AV.str [111, 118, 101, 114])), grd := none }]
def c27_16 : ACode := .reg [{ dst := some 13, op := AOp.mv (Opd.t 0), grd := none }, { dst := some 14, op := AOp.bslice 1 1 [AV.str []] [(0, Opd.c (AV.str [98, 101, 121, 111, 110, 100]))], grd := none }, { dst := some 15, op := AOp.app 1 16 (Opd.t 13) (Opd.t 14), grd := none }, { dst := some 3, op := AOp.mv (Opd.t 15), grd := none }]
def c27_15 : ACode := .seq c27_16 c27_17
def c27_14 : ACode := .reg [{ dst := some 8, op := AOp.mv (Opd.t 2), grd := none }, { dst := some 9, op := AOp.bin (BinOp.add) (Opd.t 8) (Opd.c (AV.int (IntKind.i64) 1)), grd := none }, { dst := some 2, op := AOp.mv (Opd.t 9), grd := none }]
def c27_13 : ACode := .reg [{ dst := some 10, op := AOp.mv (Opd.t 0), grd := none }, { dst := some 11, op := AOp.mv (Opd.t 2), grd := none }, { dst := some 12, op := AOp.iadr 1 (Opd.t 10) (Opd.t 11), grd := none }, { dst := none, op := AOp.store 1 (Opd.t 12) (Opd.c (AV.str [111, 118, 101, 114])), grd := none }]
def c27_12 : ACode := .block 1 c27_13
def c27_11 : ACode := .seq c27_12 c27_14
def c27_10 : ACode := .exit 0
def c27_9 : ACode := .skip
def c27_8 : ACode := .cond (.t 7) c27_9 c27_10
def c27_7 : ACode := .reg [{ dst := some 4, op := AOp.mv (Opd.t 2), grd := none }, { dst := some 5, op := AOp.mv (Opd.t 0), grd := none }, { dst := some 6, op := AOp.len 1 (Opd.t 5), grd := none }, { dst := some 7, op := AOp.bin (BinOp.lss) (Opd.t 4) (Opd.t 6), grd := none }]
def c27_6 : ACode := .seq c27_7 c27_8
def c27_5 : ACode := .seq c27_6 c27_11
def c27_4 : ACode := .loop c27_5
def c27_3 : ACode := .block 0 c27_4
def c27_2 : ACode := .reg [{ dst := some 2, op := AOp.mv (Opd.c (AV.int (IntKind.i64) 0)), grd := none }]
def c27_1 : ACode := .seq c27_2 c27_3
def c27_0 : ACode := .seq c27_1 c27_15
def A27 : AFun := { np := 1, res := [], body := c27_0 }

def c29_4 : ACode := .ret
def c29_3 : ACode := .dreg [{ dst := some 6, op := AOp.load false 1 (Opd.t 2), grd := none }, { dst := some 7, op := AOp.nilck (Opd.t 6), grd := none }, { dst := some 8, op := AOp.fadr 0 (Opd.t 7), grd := none }, { dst := some 9, op := AOp.load false 1 (Opd.t 8), grd := none }, { dst := some 10, op := AOp.mv (Opd.t 0), grd := none }, { dst := some 11, op := AOp.look (KK.leaf (K0.str)) false (AV.agg [AV.int (IntKind.i64) 0, AV.int (IntKind.i64) 0]) (Opd.t 9) (Opd.t 10), grd := none }, { dst := some 12, op := AOp.fld false 1 1 (Opd.t 11), grd := none }, { dst := some 13, op := AOp.load false 1 (Opd.t 2), grd := none }, { dst := some 14, op := AOp.nilck (Opd.t 13), grd := none }, { dst := some 15, op := AOp.fadr 0 (Opd.t 14), grd := none }, { dst := some 16, op := AOp.load false 1 (Opd.t 15), grd := none }, { dst := some 17, op := AOp.mv (Opd.t 1), grd := none }, { dst := some 18, op := AOp.look (KK.leaf (K0.str)) false (AV.agg [AV.int (IntKind.i64) 0, AV.int (IntKind.i64) 0]) (Opd.t 16) (Opd.t 17), grd := none }, { dst := some 19, op := AOp.fld false 1 1 (Opd.t 18), grd := none }, { dst := some 20, op := AOp.bin (BinOp.sub) (Opd.t 12) (Opd.t 19), grd := none }, { dst := some 5, op := AOp.mv (Opd.t 20), grd := none }] []
def c29_2 : ACode := .seq c29_3 c29_4
def c29_1 : ACode := .reg [{ dst := some 5, op := AOp.mv (Opd.c (AV.int (IntKind.i64) 0)), grd := none }]
def c29_0 : ACode := .seq c29_1 c29_2
def A29 : AFun := { np := 3, res := [(5, none)], body := c29_0 }

end Go.Proofs.Ytflpfelalockgaa
