/-
  The code of the functions, as the abstract machine's (printed by wip/tools/gen.py).
-/
import Derived.Test.YtajjclkdggoobaaXC0
namespace Go.Proofs.Ytajjclkdggoobaa
open Go.Ab
set_option linter.unusedVariables false

def c46_4 : ACode := .ret
def c46_3 : ACode := .reg [{ dst := some 5, op := AOp.mv (Opd.t 0), grd := none }, { dst := some 6, op := AOp.len 0 (Opd.t 5), grd := none }, { dst := some 7, op := AOp.mv (Opd.t 1), grd := none }, { dst := some 8, op := AOp.len 0 (Opd.t 7), grd := none }, { dst := some 9, op := AOp.bin (BinOp.geq) (Opd.t 6) (Opd.t 8), grd := none }, { dst := some 10, op := AOp.mv (Opd.t 9), grd := none }, { dst := some 11, op := AOp.mv (Opd.t 0), grd := some (10, true) }, { dst := some 12, op := AOp.mv (Opd.t 1), grd := some (10, true) }, { dst := some 13, op := AOp.len 0 (Opd.t 12), grd := some (10, true) }, { dst := some 14, op := AOp.sls (Opd.t 11) none (some (Opd.t 13)), grd := some (10, true) }, { dst := some 15, op := AOp.mv (Opd.t 1), grd := some (10, true) }, { dst := some 16, op := AOp.bin (BinOp.eql) (Opd.t 14) (Opd.t 15), grd := some (10, true) }, { dst := some 17, op := AOp.pick (Opd.t 10) (Opd.t 16) (Opd.c (AV.bool false)), grd := none }, { dst := some 4, op := AOp.mv (Opd.t 17), grd := none }]
def c46_2 : ACode := .seq c46_3 c46_4
def c46_1 : ACode := .reg [{ dst := some 4, op := AOp.mv (Opd.c (AV.bool false)), grd := none }]
def c46_0 : ACode := .seq c46_1 c46_2
def A46 : AFun := { np := 2, res := [(4, none)], body := c46_0 }

end Go.Proofs.Ytajjclkdggoobaa
