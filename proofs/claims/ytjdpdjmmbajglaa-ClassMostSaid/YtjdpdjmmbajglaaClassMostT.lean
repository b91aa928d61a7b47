/-
  The table of the functions of Lean that stand for the program's (printed by wip/tools/gentree.py).
-/
import Derived.Test.YtjdpdjmmbajglaaClassMostS0
namespace Go.Proofs.Ytjdpdjmmbajglaa.classMost
open Go.Ab

def tab : Tab := (brT 30 (brT 18 (brT 14 (brT 9 (lfT 6 w6) (brT 11 (lfT 9 w9) (lfT 11 w11))) (brT 16 (lfT 14 w14) (brT 17 (lfT 16 w16) (lfT 17 w17)))) (brT 21 (brT 19 (lfT 18 w18) (brT 20 (lfT 19 w19) (lfT 20 w20))) (brT 23 (brT 22 (lfT 21 w21) (lfT 22 w22)) (brT 29 (lfT 23 w23) (lfT 29 w29))))) (brT 45 (brT 38 (brT 31 (lfT 30 w30) (brT 36 (lfT 31 w31) (lfT 36 w36))) (brT 43 (brT 39 (lfT 38 w38) (lfT 39 w39)) (brT 44 (lfT 43 w43) (lfT 44 w44)))) (brT 50 (brT 48 (lfT 45 w45) (brT 49 (lfT 48 w48) (lfT 49 w49))) (brT 54 (brT 51 (lfT 50 w50) (lfT 51 w51)) (brT 55 (lfT 54 w54) (lfT 55 w55))))))

theorem tab_ok {E : Env} (e6 : E.code 6 = some A6) (e9 : E.code 9 = some A9) (e11 : E.code 11 = some A11) (e14 : E.code 14 = some A14) (e16 : E.code 16 = some A16) (e17 : E.code 17 = some A17) (e18 : E.code 18 = some A18) (e19 : E.code 19 = some A19) (e20 : E.code 20 = some A20) (e21 : E.code 21 = some A21) (e22 : E.code 22 = some A22) (e23 : E.code 23 = some A23) (e29 : E.code 29 = some A29) (e30 : E.code 30 = some A30) (e31 : E.code 31 = some A31) (e36 : E.code 36 = some A36) (e38 : E.code 38 = some A38) (e39 : E.code 39 = some A39) (e43 : E.code 43 = some A43) (e44 : E.code 44 = some A44) (e45 : E.code 45 = some A45) (e48 : E.code 48 = some A48) (e49 : E.code 49 = some A49) (e50 : E.code 50 = some A50) (e51 : E.code 51 = some A51) (e54 : E.code 54 = some A54) (e55 : E.code 55 = some A55) : TabOK tab E :=
  (brT_ok (brT_ok (brT_ok (brT_ok (lfT_ok (w6_ok e6)) (brT_ok (lfT_ok (w9_ok e9)) (lfT_ok (w11_ok e11)))) (brT_ok (lfT_ok (w14_ok e14)) (brT_ok (lfT_ok (w16_ok e16)) (lfT_ok (w17_ok e17))))) (brT_ok (brT_ok (lfT_ok (w18_ok e18)) (brT_ok (lfT_ok (w19_ok e19)) (lfT_ok (w20_ok e20)))) (brT_ok (brT_ok (lfT_ok (w21_ok e21)) (lfT_ok (w22_ok e22))) (brT_ok (lfT_ok (w23_ok e23)) (lfT_ok (w29_ok e29)))))) (brT_ok (brT_ok (brT_ok (lfT_ok (w30_ok e30)) (brT_ok (lfT_ok (w31_ok e31)) (lfT_ok (w36_ok e36)))) (brT_ok (brT_ok (lfT_ok (w38_ok e38)) (lfT_ok (w39_ok e39))) (brT_ok (lfT_ok (w43_ok e43)) (lfT_ok (w44_ok e44))))) (brT_ok (brT_ok (lfT_ok (w45_ok e45)) (brT_ok (lfT_ok (w48_ok e48)) (lfT_ok (w49_ok e49)))) (brT_ok (brT_ok (lfT_ok (w50_ok e50)) (lfT_ok (w51_ok e51))) (brT_ok (lfT_ok (w54_ok e54)) (lfT_ok (w55_ok e55)))))))

end Go.Proofs.Ytjdpdjmmbajglaa.classMost
