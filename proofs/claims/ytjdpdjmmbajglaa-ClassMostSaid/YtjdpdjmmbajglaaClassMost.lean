/-
  ClassMost says true, for every order in which the maps are ranged over and the operands evaluated; it takes no input, and leaves the world as it was. No condition.
-/
import Derived.Test.YtjdpdjmmbajglaaClassMostRun
import Derived.Test.YtjdpdjmmbajglaaClassMostTab
import Derived.Test.YtjdpdjmmbajglaaRows
import Derived.ProofKit
import Derived.OpenShut
namespace Go.Proofs.Ytjdpdjmmbajglaa.classMost
open Go.ChangeShapes Go.WideShapes Go.ChangeAt Go.RowKit

theorem own : ownKnob Try.prog.godebug = none := by kernel_rfl
theorem code : (Go.Ab.envT tbl).code 6 = some A6 := rfl

theorem run : Go.Ab.callN (Go.Ab.envT tbl) 200 (.func 6) [] Go.Ab.AHeap.empty (fun v _ => Go.Ab.isTrue v) = true :=
  Go.Ab.callS_le (fun _ => rfl) (tab_ok rfl rfl rfl rfl rfl rfl rfl rfl rfl rfl rfl rfl rfl rfl rfl rfl rfl rfl rfl rfl rfl rfl rfl rfl rfl rfl rfl) 200 _ _ _ _ _ runS (fun _ _ h => h)

theorem contract (W : World) : Calls Try.prog 6 #[] W fun e W' => e = .returned (.bool true) ∧ Grown W W' :=
  Go.Ab.calls_true Try.checked.mixed (Go.Ab.envT_ok tbl_ok) code run W

set_option maxRecDepth 100000 in
theorem lifted (os : Os) (started : os.Started) (H : Type) (enc : TypeId × Value → H) :
    ReturnsInHanded {} Try.checked os 6 .any (Rows.classMostSpec.pre6 enc Try.prog Try.f6 Rows.classMostRow.domain false) (Rows.classMostSpec.post enc Try.prog Try.f6 false true false false) := by
  refine returnsInHanded_of_change (C := Try.checked) own started (by kernel_rfl) Try.func6
    (ChangeSpec.witness6 (enc := enc) (C := Try.checked) false ⟨#[], #[], []⟩ 8 (by kernel_rfl) (by kernel_rfl) (by kernel_rfl) (by kernel_rfl)) ?_
  intro W base args ds gs before hval0 hW hcnd _
  have hW' := hW
  obtain ⟨p, q, hA0, hV, rfl, hfz, hnd⟩ := hW
  have hA : DataW.TrodAll enc Try.prog W 0 (fun _ => true) true Try.f6.params.toList args.toList ds p := hA0
  rw [Try.params6] at hA
  obtain ⟨hargs, rfl, rfl⟩ := trodAll_nil hA
  obtain rfl : args = #[] := by cases args; simp_all
  obtain ⟨rfl, rfl⟩ := trodVars_none hV
  clear hA0 hval0
  simp only [List.append_nil] at hW'
  refine (contract W).mono fun e W' ⟨he, hg⟩ => ?_
  subst he
  exact ⟨_, rfl, post_of_same (pa := []) (pv := []) hW' (fun _ _ _ => trodAll_cons_mk (shut_bool Try.underlying4 _) trodAll_mk0) (fun _ _ => trodAll_mk0) (fun _ _ => rfl) rfl
    (hg.frame _) hg.2.1 (ok_one (by kernel_rfl) rfl (okWide_bool_mk Try.underlying4 _))⟩

theorem said : Rows.ClassMostSaid :=
  OpenClaim.holds_of_wide 6 Try.f6 rfl rfl rfl rfl rfl rfl rfl ⟨rfl, rfl, rfl, rfl, rfl⟩ rfl rfl rfl rfl rfl (by kernel_rfl) Try.func6 (by kernel_rfl)
    (of_decide_eq_true (by kernel_rfl)) (by unfold Func.isWrapper; first | (rw [if_pos (by decide +kernel)]; kernel_rfl) | (rw [if_neg (by decide +kernel)]; exact ⟨rfl, rfl⟩))
    (fun os started H enc _ => lifted os started H enc)

end Go.Proofs.Ytjdpdjmmbajglaa.classMost
