/-
  StagedApplies says true of all changes of a set, for every order in which the maps are ranged over and the operands evaluated; what is handed in reads as it did.
-/
import Derived.Test.YtflpfelalockgaaSB
import Derived.Test.YtflpfelalockgaaSI
import Derived.Test.YtflpfelalockgaaStTab
import Derived.Test.YtflpfelalockgaaRows
import Derived.ProofKit
import Derived.OpenShut
namespace Go.Proofs.Ytflpfelalockgaa.stagedApplies
open Go.ChangeShapes Go.WideShapes Go.ChangeAt Go.RowKit

theorem own : ownKnob Try.prog.godebug = none := by kernel_rfl

set_option maxRecDepth 100000 in
theorem lifted (os : Os) (started : os.Started) (H : Type) (enc : TypeId × Value → H) :
    ReturnsInHanded {} Try.checked os 3 .any (Rows.stagedAppliesSpec.pre6 enc Try.prog Try.f3 Rows.stagedAppliesRow.domain false) (Rows.stagedAppliesSpec.post enc Try.prog Try.f3 false true false false) := by
  refine returnsInHanded_of_change (C := Try.checked) own started (by kernel_rfl) Try.func3
    (ChangeSpec.witness6 (enc := enc) (C := Try.checked) false ⟨#[], #[.agg #[.slice none 0 0, .slice none 0 0]], []⟩ 8 (by kernel_rfl) (by kernel_rfl) (by kernel_rfl) (by kernel_rfl)) ?_
  intro W base args ds gs before hval0 hW hcnd _
  have hval : ∀ (j : Nat) t v, Try.f3.params[j]? = some t → args[j]? = some v → Value.okWide Try.prog W .any base t v := hval0
  have hW' := hW
  obtain ⟨p, q, hA0, hV, rfl, hfz, hnd⟩ := hW
  have hA : DataW.TrodAll enc Try.prog W 0 (fun _ => true) true Try.f3.params.toList args.toList ds p := hA0
  rw [Try.params3] at hA hval
  obtain ⟨v0, d0, rfl, rfl, h0⟩ := trodAll_one hA
  obtain ⟨rfl, rfl⟩ := trodVars_none hV
  clear hA0 hA hval0
  simp only [List.append_nil] at hW'
  obtain ⟨cs, rfl, hcs⟩ := okWide_struct Try.underlying24 (hval 0 24 v0 rfl rfl)
  have env3 : E.code 3 = some A3 := rfl
  refine (Ab.calls_law Try.checked.mixed env_ok env3 (fuel := 3000 + 6) (inScr (enc := enc) (W := W)) h0 (fun avs => .agg avs) Ab.hv_agg ?_).mono fun e W' ⟨he, hg, hr⟩ => ?_
  · rintro h avs l ho ⟨va, vb, rfl, ha, hb⟩ _
    exact c3 ho ha hb (by decide) (fun _ => rfl)
  · subst he
    exact ⟨_, rfl, Ab.post_same (pa := p) (pv := []) hW' (fun _ _ _ => trodAll_cons_mk (shut_bool Try.underlying4 _) trodAll_mk0) (fun sp' hp => trodAll_mk1 (hr sp' hp)) (fun _ _ => rfl) (by simp)
      (hg.frame _) hg.2.1 (ok_one (by kernel_rfl) rfl (okWide_bool_mk Try.underlying4 _))⟩

theorem said : Rows.StagedAppliesSaid :=
  OpenClaim.holds_of_wide 3 Try.f3 rfl rfl rfl rfl rfl rfl rfl ⟨rfl, rfl, rfl, rfl, rfl⟩ rfl rfl rfl rfl rfl (by kernel_rfl) Try.func3 (by kernel_rfl)
    (of_decide_eq_true (by kernel_rfl)) (by unfold Func.isWrapper; first | (rw [if_pos (by decide +kernel)]; kernel_rfl) | (rw [if_neg (by decide +kernel)]; exact ⟨rfl, rfl⟩))
    (fun os started H enc _ => lifted os started H enc)

end Go.Proofs.Ytflpfelalockgaa.stagedApplies
