/-
  LexJoins says true of all texts of bulk at most 1,048,576 (of longer ones the sum of two lengths may turn over), for every order in which the operands are evaluated; what is handed in reads as it did.
-/
import Derived.Test.YtajjclkdggoobaaM2
import Derived.Test.YtajjclkdggoobaaLU
import Derived.Test.YtajjclkdggoobaaLexTab
import Derived.ProofKit
import Derived.OpenShut
import Derived.JoinedCond
namespace Go.Proofs.Ytajjclkdggoobaa.lexJoins
open Go.ChangeShapes Go.WideShapes Go.ChangeAt Go.RowKit

theorem own : ownKnob Try.prog.godebug = none := by kernel_rfl

theorem contract (H : Type) (enc : TypeId × Value → H) (W : World) (base : Nat) (args : Array Value) (ds gs : List (DataW H)) (before : List MemPlace)
    (hval : ∀ (j : Nat) t v, Try.f6.params[j]? = some t → args[j]? = some v → Value.okWide Try.prog W .any base t v)
    (hW : DataW.Whole enc Try.prog Try.f6.params.toList Rows.lexJoinsSpec.vars false W args.toList ds gs before) (hk : Rows.uptoSmall H (ds ++ gs) = true) :
    Calls Try.prog 6 args W fun e W' => ∃ v, e = .returned v ∧ Rows.lexJoinsSpec.post enc Try.prog Try.f6 false true false false W args v W' := by
  have hW' := hW
  obtain ⟨p, q, hA0, hV, rfl, hfz, hnd⟩ := hW
  have hA : DataW.TrodAll enc Try.prog W 0 (fun _ => true) true Try.f6.params.toList args.toList ds p := hA0
  rw [Try.params6] at hA hval
  obtain ⟨v0, d0, rfl, rfl, h0⟩ := trodAll_one hA
  obtain ⟨rfl, rfl⟩ := trodVars_none hV
  clear hA0 hA
  simp only [List.append_nil] at hW' hk
  obtain ⟨a, len, cap, rfl⟩ := okWide_slice Try.underlying22 (hval 0 22 v0 rfl rfl)
  have hb : Ab.bulk d0 ≤ 1048576 := by
    have h : Rows.uptoBulkAll [d0] ≤ 1048576 := of_decide_eq_true hk
    rw [bulkAll_eq] at h
    simpa [Ab.bulkAll] using h
  have inL : Ab.In enc Try.prog W true 22 1 (fun l => Ab.szL (fun s : List Nat => s.length + 1) l + 1) (Ab.RSl 1 Ab.RStr) := Ab.In.slice Try.underlying22 (by kernel_rfl) (by decide) Ab.RStr.mono (Ab.In.str Try.underlying9)
  have env6 : E.code 6 = some A6 := rfl
  refine (Ab.calls_law Try.checked.mixed env_ok env6 (fuel := 6000 + 11) inL h0 (fun avs => avs.headD .nilSlc) (Ab.hv_leaf rfl) ?_).mono fun e W' ⟨he, hg, hr⟩ => ?_
  · rintro h avs l ho R hs
    obtain ⟨u, es, rfl, hv, ha⟩ := R.view
    obtain ⟨rfl, hbb⟩ := texts ha
    have hz := szTexts l
    exact c6 ho hv hbb (fun s hs' => by have := hz s hs'; omega) (by omega) (fun _ _ _ => rfl)
  · subst he
    exact ⟨_, rfl, Ab.post_same (pa := p) (pv := []) hW' (fun _ _ _ => trodAll_cons_mk (shut_bool Try.underlying4 _) trodAll_mk0) (fun sp' hp => trodAll_mk1 (hr sp' hp)) (fun _ _ => rfl) (by simp)
      (hg.frame _) hg.2.1 (ok_one (by kernel_rfl) rfl (okWide_bool_mk Try.underlying4 _))⟩

set_option maxRecDepth 100000 in
theorem lifted (os : Os) (started : os.Started) (H : Type) (enc : TypeId × Value → H) (F : Stop.Interp) :
    ReturnsInHanded {} Try.checked os 6 .any ((Rows.OpenSpec.upto Rows.lexJoinsSpec).pre6 enc Try.prog Try.f6 Rows.lexJoinsUptoRow.domain false) (((Rows.OpenSpec.upto Rows.lexJoinsSpec).at F).post enc Try.prog Try.f6 false true false false) := by
  refine returnsInHanded_of_cond (C := Try.checked) (s := Rows.OpenSpec.upto Rows.lexJoinsSpec) (k := Rows.uptoSmall) rfl own started (by kernel_rfl) Try.func6
    (OpenSpec.witness (enc := enc) (C := Try.checked) (s := Rows.OpenSpec.upto Rows.lexJoinsSpec) (k := Rows.uptoSmall) rfl false ⟨#[], #[.slice none 0 0], []⟩ 8 (by kernel_rfl) (by kernel_rfl) (by kernel_rfl)
      (x := ([.nil], [], [])) (by kernel_rfl) rfl (by kernel_rfl)) ?_
  intro W base args ds gs before hval hW _ hk _
  exact contract H enc W base args ds gs before hval hW hk

theorem said : Rows.LexJoinsUptoSaid :=
  OpenClaim.holds_of_cond 6 Try.f6 rfl rfl rfl rfl rfl rfl rfl ⟨rfl, rfl, rfl, rfl, rfl⟩ rfl rfl rfl rfl rfl (by kernel_rfl) Try.func6 (by kernel_rfl)
    (of_decide_eq_true (by kernel_rfl)) (by unfold Func.isWrapper; first | (rw [if_pos (by decide +kernel)]; kernel_rfl) | (rw [if_neg (by decide +kernel)]; exact ⟨rfl, rfl⟩))
    (fun os started H enc _ F => lifted os started H enc F)

end Go.Proofs.Ytajjclkdggoobaa.lexJoins
