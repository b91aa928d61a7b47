/-
  LexExact says true of all texts, for every order in which the operands are evaluated; what is handed in reads as it did.
-/
import Derived.Test.YtajjclkdggoobaaN8
import Derived.Test.YtajjclkdggoobaaLexTab
import Derived.Test.YtajjclkdggoobaaRows
import Derived.ProofKit
import Derived.OpenShut
namespace Go.Proofs.Ytajjclkdggoobaa.lexExact
open Go.ChangeShapes Go.WideShapes Go.ChangeAt Go.RowKit

theorem own : ownKnob Try.prog.godebug = none := by kernel_rfl

theorem texts {es : List (List Ab.AV)} {l : List (List Nat)} {h : Ab.AHeap} (a : Ab.All2 (Ab.RStr h) es l) : es = l.map (fun s => [Ab.AV.str s]) ∧ ∀ s ∈ l, ∀ b ∈ s, b < 256 := by
  induction a with
  | nil => exact ⟨rfl, fun _ h => by cases h⟩
  | cons h t ih =>
    obtain ⟨h1, h2⟩ := h
    obtain ⟨i1, i2⟩ := ih
    refine ⟨by rw [h1, i1]; rfl, fun s hs => ?_⟩
    rcases List.mem_cons.1 hs with rfl | hs
    · exact h2
    · exact i2 s hs

set_option maxRecDepth 100000 in
theorem lifted (os : Os) (started : os.Started) (H : Type) (enc : TypeId × Value → H) :
    ReturnsInHanded {} Try.checked os 3 .any (Rows.lexExactSpec.pre6 enc Try.prog Try.f3 Rows.lexExactRow.domain false) (Rows.lexExactSpec.post enc Try.prog Try.f3 false true false false) := by
  refine returnsInHanded_of_change (C := Try.checked) own started (by kernel_rfl) Try.func3
    (ChangeSpec.witness6 (enc := enc) (C := Try.checked) false ⟨#[], #[.slice none 0 0], []⟩ 8 (by kernel_rfl) (by kernel_rfl) (by kernel_rfl) (by kernel_rfl)) ?_
  intro W base args ds gs before hval0 hW hcnd _
  have hval : ∀ (j : Nat) t v, Try.f3.params[j]? = some t → args[j]? = some v → Value.okWide Try.prog W .any base t v := hval0
  have hW' := hW
  obtain ⟨p, q, hA0, hV, rfl, hfz, hnd⟩ := hW
  have hA : DataW.TrodAll enc Try.prog W 0 (fun _ => true) true Try.f3.params.toList args.toList ds p := hA0
  rw [Try.params3] at hA hval
  obtain ⟨v0, d0, rfl, rfl, h0⟩ := trodAll_one hA
  obtain ⟨rfl, rfl⟩ := trodVars_none hV
  clear hA0 hA hval0
  simp only [List.append_nil] at hW'
  obtain ⟨a, len, cap, rfl⟩ := okWide_slice Try.underlying22 (hval 0 22 v0 rfl rfl)
  have inL : Ab.In enc Try.prog W true 22 1 (fun l => Ab.szL (fun s : List Nat => s.length + 1) l + 1) (Ab.RSl 1 Ab.RStr) := Ab.In.slice Try.underlying22 (by kernel_rfl) (by decide) Ab.RStr.mono (Ab.In.str Try.underlying9)
  have env3 : E.code 3 = some A3 := rfl
  refine (Ab.calls_law Try.checked.mixed env_ok env3 (fuel := 71000 + 13) inL h0 (fun avs => avs.headD .nilSlc) (Ab.hv_leaf rfl) ?_).mono fun e W' ⟨he, hg, hr⟩ => ?_
  · rintro h avs l ho R _
    obtain ⟨u, es, rfl, hv, ha⟩ := R.view
    obtain ⟨rfl, hb⟩ := texts ha
    exact c3 ho hv hb (by omega) (fun _ _ _ => rfl)
  · subst he
    exact ⟨_, rfl, Ab.post_same (pa := p) (pv := []) hW' (fun _ _ _ => trodAll_cons_mk (shut_bool Try.underlying4 _) trodAll_mk0) (fun sp' hp => trodAll_mk1 (hr sp' hp)) (fun _ _ => rfl) (by simp)
      (hg.frame _) hg.2.1 (ok_one (by kernel_rfl) rfl (okWide_bool_mk Try.underlying4 _))⟩

theorem said : Rows.LexExactSaid :=
  OpenClaim.holds_of_wide 3 Try.f3 rfl rfl rfl rfl rfl rfl rfl ⟨rfl, rfl, rfl, rfl, rfl⟩ rfl rfl rfl rfl rfl (by kernel_rfl) Try.func3 (by kernel_rfl)
    (of_decide_eq_true (by kernel_rfl)) (by unfold Func.isWrapper; first | (rw [if_pos (by decide +kernel)]; kernel_rfl) | (rw [if_neg (by decide +kernel)]; exact ⟨rfl, rfl⟩))
    (fun os started H enc _ => lifted os started H enc)

end Go.Proofs.Ytajjclkdggoobaa.lexExact
