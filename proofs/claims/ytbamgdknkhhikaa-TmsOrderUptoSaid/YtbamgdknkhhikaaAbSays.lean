/-
  A function that takes nothing and says true, run once on the abstract machine: a function that is not walked.
-/
import Derived.Test.YtbamgdknkhhikaaAbFrz
import Derived.Test.YtbamgdknkhhikaaAbPrim
namespace Go.Ab
set_option linter.unusedSimpArgs false
set_option linter.unusedVariables false

def saysT : Prim := fun _ _ args h K => match args with
  | [] => K (.bool true) h
  | _ => false

theorem saysT_mono : MonoP saysT := by
  intro call call' n args h K K' _ hK s
  unfold saysT at s ⊢
  split at s
  · exact hK _ _ s
  · cases s

theorem saysT_ok {P : Program} {E : Env} (hmix : P.follows .mixedOrders = true) (hE : EnvOK P E) {f fuel : Nat} {fn : AFun} (hf : E.code f = some fn) (hrun : callN E fuel (.func f) [] AHeap.empty (fun v _ => isTrue v) = true) : PrimOK P f saysT := by
  intro call n _ args h K hK
  unfold saysT at hK
  split at hK
  · refine ⟨fun v hv => absurd hv List.not_mem_nil, fun B φ w cargs H hA => ?_⟩
    cases hA
    have h0 := callN_sound hmix hE fuel (.func f) [] AHeap.empty _ hrun (.of w.heap.size) (fun _ _ => none) w [] (relH_empty w) .nil
    simp only at h0
    have h0 := FuncOK.lands h0
    rw [enter_of hE hf] at h0 ⊢
    intro m
    have h1 : CallsIn (FW none) m P f #[] w _ := h0 m
    refine h1.mono ?_
    rintro e w' ⟨v, h', cv, φ', rfl, hi, hv, _, _, hg⟩
    have hb : cv = .bool true := by
      cases hv <;> first | (cases hi; done) | skip
      rename_i b
      cases b with
      | false => cases hi
      | true => rfl
    subst hb
    obtain ⟨q, os, rfl⟩ := Gw.grown hg
    have H1 : RelH P B φ h (w.drewN q) := H.heap rfl
    exact ⟨.bool true, h, .bool true, φ, rfl, hK, .bool _, H1.grow os, φ.le_refl, (Gw.ahead _ w q).trans (Gw.grow (B := B) H1.base os)⟩
  · cases hK
end Go.Ab
