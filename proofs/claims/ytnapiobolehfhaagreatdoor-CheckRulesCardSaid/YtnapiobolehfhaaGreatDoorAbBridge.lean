/-
  From a run of the abstract machine to a contract of a function that takes nothing.
-/
import Derived.Test.YtnapiobolehfhaaGreatDoorAbCode
import Derived.RowKit3
namespace Go.Ab
noncomputable section
set_option linter.unusedSimpArgs false
set_option linter.unusedVariables false
def isTrue : AV → Bool
  | .bool true => true
  | _ => false
def lookT : List (Nat × AFun) → Nat → Option AFun
  | [], _ => none
  | (k, fn) :: l, f => bif Nat.beq k f then some fn else lookT l f
section
variable {P : Program} {E : Env}
theorem lookT_mem {f : Nat} {fn : AFun} : ∀ {l : List (Nat × AFun)}, lookT l f = some fn → (f, fn) ∈ l
  | [], h => by cases h
  | (k, x) :: l, h => by
    simp only [lookT] at h
    cases hb : Nat.beq k f with
    | true =>
      rw [hb, cond_true] at h
      cases h
      rw [Nat.eq_of_beq_eq_true hb]
      exact List.mem_cons_self
    | false =>
      rw [hb, cond_false] at h
      exact List.mem_cons_of_mem _ (lookT_mem h)
def AllOK (P : Program) : List (Nat × AFun) → Prop
  | [] => True
  | (k, fn) :: l => (∃ F, P.funcs[k]? = some F ∧ compFn P F = some (stripF fn)) ∧ AllOK P l
theorem AllOK.mem {P : Program} : ∀ {l : List (Nat × AFun)}, AllOK P l → ∀ k fn, (k, fn) ∈ l → ∃ F, P.funcs[k]? = some F ∧ compFn P F = some (stripF fn)
  | [], _, _, _, h => by cases h
  | (k, fn) :: l, ⟨h1, h2⟩, k', fn', h => by
    rcases List.mem_cons.1 h with e | h
    · cases e; exact h1
    · exact AllOK.mem h2 k' fn' h
theorem enter_of (hE : EnvOK P E) {f : Nat} {fn : AFun} (hf : E.code f = some fn) (cargs : List Value) (w : World) : (callFunc f ⟨cargs⟩).run P w = .ok (.enter f ⟨cargs⟩) w := by
  obtain ⟨F, hF, hc⟩ := hE.2 f fn hf
  unfold compFn at hc
  split at hc
  · cases hc
  · rename_i c hbody
    split at hc
    · rename_i x res hx hres
      cases hn : F.name == "runtime.NumGoroutine" with
      | true => rw [hn] at hc; cases hc
      | false =>
        have hn' : F.name ≠ "runtime.NumGoroutine" := by simpa using hn
        simp [callFunc, Sem.run_bind, hF, hn', hbody]
    · cases hc
def GrownB (W W' : World) : Prop := W.keptBut W' (fun _ => False) ∧ (∀ a : Addr, a.block < W.heap.size → W'.frozen? a = W.frozen? a) ∧ W.heap.size ≤ W'.heap.size
theorem GrownB.frame {W W' : World} (h : GrownB W W') (may : MemPlace → Prop) : W.keptBut W' may := World.keptBut_mono (fun _ f => f.elim) h.1
theorem grown_of {W W' : World} (h : Gw W.heap.size W W') : GrownB W W' := by
  refine ⟨⟨h.os, h.output, fun i hi => ?_⟩, h.frozen, h.size⟩
  rw [h.below i hi]
  split
  · rename_i e1 e2
    rw [e1] at e2
    cases e2
    exact ⟨rfl, rfl, rfl, fun _ _ => rfl⟩
  · rename_i e1 e2
    rw [e1] at e2
    cases e2
    exact .inr ⟨rfl, rfl⟩
  · rfl
end
end
end Go.Ab
