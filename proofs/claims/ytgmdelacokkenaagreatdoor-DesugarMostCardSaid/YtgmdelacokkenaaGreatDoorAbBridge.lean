/-
  From a run of the abstract machine to a contract of a function that takes nothing.
-/
import Derived.Test.YtgmdelacokkenaaGreatDoorAbCode
import Derived.RowKit3
namespace Go.Ab
noncomputable section
set_option linter.unusedSimpArgs false
set_option linter.unusedVariables false

def isTrue : AV → Bool
  | .bool true => true
  | _ => false

def lookT : List (Nat × AFun) → Nat → Option AFun
  | [], _ => none
  | (k, fn) :: l, f => bif Nat.beq k f then some fn else lookT l f

def envT (tbl : List (Nat × AFun)) : Env := { code := lookT tbl, prim := fun _ => none }

section
variable {P : Program} {E : Env}

theorem lookT_mem {f : Nat} {fn : AFun} : ∀ {l : List (Nat × AFun)}, lookT l f = some fn → (f, fn) ∈ l
  | [], h => by cases h
  | (k, x) :: l, h => by
    simp only [lookT] at h
    cases hb : Nat.beq k f with
    | true =>
      rw [hb, cond_true] at h
      cases h
      rw [Nat.eq_of_beq_eq_true hb]
      exact List.mem_cons_self
    | false =>
      rw [hb, cond_false] at h
      exact List.mem_cons_of_mem _ (lookT_mem h)

def AllOK (P : Program) : List (Nat × AFun) → Prop
  | [] => True
  | (k, fn) :: l => (∃ F, P.funcs[k]? = some F ∧ compFn P F = some (stripF fn)) ∧ AllOK P l

theorem AllOK.mem {P : Program} : ∀ {l : List (Nat × AFun)}, AllOK P l → ∀ k fn, (k, fn) ∈ l → ∃ F, P.funcs[k]? = some F ∧ compFn P F = some (stripF fn)
  | [], _, _, _, h => by cases h
  | (k, fn) :: l, ⟨h1, h2⟩, k', fn', h => by
    rcases List.mem_cons.1 h with e | h
    · cases e; exact h1
    · exact AllOK.mem h2 k' fn' h

theorem envT_ok {tbl : List (Nat × AFun)} (h : AllOK P tbl) : EnvOK P (envT tbl) := ⟨(fun _ _ e => by cases e), fun f fn hf => h.mem f fn (lookT_mem hf)⟩

theorem enter_of (hE : EnvOK P E) {f : Nat} {fn : AFun} (hf : E.code f = some fn) (cargs : List Value) (w : World) : (callFunc f ⟨cargs⟩).run P w = .ok (.enter f ⟨cargs⟩) w := by
  obtain ⟨F, hF, hc⟩ := hE.2 f fn hf
  unfold compFn at hc
  split at hc
  · cases hc
  · rename_i c hbody
    split at hc
    · rename_i x res hx hres
      cases hn : F.name == "runtime.NumGoroutine" with
      | true => rw [hn] at hc; cases hc
      | false =>
        have hn' : F.name ≠ "runtime.NumGoroutine" := by simpa using hn
        simp [callFunc, Sem.run_bind, hF, hn', hbody]
    · cases hc

theorem relH_empty (W : World) : RelH P (.of W.heap.size) (fun _ _ => none) AHeap.empty W := by
  refine ⟨Nat.le_refl _, ?_, ?_, ?_, ?_, ?_, ?_, ?_, ?_⟩
  · intro id g L h; cases h
  · intro id h; rfl
  · intro id o h; cases h
  · intro id g L h; cases h
  · intro id o g L h; cases h
  · intro id o id' g g' L L' h; cases h
  · intro id g L h; cases h
  · intro id o h; cases h

/-- What lay there is as it was; nothing of it is frozen, or let go. -/
def GrownB (W W' : World) : Prop := W.keptBut W' (fun _ => False) ∧ (∀ a : Addr, a.block < W.heap.size → W'.frozen? a = W.frozen? a) ∧ W.heap.size ≤ W'.heap.size

theorem GrownB.frame {W W' : World} (h : GrownB W W') (may : MemPlace → Prop) : W.keptBut W' may := World.keptBut_mono (fun _ f => f.elim) h.1

theorem grown_of {W W' : World} (h : Gw W.heap.size W W') : GrownB W W' := by
  refine ⟨⟨h.os, h.output, fun i hi => ?_⟩, h.frozen, h.size⟩
  rw [h.below i hi]
  split
  · rename_i e1 e2
    rw [e1] at e2
    cases e2
    exact ⟨rfl, rfl, rfl, fun _ _ => rfl⟩
  · rename_i e1 e2
    rw [e1] at e2
    cases e2
    exact .inr ⟨rfl, rfl⟩
  · rfl

/-- A function that takes nothing, and says true on the abstract machine. -/
theorem calls_true (hmix : P.follows .mixedOrders = true) (hE : EnvOK P E) {f fuel : Nat} {fn : AFun} (hf : E.code f = some fn) (hrun : callN E fuel (.func f) [] AHeap.empty (fun v _ => isTrue v) = true) (W : World) :
    Calls P f #[] W fun e W' => e = .returned (.bool true) ∧ GrownB W W' := by
  have h := callN_sound hmix hE fuel (.func f) [] AHeap.empty _ hrun (.of W.heap.size) (fun _ _ => none) W [] (relH_empty W) .nil
  simp only at h
  have h := FuncOK.lands h
  rw [enter_of hE hf] at h
  have h1 : CallsIn (FW none) 0 P f #[] W _ := h 0
  refine (callsIn_wide.1 h1).mono ?_
  rintro e W' (⟨v, h', cv, φ', rfl, hK, hv, _, _, hg⟩ | ⟨v, h', cv, φ', rfl, hK, hv, _, _, hg⟩)
  rotate_left
  · cases hK
  refine ⟨?_, grown_of hg⟩
  cases hv <;> first | (cases hK; done) | skip
  rename_i b
  cases b with
  | false => cases hK
  | true => rfl

end
end
end Go.Ab
