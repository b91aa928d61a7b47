/-
  Code, and calls of functions: whatever the abstract machine says well of, the model's machine does.
-/
import Derived.Test.YtpleghnncpefoaaAbDraw
import Derived.LoopNIn
namespace Go.Ab
set_option linter.unusedSimpArgs false
set_option linter.unusedVariables false

def AExit.toExit : AExit → Exit
  | .normal => .normal
  | .ret => .ret
  | .exit id => .exit id
  | .goto l => .goto l

/-- What is asked where a piece of code is done. -/
def Then (P : Program) (B N : Nat) (φ : Phi) (a : Act) (w : World) (K : KEx) (Q : Exit → Act → World → Prop) : Prop :=
  ∀ ex σ' a' w' φ', K ex σ' = true → At P B N φ' σ' a' w' → a'.defers = a.defers → φ.le φ' → Gw B w w' → Q ex.toExit a' w'

section
variable {P : Program} {B N n : Nat} {call : CallFn} {r : Option Nat}

theorem Then.later {φ φ' : Phi} {a a' : Act} {w w' : World} {K : KEx} {Q : Exit → Act → World → Prop} (h : Then P B N φ a w K Q) (hd : a'.defers = a.defers) (hle : φ.le φ') (hg : Gw B w w') : Then P B N φ' a' w' K Q :=
  fun ex σ2 a2 w2 φ2 k1 k2 k3 k4 k5 => h ex σ2 a2 w2 φ2 k1 k2 (k3.trans hd) (Phi.le_trans hle k4) (hg.trans k5)

def CodeOK (P : Program) (B N n : Nat) (call : CallFn) (r : Option Nat) (m : Nat) (c : Code) (x : ACode) : Prop :=
  ∀ (σ : St) (K : KEx) (φ : Phi) (a : Act) (w : World) (Q : Exit → Act → World → Prop), At P B N φ σ a w → runC call m x σ K = true → Then P B N φ a w K Q → c.wpIn (FW r) n P Q a w

theorem rounds_sound {m : Nat} {c : Code} {x : ACode} (hc : CodeOK P B N n call r m c x) : ∀ (k : Nat) (σ : St) (K : KEx) (φ : Phi) (a : Act) (w : World) (Q : Exit → Act → World → Prop), At P B N φ σ a w → iter (runC call m x) K k σ = true → Then P B N φ a w K Q → Code.roundsIn (FW r) n P c Q k a w
  | 0, σ, K, φ, a, w, Q, A, hr, hQ => by simp [iter] at hr
  | k + 1, σ, K, φ, a, w, Q, A, hr, hQ => by
    simp only [iter] at hr
    rw [roundsIn_succ]
    refine hc σ _ φ a w _ A hr ?_
    intro ex σ' a' w' φ' k1 k2 k3 k4 k5
    cases ex with
    | normal => exact rounds_sound hc k σ' K φ' a' w' Q k2 k1 (hQ.later k3 k4 k5)
    | ret => exact hQ .ret σ' a' w' φ' k1 k2 k3 k4 k5
    | exit id => exact hQ (.exit id) σ' a' w' φ' k1 k2 k3 k4 k5
    | goto l => exact hQ (.goto l) σ' a' w' φ' k1 k2 k3 k4 k5

theorem runC_sound (hmix : P.follows .mixedOrders = true) (hcall : CallOK P call) (m : Nat) : ∀ (c : Code) (x : ACode), comp P N c = some x → CodeOK P B N n call r m c x := by
  intro c
  induction c with
  | skip =>
    intro x hc σ K φ a w Q A hr hQ
    simp only [comp] at hc; cases hc
    exact wpIn_skip (hQ .normal σ a w φ hr A rfl φ.le_refl (Gw.refl B w))
  | region id ops draw =>
    intro x hc σ K φ a w Q A hr hQ
    simp only [comp] at hc
    split at hc
    · rename_i as has
      cases draw with
      | true => exact dreg_sound hmix hcall has hc A hr fun σ' a' w' φ' k1 k2 k3 k4 k5 => hQ .normal σ' a' w' φ' k1 k2 k3 k4 k5
      | false =>
        cases hc
        exact reg_sound hcall has A hr fun σ' a' w' φ' k1 k2 k3 k4 k5 => hQ .normal σ' a' w' φ' k1 k2 k3 k4 k5
    · cases hc
  | seq c d ihc ihd =>
    intro x hc σ K φ a w Q A hr hQ
    simp only [comp] at hc
    split at hc
    · rename_i y z hy hz
      cases hc
      simp only [runC] at hr
      refine wpIn_seq (ihc y hy σ _ φ a w _ A hr ?_)
      intro ex σ' a' w' φ' k1 k2 k3 k4 k5
      cases ex with
      | normal => exact ihd z hz σ' K φ' a' w' Q k2 k1 (hQ.later k3 k4 k5)
      | ret => exact hQ .ret σ' a' w' φ' k1 k2 k3 k4 k5
      | exit id => exact hQ (.exit id) σ' a' w' φ' k1 k2 k3 k4 k5
      | goto l => exact hQ (.goto l) σ' a' w' φ' k1 k2 k3 k4 k5
    · cases hc
  | cond o c d ihc ihd =>
    intro x hc σ K φ a w Q A hr hQ
    simp only [comp] at hc
    split at hc
    · rename_i p y z hp hy hz
      cases hc
      simp only [runC] at hr
      split at hr
      · rename_i hv
        have := ev_opd A.regs hp hv
        generalize hev : a.eval o = u at this
        cases this
        exact wpIn_cond_true hev (ihc y hy σ K φ a w Q A hr hQ)
      · rename_i hv
        have := ev_opd A.regs hp hv
        generalize hev : a.eval o = u at this
        cases this
        exact wpIn_cond_false hev (ihd z hz σ K φ a w Q A hr hQ)
      · cases hr
    · cases hc
  | block id c ih =>
    intro x hc σ K φ a w Q A hr hQ
    simp only [comp] at hc
    split at hc
    · rename_i y hy
      cases hc
      simp only [runC] at hr
      refine wpIn_block (ih y hy σ _ φ a w _ A hr ?_)
      intro ex σ' a' w' φ' k1 k2 k3 k4 k5
      cases ex with
      | normal => exact hQ .normal σ' a' w' φ' k1 k2 k3 k4 k5
      | ret => exact hQ .ret σ' a' w' φ' k1 k2 k3 k4 k5
      | goto l => exact hQ (.goto l) σ' a' w' φ' k1 k2 k3 k4 k5
      | exit i =>
        simp only at k1
        simp only [AExit.toExit, Exit.inBlock]
        cases hb : Nat.beq i id with
        | true =>
          rw [hb] at k1
          rw [if_pos (Nat.eq_of_beq_eq_true hb)]
          exact hQ .normal σ' a' w' φ' k1 k2 k3 k4 k5
        | false =>
          rw [hb] at k1
          rw [if_neg (nbeq_false.1 hb)]
          exact hQ (.exit i) σ' a' w' φ' k1 k2 k3 k4 k5
    · cases hc
  | loop c ih =>
    intro x hc σ K φ a w Q A hr hQ
    simp only [comp] at hc
    split at hc
    · rename_i y hy
      cases hc
      simp only [runC] at hr
      exact wpIn_loop_rounds m (rounds_sound (ih y hy) m σ K φ a w Q A hr hQ)
    · cases hc
  | exit id =>
    intro x hc σ K φ a w Q A hr hQ
    simp only [comp] at hc; cases hc
    exact wpIn_exit (hQ (.exit id) σ a w φ hr A rfl φ.le_refl (Gw.refl B w))
  | ret =>
    intro x hc σ K φ a w Q A hr hQ
    simp only [comp] at hc; cases hc
    exact wpIn_ret (hQ .ret σ a w φ hr A rfl φ.le_refl (Gw.refl B w))
  | _ => intro x hc; simp only [comp] at hc; cases hc

/-! ### Calls -/
def resOne (tmps : Array Value) : ResultVar → Sem Value
  | .tmp t => pure (tmps.getD t undef)
  | .cell a t => do loadVar t (← asAddr (tmps.getD a undef))

def RunsTo (P : Program) (w : World) {α β : Type} (f : α → Sem β) : List α → List β → Prop
  | [], [] => True
  | x :: l, v :: m => (f x).run P w = .ok v w ∧ RunsTo P w f l m
  | _, _ => False

theorem mapM_run {α β : Type} {w : World} {f : α → Sem β} : ∀ {l : List α} {m : List β}, RunsTo P w f l m → (l.mapM f).run P w = .ok m w
  | [], [], _ => by simp
  | [], _ :: _, h => h.elim
  | _ :: _, [], h => h.elim
  | x :: l, v :: m, h => by
    rw [List.mapM_cons, Sem.run_bind, h.1, Result.andThen_ok, Sem.run_bind, mapM_run h.2]
    simp

theorem results_each {φ : Phi} {σ : St} {a : Act} {w : World} (A : At P B N φ σ a w) : ∀ {l : List ResultVar} {res : List (Nat × Option (Bool × Nat))} {vs : List AV}, resOf P l = some res → resultsA σ.regs σ.h res = some vs →
    ∃ cvs, RunsTo P w (resOne a.tmps) l cvs ∧ RelVs φ vs cvs
  | [], res, vs, hr, hv => by
    simp [resOf] at hr; subst hr
    simp [resultsA] at hv; subst hv
    exact ⟨[], trivial, .nil⟩
  | .tmp t :: l, res, vs, hr, hv => by
    simp only [resOf, Option.bind_eq_bind, Option.pure_def] at hr
    cases hl : resOf P l with
    | none => simp [hl] at hr
    | some res' =>
      simp [hl] at hr; subst hr
      simp only [resultsA, resultA] at hv
      split at hv
      · rename_i v h1
        split at hv
        · rename_i vs' h2
          cases hv
          obtain ⟨cvs, g1, g2⟩ := results_each A hl h2
          obtain ⟨cv, e1, e2⟩ := A.regs.2 t v h1
          exact ⟨cv :: cvs, ⟨by simp [resOne, e1], g1⟩, .cons e2 g2⟩
        · cases hv
      · cases hv
  | .cell x t :: l, res, vs, hr, hv => by
    simp only [resOf, Option.bind_eq_bind, Option.pure_def] at hr
    cases hl : resOf P l with
    | none => cases hag : isAggT P t <;> cases hs : sizeT P t <;> simp [hl, hag, hs] at hr
    | some res' =>
      cases hag : isAggT P t with
      | none => simp [hag] at hr
      | some ag =>
        cases hs : sizeT P t with
        | none => simp [hag, hs] at hr
        | some sz =>
          simp [hl, hag, hs] at hr; subst hr
          simp only [resultsA, resultA] at hv
          split at hv
          · rename_i v h1
            split at h1
            · rename_i p hp
              split at hv
              · rename_i vs' h2
                cases hv
                obtain ⟨cvs, g1, g2⟩ := results_each A hl h2
                obtain ⟨cp, e1, e2⟩ := A.regs.2 x p hp
                obtain ⟨cv, q1, q2, q3⟩ := load_sound A.heap e2 h1 hag hs
                have hptr : ∃ Ad, cp = .pointer (some Ad) := by
                  unfold loadA at h1
                  cases e2 <;> first | (cases h1; done) | exact ⟨_, rfl⟩
                obtain ⟨Ad, rfl⟩ := hptr
                exact ⟨cv :: cvs, ⟨by simp [resOne, e1, asAddr, q2 Ad rfl], g1⟩, .cons q3 g2⟩
              · cases hv
            · cases h1
          · cases hv

theorem relV_oneOf {φ : Phi} {vs : List AV} {cvs : List Value} (h : RelVs φ vs cvs) : RelV φ (oneOf vs) (if h : (⟨cvs⟩ : Array Value).size = 1 then (⟨cvs⟩ : Array Value)[0] else .tuple ⟨cvs⟩) := by
  cases h with
  | nil => exact .tup .nil
  | cons h1 h2 =>
    cases h2 with
    | nil => simpa [oneOf] using h1
    | cons h2 h3 => simpa [oneOf] using RelV.tup (.cons h1 (.cons h2 h3))

theorem results_sound {φ : Phi} {σ : St} {a : Act} {w : World} {fn : Func} (A : At P B N φ σ a w) {res : List (Nat × Option (Bool × Nat))} {vs : List AV} (hr : resOf P fn.results.toList = some res) (hv : resultsA σ.regs σ.h res = some vs) :
    ∃ cv, (results fn a.tmps).run P w = .ok cv w ∧ RelV φ (oneOf vs) cv := by
  obtain ⟨cvs, g1, g2⟩ := results_each A hr hv
  have e : results fn a.tmps = (do let vs ← fn.results.mapM (resOne a.tmps); pure (if h : vs.size = 1 then vs[0] else .tuple vs)) := by
    unfold results
    congr 1
  refine ⟨_, ?_, relV_oneOf g2⟩
  rw [e, Sem.run_bind]
  rw [Array.mapM_eq_mapM_toList, Sem.run_map, mapM_run g1]
  rfl

/-! ### Calls of functions -/
theorem initR_get : ∀ {l : List AV} {i t : Nat} {ρ : Regs}, (initR i l ρ).get t = if i ≤ t ∧ t < i + l.length then l[t - i]? else ρ.get t
  | [], i, t, ρ => by simp [initR]; omega
  | v :: l, i, t, ρ => by
    simp only [initR]
    rw [initR_get, PT.get_set]
    by_cases h1 : t = i
    · subst h1
      rw [if_neg (by omega), if_pos rfl, if_pos (by simp)]
      simp
    · by_cases h2 : i + 1 ≤ t ∧ t < i + 1 + l.length
      · rw [if_pos h2, if_pos (by simp; omega)]
        have : t - i = (t - (i + 1)) + 1 := by omega
        rw [this]; rfl
      · rw [if_neg h2, if_neg h1, if_neg (by simp; omega)]

theorem frame_regs {φ : Phi} {args : List AV} {cargs : List Value} (h : RelVs φ args cargs) (N : Nat) : RelR φ N (initR 0 args .lf) ((⟨cargs⟩ : Array Value) ++ Array.replicate (N - (⟨cargs⟩ : Array Value).size) undef) := by
  refine ⟨by simp; omega, fun t v ht => ?_⟩
  rw [initR_get] at ht
  split at ht
  · rename_i hlt
    obtain ⟨cv, e1, e2⟩ := h.get (i := t) (a := v) (by simpa using ht)
    refine ⟨cv, ?_, e2⟩
    have : t < cargs.length := (List.getElem?_eq_some_iff.1 e1).1
    rw [Array.getElem?_append_left (by simpa using this)]
    simpa using e1
  · rw [PT.get_lf] at ht; cases ht

def EnvOK (P : Program) (E : Env) : Prop := (∀ f, E.prim f = none) ∧ ∀ f fn, E.code f = some fn → ∃ F, P.funcs[f]? = some F ∧ compFn P F = some fn

theorem callN_sound {E : Env} (hmix : P.follows .mixedOrders = true) (hE : EnvOK P E) : ∀ m, CallOK P (callN E m)
  | 0 => fun _ _ _ _ h => by simp [callN] at h
  | m + 1 => by
    intro tgt args h K hK B φ w cargs H hA
    cases tgt with
    | yield id => simp [callN] at hK
    | func f =>
      simp only [callN, hE.1] at hK
      split at hK
      · cases hK
      · rename_i fn hf
        obtain ⟨F, hF, hc⟩ := hE.2 f fn hf
        obtain ⟨_, hK⟩ := bif_true hK
        unfold compFn at hc
        split at hc
        · cases hc
        · rename_i c hbody
          split at hc
          · rename_i x res hx hres
            cases hn : F.name == "runtime.NumGoroutine" with
            | true => rw [hn] at hc; cases hc
            | false =>
              rw [hn, cond_false] at hc
              cases hc
              simp only at hK
              have hrun : (callFunc f ⟨cargs⟩).run P w = .ok (.enter f ⟨cargs⟩) w := by
                have hn' : F.name ≠ "runtime.NumGoroutine" := by simpa using hn
                simp [callFunc, Sem.run_bind, hF, hn', hbody]
              simp only
              rw [hrun]
              intro n
              refine callsIn_of_wp hF hbody trivial ?_
              have A : At P B F.ntmps φ ⟨initR 0 args .lf, h⟩ { tmps := (⟨cargs⟩ : Array Value) ++ Array.replicate (F.ntmps - (⟨cargs⟩ : Array Value).size) undef, defers := [] } w := ⟨frame_regs hA _, H⟩
              refine runC_sound hmix (callN_sound hmix hE m) m c x hx _ _ φ _ w _ A hK ?_
              intro ex σ' a' w' φ' k1 k2 k3 k4 k5
              have fin : (match resultsA σ'.regs σ'.h res with | some l => K (oneOf l) σ'.h | none => false) = true → a'.defers = [] ∧ ∃ v, (results F a'.tmps).run P w' = .ok v w' ∧ Ends P B φ w K (.returned v) w' := by
                intro hk
                split at hk
                · rename_i vs hvs
                  obtain ⟨cv, e1, e2⟩ := results_sound k2 hres hvs
                  exact ⟨k3, cv, e1, oneOf vs, σ'.h, cv, φ', rfl, hk, e2, k2.heap, k4, k5⟩
                · cases hk
              cases ex with
              | normal => exact fin k1
              | ret => exact fin k1
              | exit id => cases k1
              | goto l => cases k1
          · cases hc

end
end Go.Ab
