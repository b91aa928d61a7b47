/-
  A run in the kernel, in parts: loops with states at their heads and ends, each head's rounds a run of their own; a function's whole run as what is said of it (a prim).
-/
import Derived.Test.YtgmdelacokkenaaGreatDoorAbRun
namespace Go.Ab
noncomputable section
set_option linter.unusedSimpArgs false
set_option linter.unusedVariables false

/-- Which of these states is one of which less is known. -/
def pickI (σ : St) : List Cut → Nat → Option Nat
  | [], _ => none
  | c :: l, i => bif covers σ c then some i else pickI σ l (i + 1)

theorem pickI_some {σ : St} : ∀ {l : List Cut} {i j : Nat}, pickI σ l i = some j → i ≤ j ∧ ∃ c, l[j - i]? = some c ∧ pickC σ l = some c
  | [], i, j, h => by cases h
  | c :: l, i, j, h => by
    unfold pickI at h
    unfold pickC
    cases hb : covers σ c with
    | true =>
      rw [hb, cond_true] at h
      cases h
      exact ⟨Nat.le_refl _, c, by simp, by rw [cond_true]⟩
    | false =>
      rw [hb, cond_false] at h
      obtain ⟨h1, d, h2, h3⟩ := pickI_some h
      refine ⟨by omega, d, ?_, by rw [cond_false]; exact h3⟩
      have : j - i = j - (i + 1) + 1 := by omega
      rw [this, List.getElem?_cons_succ]; exact h2

theorem pickI_none {σ : St} : ∀ {l : List Cut} {i : Nat}, pickI σ l i = none → pickC σ l = none
  | [], i, h => rfl
  | c :: l, i, h => by
    unfold pickI at h
    unfold pickC
    cases hb : covers σ c with
    | true => rw [hb, cond_true] at h; cases h
    | false => rw [hb, cond_false] at h; exact pickI_none h

def isS (o : Option Nat) : Bool := match o with
  | some _ => true
  | none => false

/-- Rounds of a loop to a head that stands behind this one, or out of it. -/
def iterS (f : St → KEx → Bool) (hd en : List Cut) (i lp : Nat) : Nat → St → Bool
  | 0, _ => false
  | m + 1, σ => f σ fun x σ' => match x with
    | .normal => (match pickI σ' hd 0 with
      | some j => Nat.blt i j
      | none => iterS f hd en i lp m σ')
    | .exit k => bif Nat.beq k lp then isS (pickI σ' en 0) else false
    | _ => false

section
variable {call call' : CallFn} {n M lp : Nat} {body r : ACode} {hd en : List Cut} {K : KEx}

theorem iter_parts (hc : Le call call') (hb : ∀ (i : Nat) (c : Cut), hd[i]? = some c → iterS (runC call n body) hd en i lp M c.st = true) (hK : ∀ σ, isS (pickI σ en 0) = true → K (.exit lp) σ = true) :
    ∀ d i, hd.length ≤ i + d → ∀ m σ, pickI σ hd 0 = some i → M * d ≤ m → iter (runC call' n (.cut hd body)) K m σ = true := by
  intro d
  induction d with
  | zero =>
    intro i hi m σ hp _
    obtain ⟨_, c, h2, _⟩ := pickI_some hp
    have := (List.getElem?_eq_some_iff.1 h2).1
    omega
  | succ d ih =>
    intro i hi m σ hp hm
    obtain ⟨_, c, h2, h3⟩ := pickI_some hp
    rw [Nat.sub_zero] at h2
    -- the rounds of this head
    have inner : ∀ k m σ0, M * d + k ≤ m → iterS (runC call n body) hd en i lp k σ0 = true →
        ∃ m', m = m' + 1 ∧ runC call' n body σ0 (fun x σ' => match x with | .normal => iter (runC call' n (.cut hd body)) K m' σ' | x => K x σ') = true := by
      intro k
      induction k with
      | zero => intro m σ0 _ h; cases h
      | succ k ihk =>
        intro m σ0 hm h
        obtain ⟨m', rfl⟩ : ∃ m', m = m' + 1 := ⟨m - 1, by omega⟩
        refine ⟨m', rfl, ?_⟩
        refine runC_le hc h fun x σ' hx => ?_
        cases x with
        | normal =>
          show iter (runC call' n (.cut hd body)) K m' σ' = true
          have hx : (match pickI σ' hd 0 with | some j => Nat.blt i j | none => iterS (runC call n body) hd en i lp k σ') = true := hx
          cases hq : pickI σ' hd 0 with
          | some j =>
            rw [hq] at hx
            have hx : i < j := nblt_true.1 hx
            exact ih j (by omega) m' σ' hq (by omega)
          | none =>
            rw [hq] at hx
            obtain ⟨m2, rfl, h4⟩ := ihk m' σ' (by omega) hx
            simp only [iter, runC, pickI_none hq]
            exact h4
        | exit e =>
          show K (.exit e) σ' = true
          have hx : (bif Nat.beq e lp then isS (pickI σ' en 0) else false) = true := hx
          cases hq : Nat.beq e lp with
          | false => rw [hq] at hx; cases hx
          | true =>
            rw [hq, cond_true] at hx
            rw [Nat.eq_of_beq_eq_true hq]
            exact hK σ' hx
        | _ => cases hx
    obtain ⟨m', rfl, h4⟩ := inner M m c.st (by rw [Nat.mul_succ] at hm; exact hm) (hb i c h2)
    simp only [iter, runC, h3]
    exact h4

def chkH (hd : List Cut) : KEx := fun x σ => match x with
  | .normal => isS (pickI σ hd 0)
  | _ => false

/-- Statements, then a loop, then what comes behind it. -/
theorem loop_parts (hc : Le call call') {g : List ACode} {pre : ACode} {σ : St} (h1 : runC call n (seqs g pre) σ (chkH hd) = true) (hb : ∀ (i : Nat) (c : Cut), hd[i]? = some c → iterS (runC call n body) hd en i lp M c.st = true) (hn : M * hd.length ≤ n)
    (hr : ∀ (i : Nat) (c : Cut), en[i]? = some c → runC call' n r c.st K = true) :
    runC call' n (seqs g (.seq (.seq pre (.block lp (.loop (.cut hd body)))) (.cut en r))) σ K = true := by
  rw [seqs_run] at h1 ⊢
  refine runC_le hc h1 fun x σ' hx => ?_
  cases x <;> first | (cases hx; done) | skip
  have hx : runC call n pre σ' (chkH hd) = true := hx
  simp only [runC]
  refine runC_le hc hx fun x σ2 hx => ?_
  cases x <;> first | (cases hx; done) | skip
  have hx : isS (pickI σ2 hd 0) = true := hx
  simp only [runC]
  cases hq : pickI σ2 hd 0 with
  | none => rw [hq] at hx; cases hx
  | some i =>
    refine iter_parts (lp := lp) (en := en) hc hb (fun σ3 h3 => ?_) hd.length i (by omega) n σ2 hq hn
    simp only [Nat.beq_refl, cond_true]
    cases hp : pickI σ3 en 0 with
    | none => rw [hp] at h3; cases h3
    | some j =>
      obtain ⟨_, c, h4, h5⟩ := pickI_some hp
      rw [Nat.sub_zero] at h4
      simp only [h5]
      exact hr j c h4

theorem cut_parts (hc : Le call call') {g : List ACode} {σ : St} (h1 : runC call n (seqs g .skip) σ (chkH en) = true) (hr : ∀ (i : Nat) (c : Cut), en[i]? = some c → runC call' n r c.st K = true) :
    runC call' n (seqs g (.cut en r)) σ K = true := by
  rw [seqs_run]
  refine runC_le hc h1 fun x σ' hx => ?_
  cases x <;> first | (cases hx; done) | skip
  have hx : isS (pickI σ' en 0) = true := hx
  simp only [runC]
  cases hp : pickI σ' en 0 with
  | none => rw [hp] at hx; cases hx
  | some j =>
    obtain ⟨_, c, h4, h5⟩ := pickI_some hp
    rw [Nat.sub_zero] at h4
    simp only [h5]
    exact hr j c h4

theorem first_part {c : Cut} {σ : St} (hcov : covers σ c = true) (h : runC call n r c.st K = true) : runC call n (.cut [c] r) σ K = true := by
  simp only [runC, pickC, hcov, cond_true]
  exact h
end

/-- Each head's rounds. -/
def AllH (f : St → KEx → Bool) (hd en : List Cut) (lp M : Nat) : List Cut → Nat → Prop
  | [], _ => True
  | c :: l, i => iterS f hd en i lp M c.st = true ∧ AllH f hd en lp M l (i + 1)
theorem AllH.get {f : St → KEx → Bool} {hd en : List Cut} {lp M : Nat} : ∀ {l : List Cut} {k : Nat}, AllH f hd en lp M l k → ∀ (i : Nat) (c : Cut), l[i]? = some c → iterS f hd en (k + i) lp M c.st = true
  | [], _, _, i, c, h => by simp at h
  | d :: l, k, ⟨h1, h2⟩, 0, c, h => by simp at h; subst h; exact h1
  | d :: l, k, ⟨h1, h2⟩, i + 1, c, h => by
    have := AllH.get h2 i c (by simpa using h)
    rwa [show k + 1 + i = k + (i + 1) by omega] at this
theorem AllH.all {f : St → KEx → Bool} {hd en : List Cut} {lp M : Nat} (h : AllH f hd en lp M hd 0) : ∀ (i : Nat) (c : Cut), hd[i]? = some c → iterS f hd en i lp M c.st = true := fun i c hi => by
  have := h.get i c hi
  rwa [Nat.zero_add] at this
/-- What is so of each of these. -/
def AllE (p : Cut → Prop) : List Cut → Prop
  | [] => True
  | c :: l => p c ∧ AllE p l
theorem AllE.get {p : Cut → Prop} : ∀ {l : List Cut}, AllE p l → ∀ (i : Nat) (c : Cut), l[i]? = some c → p c
  | [], _, i, c, h => by simp at h
  | d :: l, ⟨h1, h2⟩, 0, c, h => by simp at h; subst h; exact h1
  | d :: l, ⟨h1, h2⟩, i + 1, c, h => AllE.get h2 i c (by simpa using h)

/-! ### A function's run as what is said of it -/
/-- These arguments, a heap of which as much is known: one of these results, each with what is known then. -/
def sumP (as : List AV) (c : Cut) (outs : List (AV × Cut)) : Prim := fun _ _ args h K =>
  bif sames args as && covers ⟨.lf, h⟩ c then allO outs K else false
where
  allO : List (AV × Cut) → Kont → Bool
  | [], _ => true
  | (v, e) :: l, K => bif K v e.st.h then allO l K else false

theorem sumP.allO_mem : ∀ {l : List (AV × Cut)} {K : Kont}, sumP.allO l K = true → ∀ v e, (v, e) ∈ l → K v e.st.h = true
  | [], _, _, _, _, h => by cases h
  | (v, e) :: l, K, s, v', e', h => by
    unfold sumP.allO at s
    cases hb : K v e.st.h with
    | false => rw [hb] at s; cases s
    | true =>
      rw [hb, cond_true] at s
      rcases List.mem_cons.1 h with q | h
      · cases q; exact hb
      · exact sumP.allO_mem s v' e' h
theorem sumP.allO_le {K K' : Kont} (hK : ∀ v h, K v h = true → K' v h = true) : ∀ {l : List (AV × Cut)}, sumP.allO l K = true → sumP.allO l K' = true
  | [], _ => rfl
  | (v, e) :: l, s => by
    unfold sumP.allO at s ⊢
    cases hb : K v e.st.h with
    | false => rw [hb] at s; cases s
    | true =>
      rw [hb, cond_true] at s
      rw [hK _ _ hb, cond_true]
      exact sumP.allO_le hK s

theorem sumP_mono (as : List AV) (c : Cut) (outs : List (AV × Cut)) : MonoP (sumP as c outs) := by
  intro call call' n args h K K' _ hK s
  unfold sumP at s ⊢
  cases hb : (sames args as && covers ⟨.lf, h⟩ c) with
  | false => rw [hb] at s; cases s
  | true =>
    rw [hb, cond_true] at s
    exact sumP.allO_le hK s

def noYield : List AV → Bool
  | [] => true
  | .fn (.yield _) _ _ :: _ => false
  | _ :: l => noYield l
theorem noYield_ok : ∀ {l : List AV}, noYield l = true → ∀ v ∈ l, ∀ id, v ≠ .fn (.yield id) [] []
  | [], _, _, h, _ => by cases h
  | a :: l, h, v, hv, id => by
    rcases List.mem_cons.1 hv with rfl | hv
    · intro e; subst e; cases h
    · refine noYield_ok (l := l) ?_ v hv id
      unfold noYield at h
      split at h
      · rename_i q; cases q
      · cases h
      · rename_i q; cases q; exact h

theorem sumP_ok {P : Program} {E : Env} (hmix : P.follows .mixedOrders = true) (hE : EnvOK P E) {f fuel : Nat} {as : List AV} {c : Cut} {outs : List (AV × Cut)} (hy : noYield as = true)
    (hrun : ∀ (h : AHeap) (K : Kont), covers ⟨.lf, h⟩ c = true → (∀ v e, (v, e) ∈ outs → K v e.st.h = true) → callN E fuel (.func f) as h K = true) : PrimOK P f (sumP as c outs) := by
  intro call n _ args h K hK
  unfold sumP at hK
  cases hb : (sames args as && covers ⟨.lf, h⟩ c) with
  | false => rw [hb] at hK; cases hK
  | true =>
    rw [hb, cond_true] at hK
    simp only [Bool.and_eq_true] at hb
    rw [sames_eq _ _ hb.1]
    exact ⟨noYield_ok hy, fun B φ w cargs H hA => FuncOK.lands (callN_sound hmix hE fuel (.func f) as h K (hrun h K hb.2 (sumP.allO_mem hK)) B φ w cargs H hA)⟩

/-- What is known of the heap alone, and of the arguments too. -/
theorem covers_args {h : AHeap} {c d : Cut} {ρ : Regs} (hc : covers ⟨.lf, h⟩ c = true) (e1 : d.os = c.os) (e2 : d.sz = c.sz) (hr : rsOk ρ d.rs = true) : covers ⟨ρ, h⟩ d = true := by
  unfold covers at hc ⊢
  rw [e1, e2]
  cases hb : Nat.ble h.sz c.sz with
  | false => rw [hb] at hc; cases hc
  | true =>
    rw [hb, cond_true] at hc
    rw [cond_true, hr, cond_true]
    cases hb2 : rsOk (.lf : Regs) c.rs with
    | false => rw [show rsOk (St.mk PT.lf h).regs c.rs = false from hb2] at hc; cases hc
    | true => rw [show rsOk (St.mk PT.lf h).regs c.rs = true from hb2, cond_true] at hc; exact hc

theorem callN_of_run2 {E : Env} (hp : PrimLe E) {f n : Nat} {fn : AFun} (hpr : E.prim f = none) (hf : E.code f = some fn) {as : List AV} (hn : Nat.beq as.length fn.np = true) (hpl : plainT fn.body = true) {h0 : AHeap} {K : Kont}
    (h : runC (callN E n) n fn.body ⟨initR 0 as .lf, h0⟩ (finK fn.res K) = true) : callN E (n + 1) (.func f) as h0 K = true := by
  simp only [callN, hpr, hf, hn, cond_true]
  exact runT_plain (callN_le hp n) hpl h
/-! ### Some calls of a function as what is said of them, the others as they are -/
theorem code_sound {P : Program} {E : Env} {call : CallFn} (hmix : P.follows .mixedOrders = true) (hE : EnvOK P E) (hcall : CallOK P call) (m : Nat) {f : Nat} {fn : AFun} (hf : E.code f = some fn) {args : List AV} {h : AHeap} {K : Kont}
    (hK : runT call (defN E call m) m fn.body [] ⟨initR 0 args .lf, h⟩ (fnEnd fn.res K) = true) {B : Base} {φ : Phi} {w : World} {cargs : List Value} (H : RelH P B φ h w) (hA : RelVs φ args cargs) : FuncOK P B φ w K f args cargs := by
  obtain ⟨F, hF, hc⟩ := hE.2 f fn hf
  unfold compFn at hc
  split at hc
  · cases hc
  · rename_i c hbody
    split at hc
    · rename_i x res hx hres
      cases hn : F.name == "runtime.NumGoroutine" with
      | true => rw [hn] at hc; cases hc
      | false =>
        rw [hn, cond_false] at hc
        obtain ⟨np', res', body'⟩ := fn
        simp only [stripF, Option.some.injEq, AFun.mk.injEq] at hc
        obtain ⟨e1, rfl, rfl⟩ := hc
        simp only at hK
        have hrun : (callFunc f ⟨cargs⟩).run P w = .ok (.enter f ⟨cargs⟩) w := by
          have hn' : F.name ≠ "runtime.NumGoroutine" := by simpa using hn
          simp [callFunc, Sem.run_bind, hF, hn', hbody]
        refine .inl ⟨hrun, fun n => ?_⟩
        refine callsIn_of_wp_marks hF hbody trivial ?_
        have A : At P B F.ntmps φ ⟨initR 0 args .lf, h⟩ { tmps := (⟨cargs⟩ : Array Value) ++ Array.replicate (F.ntmps - (⟨cargs⟩ : Array Value).size) undef, defers := [] } w := ⟨frame_regs hA _, H⟩
        refine runT_sound (S := w.heap.size) (w0 := w) (φ0 := φ) hmix hcall (defN_sound hmix hE hcall m) m (Nat.le_refl _) H.base (fnEnd res K) ?_ body' c hx [] _ φ _ w A ⟨Nat.le_refl _, .nil, fun _ => rfl, fun l e => by cases e⟩ φ.le_refl (Gw.refl B w) hK
        intro φ' μ σ' a' u w' k1 k2 k3 k4 k5
        cases k2 with
        | ret =>
          simp only [fnEnd] at k1
          split at k1
          · rename_i vs hvs
            obtain ⟨cv, e1, e2⟩ := results_sound k3 hres hvs
            exact ⟨cv, e1, .inl ⟨oneOf vs, σ'.h, cv, φ', rfl, k1, e2, k3.heap, k4, k5⟩⟩
          · cases k1
        | pan hv =>
          exact .inr ⟨_, σ'.h, _, φ', rfl, k1, hv, k3.heap, k4, k5⟩
    · cases hc

/-- One instance: arguments, what is known of the heap, the outcomes. -/
structure Inst where
  as : List AV
  c : Cut
  outs : List (AV × Cut)

def pickN (args : List AV) (h : AHeap) : List Inst → Option (List (AV × Cut))
  | [] => none
  | i :: l => bif sames args i.as && covers ⟨.lf, h⟩ i.c then some i.outs else pickN args h l

theorem pickN_some {args : List AV} {h : AHeap} {o : List (AV × Cut)} : ∀ {l : List Inst}, pickN args h l = some o → ∃ i ∈ l, o = i.outs ∧ args = i.as ∧ covers ⟨.lf, h⟩ i.c = true
  | [], e => by cases e
  | i :: l, e => by
    unfold pickN at e
    cases hb : (sames args i.as && covers ⟨.lf, h⟩ i.c) with
    | true =>
      rw [hb, cond_true] at e
      cases e
      simp only [Bool.and_eq_true] at hb
      exact ⟨i, by simp, rfl, sames_eq _ _ hb.1, hb.2⟩
    | false =>
      rw [hb, cond_false] at e
      obtain ⟨j, h1, h2⟩ := pickN_some e
      exact ⟨j, List.mem_cons_of_mem _ h1, h2⟩

/-- A call that is one of these instances: its outcomes; else the code. -/
def sumsP (E : Env) (fn : AFun) (l : List Inst) : Prim := fun call n args h K =>
  match pickN args h l with
  | some o => sumP.allO o K
  | none => bif noYield args && Nat.beq args.length fn.np then runT call (defN E call n) n fn.body [] ⟨initR 0 args .lf, h⟩ (fnEnd fn.res K) else false

theorem sumsP_mono (E : Env) (fn : AFun) (l : List Inst) : MonoP (sumsP E fn l) := by
  intro call call' n args h K K' hc hK s
  unfold sumsP at s ⊢
  cases hp : pickN args h l with
  | some o =>
    rw [hp] at s
    exact sumP.allO_le hK s
  | none =>
    rw [hp] at s
    simp only at s ⊢
    cases hb : (noYield args && Nat.beq args.length fn.np) with
    | false => rw [hb] at s; cases s
    | true =>
      rw [hb, cond_true] at s
      rw [cond_true]
      exact runT_le hc (defN_le hc n) s fun μ σ => fnEnd_le hK

theorem sumsP_ok {P : Program} {E : Env} (hmix : P.follows .mixedOrders = true) (hE : EnvOK P E) {f : Nat} {fn : AFun} (hf : E.code f = some fn) {l : List Inst} (fuel : Nat) (hy : ∀ i ∈ l, noYield i.as = true)
    (hrun : ∀ i ∈ l, ∀ (h : AHeap) (K : Kont), covers ⟨.lf, h⟩ i.c = true → (∀ v e, (v, e) ∈ i.outs → K v e.st.h = true) → callN E fuel (.func f) i.as h K = true) : PrimOK P f (sumsP E fn l) := by
  intro call n hcall args h K hK
  unfold sumsP at hK
  cases hp : pickN args h l with
  | some o =>
    rw [hp] at hK
    obtain ⟨i, hi, rfl, rfl, hc⟩ := pickN_some hp
    exact ⟨noYield_ok (hy i hi), fun B φ w cargs H hA => FuncOK.lands (callN_sound hmix hE fuel (.func f) i.as h K (hrun i hi h K hc (sumP.allO_mem hK)) B φ w cargs H hA)⟩
  | none =>
    rw [hp] at hK
    simp only at hK
    cases hb : (noYield args && Nat.beq args.length fn.np) with
    | false => rw [hb] at hK; cases hK
    | true =>
      rw [hb, cond_true] at hK
      simp only [Bool.and_eq_true] at hb
      exact ⟨noYield_ok hb.1, fun B φ w cargs H hA => FuncOK.lands (code_sound hmix hE hcall n hf hK H hA)⟩
/-! ### Instances, by closed runs -/
/-- One of these outcomes. -/
def chkO : List (AV × Cut) → Kont
  | [], _, _ => false
  | (u, e) :: l, v, h => bif AV.same v u && covers ⟨.lf, h⟩ e then true else chkO l v h

theorem chkO_some {v : AV} {h : AHeap} : ∀ {l : List (AV × Cut)}, chkO l v h = true → ∃ e, (v, e) ∈ l ∧ covers ⟨.lf, h⟩ e = true
  | [], s => by cases s
  | (u, e) :: l, s => by
    unfold chkO at s
    cases hb : (AV.same v u && covers ⟨.lf, h⟩ e) with
    | true =>
      simp only [Bool.and_eq_true] at hb
      rw [same_eq _ _ hb.1]
      exact ⟨e, by simp, hb.2⟩
    | false =>
      rw [hb, cond_false] at s
      obtain ⟨d, h1, h2⟩ := chkO_some s
      exact ⟨d, List.mem_cons_of_mem _ h1, h2⟩

theorem RelH.cover {P : Program} {B : Base} {φ : Phi} {h : AHeap} {w : World} (H : RelH P B φ h w) {c : Cut} (hc : covers ⟨.lf, h⟩ c = true) : RelH P B φ c.st.h w := by
  unfold covers at hc
  cases h1 : Nat.ble h.sz c.sz with
  | false => rw [show (St.mk PT.lf h).h.sz = h.sz from rfl, h1] at hc; cases hc
  | true =>
    rw [show (St.mk PT.lf h).h.sz = h.sz from rfl, h1, cond_true] at hc
    cases h2 : rsOk (.lf : Regs) c.rs with
    | false => rw [show rsOk (St.mk PT.lf h).regs c.rs = false from h2] at hc; cases hc
    | true =>
      rw [show rsOk (St.mk PT.lf h).regs c.rs = true from h2, cond_true] at hc
      exact H.less (nble_true.1 h1) (osOk_get hc)

theorem Ends.weaken {P : Program} {B : Base} {φ : Phi} {w : World} {K K' : Kont} (hK : ∀ v h, K v h = true → ∃ h', K' v h' = true ∧ ∀ φ' w', RelH P B φ' h w' → RelH P B φ' h' w') {e : Ending} {w' : World} (E : Ends P B φ w K e w') : Ends P B φ w K' e w' := by
  rcases E with ⟨v, h, cv, φ', e1, e2, e3, e4, e5, e6⟩ | ⟨v, h, cv, φ', e1, e2, e3, e4, e5, e6⟩
  · obtain ⟨h', k1, k2⟩ := hK _ _ e2
    exact .inl ⟨v, h', cv, φ', e1, k1, e3, k2 _ _ e4, e5, e6⟩
  · obtain ⟨h', k1, k2⟩ := hK _ _ e2
    exact .inr ⟨v, h', cv, φ', e1, k1, e3, k2 _ _ e4, e5, e6⟩

theorem Lands.weaken {P : Program} {B : Base} {φ : Phi} {w : World} {K K' : Kont} (hK : ∀ v h, K v h = true → ∃ h', K' v h' = true ∧ ∀ φ' w', RelH P B φ' h w' → RelH P B φ' h' w') {r : Result Next} (L : Lands P B φ w K r) : Lands P B φ w K' r := by
  unfold Lands at L ⊢
  split at L <;> try (simp only)
  · exact L.weaken hK
  · exact L.weaken hK
  · exact fun n => (L n).mono fun _ _ E => E.weaken hK
  · exact fun n => (L n).mono fun _ _ E => E.weaken hK
  · exact L.weaken hK
  · cases L

theorem instsP_ok {P : Program} {E : Env} (hmix : P.follows .mixedOrders = true) (hE : EnvOK P E) {f : Nat} {fn : AFun} (hf : E.code f = some fn) {l : List Inst} (fuel : Nat) (hy : ∀ i ∈ l, noYield i.as = true)
    (hrun : ∀ i ∈ l, callN E fuel (.func f) i.as i.c.st.h (chkO i.outs) = true) : PrimOK P f (sumsP E fn l) := by
  intro call n hcall args h K hK
  unfold sumsP at hK
  cases hp : pickN args h l with
  | some o =>
    rw [hp] at hK
    obtain ⟨i, hi, rfl, rfl, hc⟩ := pickN_some hp
    refine ⟨noYield_ok (hy i hi), fun B φ w cargs H hA => ?_⟩
    refine (FuncOK.lands (callN_sound hmix hE fuel (.func f) i.as i.c.st.h (chkO i.outs) (hrun i hi) B φ w cargs (H.cover hc) hA)).weaken fun v h' hv => ?_
    obtain ⟨e, he, hcov⟩ := chkO_some hv
    exact ⟨e.st.h, sumP.allO_mem hK v e he, fun φ' w' H' => H'.cover hcov⟩
  | none =>
    rw [hp] at hK
    simp only at hK
    cases hb : (noYield args && Nat.beq args.length fn.np) with
    | false => rw [hb] at hK; cases hK
    | true =>
      rw [hb, cond_true] at hK
      simp only [Bool.and_eq_true] at hb
      exact ⟨noYield_ok hb.1, fun B φ w cargs H hA => FuncOK.lands (code_sound hmix hE hcall n hf hK H hA)⟩
/-! ### Calls that hang on no memory, and whose results show none: what lies there stays as it is known -/
mutual
def AV.flat : AV → Bool
  | .bool _ | .int _ _ | .str _ | .nilPtr | .nilSlc | .nilMap | .nilFn | .nilIf => true
  | .agg l | .tup l => flats l
  | .ifc _ v => AV.flat v
  | _ => false
def flats : List AV → Bool
  | [] => true
  | v :: l => AV.flat v && flats l
end

mutual
theorem RelV.flat {φ ψ : Phi} : ∀ {a : AV} {v : Value}, a.flat = true → RelV φ a v → RelV ψ a v
  | _, _, _, .bool b => .bool b
  | _, _, _, .int k n => .int k n
  | _, _, _, .str h => .str h
  | _, _, h, .ptr _ _ => by cases h
  | _, _, _, .nilPtr => .nilPtr
  | _, _, h, .slc _ _ _ _ _ _ _ => by cases h
  | _, _, _, .nilSlc => .nilSlc
  | _, _, h, .emp => by cases h
  | _, _, h, .map _ => by cases h
  | _, _, _, .nilMap => .nilMap
  | _, _, h, .itr _ => by cases h
  | _, _, h, .func _ _ => by cases h
  | _, _, h, .yield _ => by cases h
  | _, _, _, .nilFn => .nilFn
  | _, _, h, .agg k => .agg (RelVs.flat (by simpa [AV.flat] using h) k)
  | _, _, h, .tup k => .tup (RelVs.flat (by simpa [AV.flat] using h) k)
  | _, _, _, .nilIf => .nilIf
  | _, _, h, .ifc k => .ifc (RelV.flat (by simpa [AV.flat] using h) k)
theorem RelVs.flat {φ ψ : Phi} : ∀ {l : List AV} {m : List Value}, flats l = true → RelVs φ l m → RelVs ψ l m
  | _, _, _, .nil => .nil
  | _, _, h, .cons k t => by
    simp only [flats, Bool.and_eq_true] at h
    exact .cons (RelV.flat h.1 k) (RelVs.flat h.2 t)
end

theorem flats_noYield : ∀ {l : List AV}, flats l = true → ∀ v ∈ l, ∀ id, v ≠ .fn (.yield id) [] []
  | [], _, v, hv, _ => by cases hv
  | a :: l, h, v, hv, id => by
    simp only [flats, Bool.and_eq_true] at h
    rcases List.mem_cons.1 hv with rfl | hv
    · intro e; subst e; have := h.1; simp [AV.flat] at this
    · exact flats_noYield h.2 v hv id

theorem Lands.imp {P : Program} {B B' : Base} {φ φ' : Phi} {w : World} {K K' : Kont} (hK : ∀ e w', Ends P B φ w K e w' → Ends P B' φ' w K' e w') {r : Result Next} (L : Lands P B φ w K r) : Lands P B' φ' w K' r := by
  unfold Lands at L ⊢
  split at L <;> try (simp only)
  · exact hK _ _ L
  · exact hK _ _ L
  · exact fun n => (L n).mono fun _ _ E => hK _ _ E
  · exact fun n => (L n).mono fun _ _ E => hK _ _ E
  · exact hK _ _ L
  · cases L

def pickF (args : List AV) : List (List AV × AV) → Option AV
  | [] => none
  | (a, v) :: l => bif sames args a then some v else pickF args l
theorem pickF_some {args : List AV} {v : AV} : ∀ {l : List (List AV × AV)}, pickF args l = some v → (args, v) ∈ l
  | [], e => by cases e
  | (a, u) :: l, e => by
    unfold pickF at e
    cases hb : sames args a with
    | true => rw [hb, cond_true] at e; cases e; rw [sames_eq _ _ hb]; simp
    | false => rw [hb, cond_false] at e; exact List.mem_cons_of_mem _ (pickF_some e)

/-- A call that is one of these: what it says; else the code. -/
def flatP (E : Env) (fn : AFun) (l : List (List AV × AV)) : Prim := fun call n args h K =>
  match pickF args l with
  | some v => K v h
  | none => bif noYield args && Nat.beq args.length fn.np then runT call (defN E call n) n fn.body [] ⟨initR 0 args .lf, h⟩ (fnEnd fn.res K) else false

theorem flatP_mono (E : Env) (fn : AFun) (l : List (List AV × AV)) : MonoP (flatP E fn l) := by
  intro call call' n args h K K' hc hK s
  unfold flatP at s ⊢
  cases hp : pickF args l with
  | some o =>
    rw [hp] at s
    exact hK _ _ s
  | none =>
    rw [hp] at s
    simp only at s ⊢
    cases hb : (noYield args && Nat.beq args.length fn.np) with
    | false => rw [hb] at s; cases s
    | true =>
      rw [hb, cond_true] at s
      rw [cond_true]
      exact runT_le hc (defN_le hc n) s fun μ σ => fnEnd_le hK

theorem flatP_ok {P : Program} {E : Env} (hmix : P.follows .mixedOrders = true) (hE : EnvOK P E) {f : Nat} {fn : AFun} (hf : E.code f = some fn) {l : List (List AV × AV)} (fuel : Nat) (hy : ∀ i ∈ l, flats i.1 = true ∧ i.2.flat = true)
    (hrun : ∀ i ∈ l, callN E fuel (.func f) i.1 AHeap.empty (fun v _ => AV.same v i.2) = true) : PrimOK P f (flatP E fn l) := by
  intro call n hcall args h K hK
  unfold flatP at hK
  cases hp : pickF args l with
  | some v =>
    rw [hp] at hK
    have hi := pickF_some hp
    obtain ⟨f1, f2⟩ := hy _ hi
    refine ⟨flats_noYield f1, fun B φ w cargs H hA => ?_⟩
    refine (FuncOK.lands (callN_sound hmix hE fuel (.func f) args AHeap.empty _ (hrun _ hi) _ _ w cargs (relH_empty w) (RelVs.flat f1 hA))).imp fun e w' E => ?_
    rcases E with ⟨u, h', cv, φ', e1, e2, e3, e4, e5, e6⟩ | ⟨u, h', cv, φ', e1, e2, e3, e4, e5, e6⟩
    · rw [same_eq _ _ e2] at e3
      refine .inl ⟨v, h, cv, φ, e1, hK, RelV.flat f2 e3, H.keep e6.size fun id g L hL => e6.below _ (H.lt id g L hL), φ.le_refl, ⟨e6.os, e6.tape, e6.output, e6.size, fun k hk => e6.below k (Nat.lt_of_lt_of_le hk H.base), e6.defd, e6.loops⟩⟩
    · have := same_eq _ _ e2
      simp only at this
      rw [← this] at f2
      simp [AV.flat] at f2
  | none =>
    rw [hp] at hK
    simp only at hK
    cases hb : (noYield args && Nat.beq args.length fn.np) with
    | false => rw [hb] at hK; cases hK
    | true =>
      rw [hb, cond_true] at hK
      simp only [Bool.and_eq_true] at hb
      exact ⟨noYield_ok hb.1, fun B φ w cargs H hA => FuncOK.lands (code_sound hmix hE hcall n hf hK H hA)⟩
end
end Go.Ab
