/-
  A run in the kernel, in parts: loops with states at their heads and ends, each head's rounds a run of their own; a function's whole run as what is said of it (a prim).
-/
import Derived.Test.YtgdccjbnakolmaaGreatDoorAbRun
namespace Go.Ab
noncomputable section
set_option linter.unusedSimpArgs false
set_option linter.unusedVariables false

/-- Which of these states is one of which less is known. -/
def pickI (σ : St) : List Cut → Nat → Option Nat
  | [], _ => none
  | c :: l, i => bif covers σ c then some i else pickI σ l (i + 1)

theorem pickI_some {σ : St} : ∀ {l : List Cut} {i j : Nat}, pickI σ l i = some j → i ≤ j ∧ ∃ c, l[j - i]? = some c ∧ pickC σ l = some c
  | [], i, j, h => by cases h
  | c :: l, i, j, h => by
    unfold pickI at h
    unfold pickC
    cases hb : covers σ c with
    | true =>
      rw [hb, cond_true] at h
      cases h
      exact ⟨Nat.le_refl _, c, by simp, by rw [cond_true]⟩
    | false =>
      rw [hb, cond_false] at h
      obtain ⟨h1, d, h2, h3⟩ := pickI_some h
      refine ⟨by omega, d, ?_, by rw [cond_false]; exact h3⟩
      have : j - i = j - (i + 1) + 1 := by omega
      rw [this, List.getElem?_cons_succ]; exact h2

theorem pickI_none {σ : St} : ∀ {l : List Cut} {i : Nat}, pickI σ l i = none → pickC σ l = none
  | [], i, h => rfl
  | c :: l, i, h => by
    unfold pickI at h
    unfold pickC
    cases hb : covers σ c with
    | true => rw [hb, cond_true] at h; cases h
    | false => rw [hb, cond_false] at h; exact pickI_none h

def isS (o : Option Nat) : Bool := match o with
  | some _ => true
  | none => false

/-- Rounds of a loop to a head that stands behind this one, or out of it. -/
def iterS (f : St → KEx → Bool) (hd en : List Cut) (i lp : Nat) : Nat → St → Bool
  | 0, _ => false
  | m + 1, σ => f σ fun x σ' => match x with
    | .normal => (match pickI σ' hd 0 with
      | some j => Nat.blt i j
      | none => iterS f hd en i lp m σ')
    | .exit k => bif Nat.beq k lp then isS (pickI σ' en 0) else false
    | _ => false

section
variable {call call' : CallFn} {n M lp : Nat} {body r : ACode} {hd en : List Cut} {K : KEx}

theorem iter_parts (hc : Le call call') (hb : ∀ (i : Nat) (c : Cut), hd[i]? = some c → iterS (runC call n body) hd en i lp M c.st = true) (hK : ∀ σ, isS (pickI σ en 0) = true → K (.exit lp) σ = true) :
    ∀ d i, hd.length ≤ i + d → ∀ m σ, pickI σ hd 0 = some i → M * d ≤ m → iter (runC call' n (.cut hd body)) K m σ = true := by
  intro d
  induction d with
  | zero =>
    intro i hi m σ hp _
    obtain ⟨_, c, h2, _⟩ := pickI_some hp
    have := (List.getElem?_eq_some_iff.1 h2).1
    omega
  | succ d ih =>
    intro i hi m σ hp hm
    obtain ⟨_, c, h2, h3⟩ := pickI_some hp
    rw [Nat.sub_zero] at h2
    -- the rounds of this head
    have inner : ∀ k m σ0, M * d + k ≤ m → iterS (runC call n body) hd en i lp k σ0 = true →
        ∃ m', m = m' + 1 ∧ runC call' n body σ0 (fun x σ' => match x with | .normal => iter (runC call' n (.cut hd body)) K m' σ' | x => K x σ') = true := by
      intro k
      induction k with
      | zero => intro m σ0 _ h; cases h
      | succ k ihk =>
        intro m σ0 hm h
        obtain ⟨m', rfl⟩ : ∃ m', m = m' + 1 := ⟨m - 1, by omega⟩
        refine ⟨m', rfl, ?_⟩
        refine runC_le hc h fun x σ' hx => ?_
        cases x with
        | normal =>
          show iter (runC call' n (.cut hd body)) K m' σ' = true
          have hx : (match pickI σ' hd 0 with | some j => Nat.blt i j | none => iterS (runC call n body) hd en i lp k σ') = true := hx
          cases hq : pickI σ' hd 0 with
          | some j =>
            rw [hq] at hx
            have hx : i < j := nblt_true.1 hx
            exact ih j (by omega) m' σ' hq (by omega)
          | none =>
            rw [hq] at hx
            obtain ⟨m2, rfl, h4⟩ := ihk m' σ' (by omega) hx
            simp only [iter, runC, pickI_none hq]
            exact h4
        | exit e =>
          show K (.exit e) σ' = true
          have hx : (bif Nat.beq e lp then isS (pickI σ' en 0) else false) = true := hx
          cases hq : Nat.beq e lp with
          | false => rw [hq] at hx; cases hx
          | true =>
            rw [hq, cond_true] at hx
            rw [Nat.eq_of_beq_eq_true hq]
            exact hK σ' hx
        | _ => cases hx
    obtain ⟨m', rfl, h4⟩ := inner M m c.st (by rw [Nat.mul_succ] at hm; exact hm) (hb i c h2)
    simp only [iter, runC, h3]
    exact h4

def chkH (hd : List Cut) : KEx := fun x σ => match x with
  | .normal => isS (pickI σ hd 0)
  | _ => false

/-- Statements, then a loop, then what comes behind it. -/
theorem loop_parts (hc : Le call call') {g : List ACode} {pre : ACode} {σ : St} (h1 : runC call n (seqs g pre) σ (chkH hd) = true) (hb : ∀ (i : Nat) (c : Cut), hd[i]? = some c → iterS (runC call n body) hd en i lp M c.st = true) (hn : M * hd.length ≤ n)
    (hr : ∀ (i : Nat) (c : Cut), en[i]? = some c → runC call' n r c.st K = true) :
    runC call' n (seqs g (.seq (.seq pre (.block lp (.loop (.cut hd body)))) (.cut en r))) σ K = true := by
  rw [seqs_run] at h1 ⊢
  refine runC_le hc h1 fun x σ' hx => ?_
  cases x <;> first | (cases hx; done) | skip
  have hx : runC call n pre σ' (chkH hd) = true := hx
  simp only [runC]
  refine runC_le hc hx fun x σ2 hx => ?_
  cases x <;> first | (cases hx; done) | skip
  have hx : isS (pickI σ2 hd 0) = true := hx
  simp only [runC]
  cases hq : pickI σ2 hd 0 with
  | none => rw [hq] at hx; cases hx
  | some i =>
    refine iter_parts (lp := lp) (en := en) hc hb (fun σ3 h3 => ?_) hd.length i (by omega) n σ2 hq hn
    simp only [Nat.beq_refl, cond_true]
    cases hp : pickI σ3 en 0 with
    | none => rw [hp] at h3; cases h3
    | some j =>
      obtain ⟨_, c, h4, h5⟩ := pickI_some hp
      rw [Nat.sub_zero] at h4
      simp only [h5]
      exact hr j c h4

theorem cut_parts (hc : Le call call') {g : List ACode} {σ : St} (h1 : runC call n (seqs g .skip) σ (chkH en) = true) (hr : ∀ (i : Nat) (c : Cut), en[i]? = some c → runC call' n r c.st K = true) :
    runC call' n (seqs g (.cut en r)) σ K = true := by
  rw [seqs_run]
  refine runC_le hc h1 fun x σ' hx => ?_
  cases x <;> first | (cases hx; done) | skip
  have hx : isS (pickI σ' en 0) = true := hx
  simp only [runC]
  cases hp : pickI σ' en 0 with
  | none => rw [hp] at hx; cases hx
  | some j =>
    obtain ⟨_, c, h4, h5⟩ := pickI_some hp
    rw [Nat.sub_zero] at h4
    simp only [h5]
    exact hr j c h4

theorem first_part {c : Cut} {σ : St} (hcov : covers σ c = true) (h : runC call n r c.st K = true) : runC call n (.cut [c] r) σ K = true := by
  simp only [runC, pickC, hcov, cond_true]
  exact h
end

/-- Each head's rounds. -/
def AllH (f : St → KEx → Bool) (hd en : List Cut) (lp M : Nat) : List Cut → Nat → Prop
  | [], _ => True
  | c :: l, i => iterS f hd en i lp M c.st = true ∧ AllH f hd en lp M l (i + 1)
theorem AllH.get {f : St → KEx → Bool} {hd en : List Cut} {lp M : Nat} : ∀ {l : List Cut} {k : Nat}, AllH f hd en lp M l k → ∀ (i : Nat) (c : Cut), l[i]? = some c → iterS f hd en (k + i) lp M c.st = true
  | [], _, _, i, c, h => by simp at h
  | d :: l, k, ⟨h1, h2⟩, 0, c, h => by simp at h; subst h; exact h1
  | d :: l, k, ⟨h1, h2⟩, i + 1, c, h => by
    have := AllH.get h2 i c (by simpa using h)
    rwa [show k + 1 + i = k + (i + 1) by omega] at this
theorem AllH.all {f : St → KEx → Bool} {hd en : List Cut} {lp M : Nat} (h : AllH f hd en lp M hd 0) : ∀ (i : Nat) (c : Cut), hd[i]? = some c → iterS f hd en i lp M c.st = true := fun i c hi => by
  have := h.get i c hi
  rwa [Nat.zero_add] at this
/-- What is so of each of these. -/
def AllE (p : Cut → Prop) : List Cut → Prop
  | [] => True
  | c :: l => p c ∧ AllE p l
theorem AllE.get {p : Cut → Prop} : ∀ {l : List Cut}, AllE p l → ∀ (i : Nat) (c : Cut), l[i]? = some c → p c
  | [], _, i, c, h => by simp at h
  | d :: l, ⟨h1, h2⟩, 0, c, h => by simp at h; subst h; exact h1
  | d :: l, ⟨h1, h2⟩, i + 1, c, h => AllE.get h2 i c (by simpa using h)

/-! ### A function's run as what is said of it -/
/-- These arguments, a heap of which as much is known: one of these results, each with what is known then. -/
def sumP (as : List AV) (c : Cut) (outs : List (AV × Cut)) : Prim := fun _ _ args h K =>
  bif sames args as && covers ⟨.lf, h⟩ c then allO outs K else false
where
  allO : List (AV × Cut) → Kont → Bool
  | [], _ => true
  | (v, e) :: l, K => bif K v e.st.h then allO l K else false

theorem sumP.allO_mem : ∀ {l : List (AV × Cut)} {K : Kont}, sumP.allO l K = true → ∀ v e, (v, e) ∈ l → K v e.st.h = true
  | [], _, _, _, _, h => by cases h
  | (v, e) :: l, K, s, v', e', h => by
    unfold sumP.allO at s
    cases hb : K v e.st.h with
    | false => rw [hb] at s; cases s
    | true =>
      rw [hb, cond_true] at s
      rcases List.mem_cons.1 h with q | h
      · cases q; exact hb
      · exact sumP.allO_mem s v' e' h
theorem sumP.allO_le {K K' : Kont} (hK : ∀ v h, K v h = true → K' v h = true) : ∀ {l : List (AV × Cut)}, sumP.allO l K = true → sumP.allO l K' = true
  | [], _ => rfl
  | (v, e) :: l, s => by
    unfold sumP.allO at s ⊢
    cases hb : K v e.st.h with
    | false => rw [hb] at s; cases s
    | true =>
      rw [hb, cond_true] at s
      rw [hK _ _ hb, cond_true]
      exact sumP.allO_le hK s

theorem sumP_mono (as : List AV) (c : Cut) (outs : List (AV × Cut)) : MonoP (sumP as c outs) := by
  intro call call' n args h K K' _ hK s
  unfold sumP at s ⊢
  cases hb : (sames args as && covers ⟨.lf, h⟩ c) with
  | false => rw [hb] at s; cases s
  | true =>
    rw [hb, cond_true] at s
    exact sumP.allO_le hK s

def noYield : List AV → Bool
  | [] => true
  | .fn (.yield _) _ _ :: _ => false
  | _ :: l => noYield l
theorem noYield_ok : ∀ {l : List AV}, noYield l = true → ∀ v ∈ l, ∀ id, v ≠ .fn (.yield id) [] []
  | [], _, _, h, _ => by cases h
  | a :: l, h, v, hv, id => by
    rcases List.mem_cons.1 hv with rfl | hv
    · intro e; subst e; cases h
    · refine noYield_ok (l := l) ?_ v hv id
      unfold noYield at h
      split at h
      · rename_i q; cases q
      · cases h
      · rename_i q; cases q; exact h

theorem sumP_ok {P : Program} {E : Env} (hmix : P.follows .mixedOrders = true) (hE : EnvOK P E) {f fuel : Nat} {as : List AV} {c : Cut} {outs : List (AV × Cut)} (hy : noYield as = true)
    (hrun : ∀ (h : AHeap) (K : Kont), covers ⟨.lf, h⟩ c = true → (∀ v e, (v, e) ∈ outs → K v e.st.h = true) → callN E fuel (.func f) as h K = true) : PrimOK P f (sumP as c outs) := by
  intro call n _ args h K hK
  unfold sumP at hK
  cases hb : (sames args as && covers ⟨.lf, h⟩ c) with
  | false => rw [hb] at hK; cases hK
  | true =>
    rw [hb, cond_true] at hK
    simp only [Bool.and_eq_true] at hb
    rw [sames_eq _ _ hb.1]
    exact ⟨noYield_ok hy, fun B φ w cargs H hA => FuncOK.lands (callN_sound hmix hE fuel (.func f) as h K (hrun h K hb.2 (sumP.allO_mem hK)) B φ w cargs H hA)⟩

/-- What is known of the heap alone, and of the arguments too. -/
theorem covers_args {h : AHeap} {c d : Cut} {ρ : Regs} (hc : covers ⟨.lf, h⟩ c = true) (e1 : d.os = c.os) (e2 : d.sz = c.sz) (hr : rsOk ρ d.rs = true) : covers ⟨ρ, h⟩ d = true := by
  unfold covers at hc ⊢
  rw [e1, e2]
  cases hb : Nat.ble h.sz c.sz with
  | false => rw [hb] at hc; cases hc
  | true =>
    rw [hb, cond_true] at hc
    rw [cond_true, hr, cond_true]
    cases hb2 : rsOk (.lf : Regs) c.rs with
    | false => rw [show rsOk (St.mk PT.lf h).regs c.rs = false from hb2] at hc; cases hc
    | true => rw [show rsOk (St.mk PT.lf h).regs c.rs = true from hb2, cond_true] at hc; exact hc

theorem callN_of_run2 {E : Env} (hp : PrimLe E) {f n : Nat} {fn : AFun} (hpr : E.prim f = none) (hf : E.code f = some fn) {as : List AV} (hn : Nat.beq as.length fn.np = true) (hpl : plainT fn.body = true) {h0 : AHeap} {K : Kont}
    (h : runC (callN E n) n fn.body ⟨initR 0 as .lf, h0⟩ (finK fn.res K) = true) : callN E (n + 1) (.func f) as h0 K = true := by
  simp only [callN, hpr, hf, hn, cond_true]
  exact runT_plain (callN_le hp n) hpl h
end
end Go.Ab
