/-
  Code, and calls of functions: whatever the abstract machine says well of, the model's machine does.
-/
import Derived.Test.YtgmdelacokkenaaGreatDoorAbLoop
import Derived.LoopNIn
import Derived.RecoverIn
namespace Go.Ab
noncomputable section
set_option linter.unusedSimpArgs false
set_option linter.unusedVariables false

/-- What is asked where a piece of code is done. -/
def Then (P : Program) (B : Base) (N S : Nat) (r : Option Nat) (pend : List (AV × List AV)) (mk : Bool) (φ : Phi) (w : World) (K : KEx) (Q : Exit → Act → World → Prop) : Prop :=
  ∀ ex ex' σ' a' w' φ', K ex σ' = true → ExRel φ' ex ex' → At P B N φ' σ' a' w' → Okay S r pend mk φ' w' a' → φ.le φ' → Gw B w w' → Q ex' a' w'

section
variable {P : Program} {B : Base} {N S n : Nat} {call : CallFn} {r : Option Nat} {pend : List (AV × List AV)} {mk : Bool}

theorem Then.later {φ φ' : Phi} {w w' : World} {K : KEx} {Q : Exit → Act → World → Prop} (h : Then P B N S r pend mk φ w K Q) (hle : φ.le φ') (hg : Gw B w w') : Then P B N S r pend mk φ' w' K Q :=
  fun ex ex' σ2 a2 w2 φ2 k1 kE k2 k3 k4 k5 => h ex ex' σ2 a2 w2 φ2 k1 kE k2 k3 (Phi.le_trans hle k4) (hg.trans k5)

def CodeOK (P : Program) (B : Base) (N S n : Nat) (call : CallFn) (r : Option Nat) (pend : List (AV × List AV)) (mk : Bool) (m : Nat) (c : Code) (x : ACode) : Prop :=
  (mk = true ∨ noRf x = true) → ∀ (σ : St) (K : KEx) (φ : Phi) (a : Act) (w : World) (Q : Exit → Act → World → Prop), At P B N φ σ a w → Okay S r pend mk φ w a → runC call m x σ K = true → Then P B N S r pend mk φ w K Q → c.wpIn (FW r) n P Q a w

theorem rounds_sound {m : Nat} {c : Code} {x : ACode} (hc : CodeOK P B N S n call r pend mk m c x) (hm : mk = true ∨ noRf x = true) : ∀ (k : Nat) (σ : St) (K : KEx) (φ : Phi) (a : Act) (w : World) (Q : Exit → Act → World → Prop), At P B N φ σ a w → Okay S r pend mk φ w a → iter (runC call m x) K k σ = true → Then P B N S r pend mk φ w K Q → Code.roundsIn (FW r) n P c Q k a w
  | 0, σ, K, φ, a, w, Q, A, O, hr, hQ => by simp [iter] at hr
  | k + 1, σ, K, φ, a, w, Q, A, O, hr, hQ => by
    simp only [iter] at hr
    rw [roundsIn_succ]
    refine hc hm σ _ φ a w _ A O hr ?_
    intro ex ex' σ' a' w' φ' k1 kE k2 k3 k4 k5
    cases kE with
    | normal => exact rounds_sound hc hm k σ' K φ' a' w' Q k2 k3 k1 (hQ.later k4 k5)
    | ret => exact hQ .ret _ σ' a' w' φ' k1 .ret k2 k3 k4 k5
    | exit id => exact hQ (.exit id) _ σ' a' w' φ' k1 (.exit id) k2 k3 k4 k5
    | goto l => exact hQ (.goto l) _ σ' a' w' φ' k1 (.goto l) k2 k3 k4 k5
    | panic h => exact hQ _ _ σ' a' w' φ' k1 (.panic h) k2 k3 k4 k5

/-! ### What a piece of code was made of -/
theorem compDreg_is {as : List AOper} {ops : Array Oper} {x : ACode} (h : compDreg as ops = some x) : ∃ n0 rest, x = .dreg n0 rest := by
  obtain ⟨l0, pl, hok, e⟩ := compDreg_spec h
  exact ⟨_, _, e⟩

theorem comp_inv {c : Code} {y : ACode} (h : comp P N c = some y) :
    match y with
    | .skip => c = .skip
    | .reg as => ∃ id ops, c = .region id ops false ∧ compOpers P N ops ops.toList = some as
    | .dreg n0 rest => ∃ id ops as, c = .region id ops true ∧ compOpers P N ops ops.toList = some as ∧ compDreg as ops = some (.dreg n0 rest)
    | .seq a b => ∃ c1 c2, c = .seq c1 c2 ∧ comp P N c1 = some a ∧ comp P N c2 = some b
    | .cond o a b => ∃ p c1 c2, c = .cond p c1 c2 ∧ opdOf p = some o ∧ comp P N c1 = some a ∧ comp P N c2 = some b
    | .block id a => ∃ c1, c = .block id c1 ∧ comp P N c1 = some a
    | .loop a => ∃ c1, c = .loop c1 ∧ comp P N c1 = some a
    | .rf f ps a b => ∃ g ps' c1 c2, c = .rangeFunc g ps' c1 c2 ∧ opdOf g = some f ∧ ps = ps'.toList ∧ comp P N c1 = some a ∧ comp P N c2 = some b ∧ ps'.toList.all (Nat.blt · N) = true
    | .exit id => c = .exit id
    | .scope a l r => ∃ c1, c = .scope c1 ∧ comp P N c1 = some a ∧ findLabelA a l = some r
    | .label l => c = .label l
    | .goto l => c = .goto l
    | .ret => c = .ret
    | .refuse => ∃ why, c = .refuse why
    | .keep _ _ => False
    | .cut _ _ => False := by
  cases c with
  | skip => simp only [comp] at h; cases h; rfl
  | region id ops draw =>
    simp only [comp] at h
    split at h
    · rename_i as has
      cases draw with
      | true =>
        simp only [cond_true] at h
        obtain ⟨n0, rest, rfl⟩ := compDreg_is h
        exact ⟨id, ops, as, rfl, has, h⟩
      | false => simp only [cond_false] at h; cases h; exact ⟨id, ops, rfl, has⟩
    · cases h
  | seq a b =>
    simp only [comp] at h
    split at h
    · rename_i x y h1 h2; cases h; exact ⟨a, b, rfl, h1, h2⟩
    · cases h
  | cond o a b =>
    simp only [comp] at h
    split at h
    · rename_i p x y h0 h1 h2; cases h; exact ⟨o, a, b, rfl, h0, h1, h2⟩
    · cases h
  | block id a =>
    simp only [comp] at h
    split at h
    · rename_i x h1; cases h; exact ⟨a, rfl, h1⟩
    · cases h
  | loop a =>
    simp only [comp] at h
    split at h
    · rename_i x h1; cases h; exact ⟨a, rfl, h1⟩
    · cases h
  | rangeFunc g ps a b =>
    simp only [comp] at h
    split at h
    · rename_i f x y h0 h1 h2
      cases hps : ps.toList.all (Nat.blt · N) with
      | false => rw [hps] at h; cases h
      | true => rw [hps, cond_true] at h; cases h; exact ⟨g, ps, a, b, rfl, h0, rfl, h1, h2, hps⟩
    · cases h
  | exit id => simp only [comp] at h; cases h; rfl
  | scope a =>
    simp only [comp] at h
    split at h
    · rename_i x h1
      split at h
      · rename_i l hl
        split at h
        · rename_i r hr; cases h; exact ⟨a, rfl, h1, hr⟩
        · cases h
      · cases h
    · cases h
  | label l => simp only [comp] at h; cases h; rfl
  | goto l => simp only [comp] at h; cases h; rfl
  | ret => simp only [comp] at h; cases h; rfl
  | refuse why => simp only [comp] at h; cases h; exact ⟨why, rfl⟩

theorem findLabel_comp {l : Nat} : ∀ {c : Code} {x : ACode}, comp P N c = some x →
    match findLabelA x l with
    | some r => ∃ rest, findLabel c l = some rest ∧ comp P N rest = some r
    | none => findLabel c l = none := by
  intro c
  induction c with
  | seq a b iha ihb =>
    intro x h
    obtain ⟨y, z, hy, hz, rfl⟩ : ∃ y z, comp P N a = some y ∧ comp P N b = some z ∧ x = .seq y z := by
      simp only [comp] at h
      split at h
      · rename_i y z h1 h2; cases h; exact ⟨y, z, h1, h2, rfl⟩
      · cases h
    have ha := iha hy
    have hb := ihb hz
    simp only [findLabelA, findLabel]
    cases hfa : findLabelA y l with
    | some r =>
      rw [hfa] at ha
      obtain ⟨rest, e1, e2⟩ := ha
      simp only [e1]
      exact ⟨_, rfl, by simp only [comp, e2, hz]⟩
    | none =>
      rw [hfa] at ha
      simp only at ha
      simp only [ha]
      exact hb
  | label l' =>
    intro x h
    simp only [comp] at h; cases h
    simp only [findLabelA, findLabel]
    by_cases e : l' = l
    · subst e; simp [comp]
    · simp [e]
  | _ =>
    intro x h
    have hx := comp_inv h
    cases x <;> first | (exact hx.elim) | (simp only at hx; done) | skip
    all_goals first
      | (simp only [findLabelA, findLabel]; done)
      | (exfalso; simp only at hx; (repeat (first | (obtain ⟨_, hx⟩ := hx))); cases hx; done)
      | (exfalso; simp only at hx; obtain ⟨_, _, _, hx, _⟩ := hx; cases hx; done)
      | (exfalso; simp only at hx; obtain ⟨_, _, hx, _⟩ := hx; cases hx; done)
      | (exfalso; simp only at hx; obtain ⟨_, hx, _⟩ := hx; cases hx; done)
      | (exfalso; simp only at hx; cases hx; done)
      | simp [findLabelA, findLabel]

theorem jumps_sound {m l : Nat} {rest : Code} {x : ACode} (hc : CodeOK P B N S n call r pend mk m rest x) (hm : mk = true ∨ noRf x = true) : ∀ (k : Nat) (σ : St) (K : KEx) (φ : Phi) (a : Act) (w : World) (Q : Exit → Act → World → Prop), At P B N φ σ a w → Okay S r pend mk φ w a → iterG l (runC call m x) K k σ = true → Then P B N S r pend mk φ w K Q → Code.jumpsIn (FW r) n P rest l Q k a w
  | 0, σ, K, φ, a, w, Q, A, O, hr, hQ => by simp [iterG] at hr
  | k + 1, σ, K, φ, a, w, Q, A, O, hr, hQ => by
    simp only [iterG] at hr
    show rest.wpIn (FW r) n P (Exit.jumpIn l (Code.jumpsIn (FW r) n P rest l Q k) Q) a w
    refine hc hm σ _ φ a w _ A O hr ?_
    intro ex ex' σ' a' w' φ' k1 kE k2 k3 k4 k5
    cases kE with
    | normal => exact hQ .normal _ σ' a' w' φ' k1 .normal k2 k3 k4 k5
    | ret => exact hQ .ret _ σ' a' w' φ' k1 .ret k2 k3 k4 k5
    | exit id => exact hQ (.exit id) _ σ' a' w' φ' k1 (.exit id) k2 k3 k4 k5
    | panic h => exact hQ _ _ σ' a' w' φ' k1 (.panic h) k2 k3 k4 k5
    | goto l' =>
      simp only at k1
      cases hb : Nat.beq l' l with
      | false => rw [hb] at k1; cases k1
      | true =>
        rw [hb] at k1
        exact ⟨Nat.eq_of_beq_eq_true hb, jumps_sound hc hm k σ' K φ' a' w' Q k2 k3 k1 (hQ.later k4 k5)⟩

theorem At.keep {φ : Phi} {σ : St} {a : Act} {w : World} (A : At P B N φ σ a w) (ks : List Nat) : At P B N φ ⟨keepR ks σ.regs, σ.h⟩ a w := by
  refine ⟨⟨A.regs.1, fun t v ht => A.regs.2 t v ?_⟩, A.heap⟩
  simp only at ht
  revert ht
  induction ks with
  | nil => intro ht; simp only [keepR] at ht; rw [PT.get_lf] at ht; cases ht
  | cons k ks ih =>
    intro ht
    simp only [keepR] at ht
    split at ht
    · rename_i u hu
      rw [PT.get_set] at ht
      split at ht
      · rename_i e; subst e; cases ht; exact hu
      · exact ih ht
    · exact ih ht

theorem rsOk_get {ρ : Regs} : ∀ {l : List (Nat × AV)}, rsOk ρ l = true → ∀ k v, (regsT l).get k = some v → ρ.get k = some v
  | [], _, k, v, h => by rw [show regsT [] = .lf from rfl, PT.get_lf] at h; cases h
  | (j, u) :: l, hs, k, v, h => by
    simp only [rsOk] at hs
    split at hs
    · rename_i x hx
      cases hb : AV.same x u with
      | false => rw [hb] at hs; cases hs
      | true =>
        rw [hb, cond_true] at hs
        simp only [regsT, PT.get_set] at h
        split at h
        · rename_i e; subst e; cases h; rw [hx, same_eq _ _ hb]
        · exact rsOk_get hs k v h
    · cases hs
theorem elsSame_eq : ∀ (l m : List (List AV)), elsSame l m = true → l = m
  | [], [], _ => rfl
  | a :: l, b :: m, h => by
    simp only [elsSame] at h
    cases hb : sames a b with
    | false => rw [hb] at h; cases h
    | true => rw [hb, cond_true] at h; rw [sames_eq _ _ hb, elsSame_eq l m h]
  | [], _ :: _, h => by cases h
  | _ :: _, [], h => by cases h
theorem entsSame_eq : ∀ (l m : List (AV × AV × Nat)), entsSame l m = true → l = m
  | [], [], _ => rfl
  | (a, b, n) :: l, (a', b', n') :: m, h => by
    simp only [entsSame] at h
    cases hb : (AV.same a a' && AV.same b b' && Nat.beq n n') with
    | false => rw [hb] at h; cases h
    | true =>
      rw [hb, cond_true] at h
      simp only [Bool.and_eq_true, nbeq_true] at hb
      rw [same_eq _ _ hb.1.1, same_eq _ _ hb.1.2, hb.2, entsSame_eq l m h]
  | [], _ :: _, h => by cases h
  | _ :: _, [], h => by cases h
theorem tySame_eq : ∀ (a b : Option Nat), tySame a b = true → a = b
  | none, none, _ => rfl
  | some a, some b, h => by rw [Nat.eq_of_beq_eq_true h]
  | none, some _, h => by cases h
  | some _, none, h => by cases h
theorem objSame_eq {o : AObj} {c : CObj} (h : objSame o c = true) : o = c.obj := by
  unfold objSame at h
  split at h
  · split at h
    · rename_i r
      simp only [Bool.and_eq_true, nbeq_true, beq_iff_eq] at h
      obtain ⟨⟨⟨⟨⟨h1, h2⟩, h3⟩, h4⟩, h5⟩, h6⟩ := h
      obtain ⟨es, sz, g, m, rw', ty⟩ := r
      simp only at h1 h2 h3 h4 h5 h6
      rw [elsSame_eq _ _ h1, h2, h3, h4, h5, tySame_eq _ _ h6]
      rfl
    · cases h
  · split at h
    · simp only [Bool.and_eq_true, nbeq_true] at h
      rw [entsSame_eq _ _ h.1, h.2]
      rfl
    · cases h
  · split at h
    · rw [Nat.eq_of_beq_eq_true h]
      rfl
    · cases h
theorem osOk_get {h : AHeap} {sz : Nat} : ∀ {l : List (Nat × CObj)}, osOk h sz l = true → ∀ k o, (objsT l).get k = some o → h.get k = some o ∧ k < sz
  | [], _, k, o, e => by rw [show objsT [] = .lf from rfl, PT.get_lf] at e; cases e
  | (j, u) :: l, hs, k, o, e => by
    simp only [osOk] at hs
    split at hs
    · rename_i x hx
      cases hb : (objSame x u && Nat.blt j sz) with
      | false => rw [hb] at hs; cases hs
      | true =>
        rw [hb, cond_true] at hs
        simp only [Bool.and_eq_true, nblt_true] at hb
        simp only [objsT, PT.get_set] at e
        split at e
        · rename_i e2; subst e2; cases e; exact ⟨by rw [hx, objSame_eq hb.1], hb.2⟩
        · exact osOk_get hs k o e
    · cases hs
/-- Less is known, and there may be more objects. -/
theorem RelH.less {φ : Phi} {h h' : AHeap} {w : World} (H : RelH P B φ h w) (hsz : h.sz ≤ h'.sz) (hget : ∀ k o, h'.get k = some o → h.get k = some o ∧ k < h'.sz) : RelH P B φ h' w :=
  ⟨H.base, fun id g L e => Nat.lt_of_lt_of_le (H.dom id g L e) hsz, fun id hid => by
      cases e : h'.get id with
      | none => rfl
      | some o => have := (hget id o e).2; omega,
    fun id o e hd => H.objn id o (hget id o e).1 hd, H.lt, fun id o g L e hL => H.own id o g L (hget id o e).1 hL,
    fun id o id' g g' L L' e ho hL hL' hb => H.disj id o id' g g' L L' (hget id o e).1 ho hL hL' hb, H.nodef, fun id o e => by
      obtain ⟨h1, h2, h3, h4⟩ := H.ghost id o e
      exact ⟨fun u hu => h1 u (hget id u hu).1, Nat.lt_of_lt_of_le h2 hsz, h3, h4⟩⟩
theorem At.cut {φ : Phi} {σ : St} {a : Act} {w : World} (A : At P B N φ σ a w) : ∀ {cs : List Cut} {c : Cut}, pickC σ cs = some c → At P B N φ c.st a w
  | [], c, h => by cases h
  | d :: cs, c, h => by
    simp only [pickC] at h
    cases hb : covers σ d with
    | false => rw [hb] at h; exact A.cut h
    | true =>
      rw [hb, cond_true] at h
      cases h
      unfold covers at hb
      cases h1 : Nat.ble σ.h.sz d.sz with
      | false => rw [h1] at hb; cases hb
      | true =>
        rw [h1, cond_true] at hb
        cases h2 : rsOk σ.regs d.rs with
        | false => rw [h2] at hb; cases hb
        | true =>
          rw [h2, cond_true] at hb
          exact ⟨⟨A.regs.1, fun t v ht => A.regs.2 t v (rsOk_get h2 t v ht)⟩, A.heap.less (nble_true.1 h1) (osOk_get hb)⟩

theorem runC_sound (hmix : P.follows .mixedOrders = true) (hcall : CallOK P call) (m : Nat) : ∀ (x : ACode) (c : Code), comp P N c = some (strip x) → CodeOK P B N S n call r pend mk m c x := by
  intro x
  induction x with
  | keep ks y ih =>
    intro c hc hm σ K φ a w Q A O hr hQ
    exact ih c hc hm ⟨keepR ks σ.regs, σ.h⟩ K φ a w Q (A.keep ks) O hr hQ
  | cut cs y ih =>
    intro c hc hm σ K φ a w Q A O hr hQ
    simp only [runC] at hr
    split at hr
    · rename_i s hs
      exact ih c hc hm s.st K φ a w Q (A.cut hs) O hr hQ
    · exact ih c hc hm σ K φ a w Q A O hr hQ
  | skip =>
    intro c hc hm σ K φ a w Q A O hr hQ
    cases comp_inv hc
    exact wpIn_skip (hQ .normal _ σ a w φ hr .normal A O φ.le_refl (Gw.refl B w))
  | refuse =>
    intro c hc hm σ K φ a w Q A O hr hQ
    cases hr
  | label l =>
    intro c hc hm σ K φ a w Q A O hr hQ
    cases comp_inv hc
    exact wpIn_label (hQ .normal _ σ a w φ hr .normal A O φ.le_refl (Gw.refl B w))
  | goto l =>
    intro c hc hm σ K φ a w Q A O hr hQ
    cases comp_inv hc
    exact wpIn_goto (hQ (.goto l) _ σ a w φ hr (.goto l) A O φ.le_refl (Gw.refl B w))
  | reg as =>
    intro c hc hm σ K φ a w Q A O hr hQ
    obtain ⟨id, ops, rfl, has⟩ := comp_inv hc
    exact reg_sound hcall has A hr fun ex ex' σ' a' w' φ' k1 kE k2 k3 k4 k5 => hQ ex ex' σ' a' w' φ' k1 kE k2 (O.mono k5 k4 k3) k4 k5
  | dreg n0 rest =>
    intro c hc hm σ K φ a w Q A O hr hQ
    obtain ⟨id, ops, as, rfl, has, hd⟩ := comp_inv hc
    exact dreg_sound hmix hcall has hd A hr fun ex ex' σ' a' w' φ' k1 kE k2 k3 k4 k5 => hQ ex ex' σ' a' w' φ' k1 kE k2 (O.mono k5 k4 k3) k4 k5
  | seq y z ihc ihd =>
    intro c hc hm σ K φ a w Q A O hr hQ
    obtain ⟨c1, c2, rfl, hy, hz⟩ := comp_inv hc
    have hm1 : mk = true ∨ noRf y = true := hm.imp_right fun h => by simp only [noRf, Bool.and_eq_true] at h; exact h.1
    have hm2 : mk = true ∨ noRf z = true := hm.imp_right fun h => by simp only [noRf, Bool.and_eq_true] at h; exact h.2
    simp only [runC] at hr
    refine wpIn_seq (ihc c1 hy hm1 σ _ φ a w _ A O hr ?_)
    intro ex ex' σ' a' w' φ' k1 kE k2 k3 k4 k5
    cases kE with
    | normal => exact ihd c2 hz hm2 σ' K φ' a' w' Q k2 k3 k1 (hQ.later k4 k5)
    | ret => exact hQ .ret _ σ' a' w' φ' k1 .ret k2 k3 k4 k5
    | exit id => exact hQ (.exit id) _ σ' a' w' φ' k1 (.exit id) k2 k3 k4 k5
    | goto l => exact hQ (.goto l) _ σ' a' w' φ' k1 (.goto l) k2 k3 k4 k5
    | panic h => exact hQ _ _ σ' a' w' φ' k1 (.panic h) k2 k3 k4 k5
  | cond o y z ihc ihd =>
    intro c hc hm σ K φ a w Q A O hr hQ
    obtain ⟨p, c1, c2, rfl, hp, hy, hz⟩ := comp_inv hc
    have hm1 : mk = true ∨ noRf y = true := hm.imp_right fun h => by simp only [noRf, Bool.and_eq_true] at h; exact h.1
    have hm2 : mk = true ∨ noRf z = true := hm.imp_right fun h => by simp only [noRf, Bool.and_eq_true] at h; exact h.2
    simp only [runC] at hr
    split at hr
    · rename_i hv
      have := ev_opd A.regs hp hv
      generalize hev : a.eval p = u at this
      cases this
      exact wpIn_cond_true hev (ihc c1 hy hm1 σ K φ a w Q A O hr hQ)
    · rename_i hv
      have := ev_opd A.regs hp hv
      generalize hev : a.eval p = u at this
      cases this
      exact wpIn_cond_false hev (ihd c2 hz hm2 σ K φ a w Q A O hr hQ)
    · cases hr
  | block id y ih =>
    intro c hc hm σ K φ a w Q A O hr hQ
    obtain ⟨c1, rfl, hy⟩ := comp_inv hc
    simp only [runC] at hr
    refine wpIn_block (ih c1 hy hm σ _ φ a w _ A O hr ?_)
    intro ex ex' σ' a' w' φ' k1 kE k2 k3 k4 k5
    cases kE with
    | normal => exact hQ .normal _ σ' a' w' φ' k1 .normal k2 k3 k4 k5
    | ret => exact hQ .ret _ σ' a' w' φ' k1 .ret k2 k3 k4 k5
    | goto l => exact hQ (.goto l) _ σ' a' w' φ' k1 (.goto l) k2 k3 k4 k5
    | panic h => exact hQ _ _ σ' a' w' φ' k1 (.panic h) k2 k3 k4 k5
    | exit i =>
      simp only at k1
      simp only [Exit.inBlock]
      cases hb : Nat.beq i id with
      | true =>
        rw [hb] at k1
        rw [if_pos (Nat.eq_of_beq_eq_true hb)]
        exact hQ .normal _ σ' a' w' φ' k1 .normal k2 k3 k4 k5
      | false =>
        rw [hb] at k1
        rw [if_neg (nbeq_false.1 hb)]
        exact hQ (.exit i) _ σ' a' w' φ' k1 (.exit i) k2 k3 k4 k5
  | loop y ih =>
    intro c hc hm σ K φ a w Q A O hr hQ
    obtain ⟨c1, rfl, hy⟩ := comp_inv hc
    simp only [runC] at hr
    exact wpIn_loop_rounds m (rounds_sound (ih c1 hy) hm m σ K φ a w Q A O hr hQ)
  | exit id =>
    intro c hc hm σ K φ a w Q A O hr hQ
    cases comp_inv hc
    exact wpIn_exit (hQ (.exit id) _ σ a w φ hr (.exit id) A O φ.le_refl (Gw.refl B w))
  | ret =>
    intro c hc hm σ K φ a w Q A O hr hQ
    cases comp_inv hc
    exact wpIn_ret (hQ .ret _ σ a w φ hr .ret A O φ.le_refl (Gw.refl B w))
  | scope y l z ihy ihz =>
    intro c hc hm σ K φ a w Q A O hr hQ
    obtain ⟨c1, rfl, hy, hl⟩ := comp_inv hc
    have hm1 : mk = true ∨ noRf y = true := hm.imp_right fun h => by simp only [noRf, Bool.and_eq_true] at h; exact h.1
    have hm2 : mk = true ∨ noRf z = true := hm.imp_right fun h => by simp only [noRf, Bool.and_eq_true] at h; exact h.2
    have hfl := findLabel_comp (l := l) hy
    rw [hl] at hfl
    obtain ⟨rest, e1, e2⟩ := hfl
    simp only [runC] at hr
    refine wpIn_scope_jumps e1 m (ihy c1 hy hm1 σ _ φ a w _ A O hr ?_)
    intro ex ex' σ' a' w' φ' k1 kE k2 k3 k4 k5
    cases kE with
    | normal => exact hQ .normal _ σ' a' w' φ' k1 .normal k2 k3 k4 k5
    | ret => exact hQ .ret _ σ' a' w' φ' k1 .ret k2 k3 k4 k5
    | exit id => exact hQ (.exit id) _ σ' a' w' φ' k1 (.exit id) k2 k3 k4 k5
    | panic h => exact hQ _ _ σ' a' w' φ' k1 (.panic h) k2 k3 k4 k5
    | goto l' =>
      simp only at k1
      cases hb : Nat.beq l' l with
      | false => rw [hb] at k1; cases k1
      | true =>
        rw [hb] at k1
        exact ⟨Nat.eq_of_beq_eq_true hb, jumps_sound (ihz rest e2) hm2 m σ' K φ' a' w' Q k2 k3 k1 (hQ.later k4 k5)⟩
  | rf f ps xa xb iha ihb =>
    intro c hc hm σ K φ a w Q A O hr hQ
    obtain rfl : mk = true := hm.resolve_right (by simp [noRf])
    obtain ⟨g, ps, assign, body, rfl, hy, rfl, ha, hb, hps⟩ := comp_inv hc
    have hpN : ∀ p ∈ ps.toList, p < N := fun p hp => by simpa using List.all_eq_true.1 hps p hp
    simp only [runC] at hr
    split at hr
    · rename_i fid first cap hv
      have hgv := ev_opd A.regs hy hv
      generalize hcg : a.eval g = cg at hgv
      cases hgv with
      | func hf hcp =>
        rename_i first' cap'
        refine wpIn_rangeFunc ?_
        intro fn _
        obtain ⟨w0, mark, R, henter, H0, hg0, hM, e1, e2, e3, e4, e5, e6⟩ := enter_sound A.heap O fn ps assign body
        have hle1 := Phi.le_add (φ := φ) (id := σ.h.sz) (g := 0) ⟨w0.heap.size, 0, 0, 0, 0⟩ (A.heap.fresh 0)
        have hp := H0.push (o := .loop { regs := σ.regs, ps := ps.toList, asg := xa, body := xb, st := .ready }) rfl (L := ⟨w0.heap.size, 0, 0, 0, 0⟩) (ob := .loop R) rfl (fun ds e => by cases e)
          ⟨_, R, N, Phi.add_same _ _ _ _, heap_alloc_new w0 _, by rw [e3]; exact A.regs.mono hle1, by rw [e4], hpN, by rw [e5]; exact ha, by rw [e6]; exact hb, ⟨e1, e2⟩⟩
        have hg1 : Gw B w0 (w0.alloc (.loop R)) := Gw.alloc H0.base (fun _ _ _ e => by cases e)
        have hcl := hcall (.func fid) _ _ _ hr B _ _ (first' ++ [.func (.yield w0.heap.size) #[] #[]] ++ cap') hp (((hf.mono hle1).append (.cons (.yield (Phi.add_same _ _ _ _)) .nil)).append (hcp.mono hle1))
        simp only at hcl
        obtain ⟨hrun, hcalls⟩ : (callFunc fid ⟨first' ++ [.func (.yield w0.heap.size) #[] #[]] ++ cap'⟩).run P (w0.alloc (.loop R)) = .ok (.enter fid _) (w0.alloc (.loop R)) ∧ _ := by
          rcases hcl with hcl | ⟨hno, _⟩
          · exact hcl
          · exact absurd rfl (hno (.fn (.yield σ.h.sz) [] []) (by simp) σ.h.sz)
        refine ⟨w0.heap.size, mark, w0.alloc (.loop R), { target := .fn (.func fid) ⟨cap'⟩, args := (⟨first'⟩ : Array Value) ++ #[.func (.yield w0.heap.size) #[] #[]] }, w0.alloc (.loop R), fid, ⟨first' ++ [.func (.yield w0.heap.size) #[] #[]] ++ cap'⟩, w0.alloc (.loop R), henter, ?_, fun _ _ => trivial, ?_, FW_depth r n, ?_⟩
        · have hcst : a.eval (.const (.func (.yield w0.heap.size) #[] #[])) = .func (.yield w0.heap.size) #[] #[] := rfl
          simp [resolve, Deferred.ofValue, hcg, hcst]
        · have : (⟨first'⟩ : Array Value) ++ #[.func (.yield w0.heap.size) #[] #[]] ++ ⟨cap'⟩ = ⟨first' ++ [.func (.yield w0.heap.size) #[] #[]] ++ cap'⟩ := by apply Array.ext'; simp
          simp only [invoke]
          rw [this]
          exact hrun
        · refine CallsIn.mono (show CallsIn (FW r) (n - 1) P fid _ _ _ from hcalls (n - 1)) ?_
          rintro e w3 (⟨v, h', cv, φ', rfl, hK, g1, g2, g3, g4⟩ | ⟨v, h', cv, φ', rfl, hK, g1, g2, g3, g4⟩)
          rotate_left
          · simp [isPan] at hK
          simp only [notPan g1] at hK
          split at hK
          rotate_left
          · cases hK
          rename_i l2 hl2
          obtain ⟨L, R2, N2, q1, q2, q3, q4, q5, q6, q7, q8, q9⟩ := loop_put g2 hl2 ⟨_, _, g3 _ _ _ (Phi.add_same _ _ _ _)⟩
          have hL : φ' σ.h.sz 0 = some ⟨w0.heap.size, 0, 0, 0, 0⟩ := g3 _ _ _ (Phi.add_same _ _ _ _)
          rw [hL] at q1; cases q1
          obtain ⟨u1, u2⟩ := q9 { R2 with state := .exhausted } .exh rfl rfl rfl rfl rfl
          have hgw : Gw B w0 _ := hg1.trans (g4.trans u2)
          have A4 : At P B N φ' ⟨σ.regs, h'.put σ.h.sz (.loop { l2 with st := .exh })⟩ { a with defers := mark ++ a.defers } (w3.putObj w0.heap.size (.loop { R2 with state := .exhausted })) := ⟨A.regs.mono (Phi.le_trans hle1 g3), u1⟩
          have O4 : Okay S r pend true φ' (w3.putObj w0.heap.size (.loop { R2 with state := .exhausted })) { a with defers := mark ++ a.defers } :=
            ⟨Nat.le_trans O.size (Nat.le_trans hg0.size hgw.size), hM.mono hgw (Phi.le_trans hle1 g3), fun e => (by cases e), fun l e => (let ⟨R', k⟩ := O.round l e; (hg0.trans hgw).loops l R' k)⟩
          have fin : ∀ ex ex', K ex ⟨σ.regs, h'.put σ.h.sz (.loop { l2 with st := .exh })⟩ = true → ExRel φ' ex ex' → Q ex' { a with defers := mark ++ a.defers } (w3.putObj w0.heap.size (.loop { R2 with state := .exhausted })) :=
            fun ex ex' hk hE => hQ ex ex' _ _ _ φ' hk hE A4 O4 (Phi.le_trans hle1 g3) (hg0.trans hgw)
          split at hK
          · rename_i hst
            rw [hst] at q8
            refine ⟨none, _, ?_, fin .normal _ hK .normal⟩
            rw [run_endLoop q2 (by rw [q8.1]; decide), q8.2]
          · rename_i ex hst
            rw [hst] at q8
            obtain ⟨s1, s2⟩ := q8
            have hend := run_endLoop (P := P) q2 (by rw [s1]; decide)
            cases ex with
            | normal => exact s2.elim
            | panic v => exact s2.elim
            | ret =>
              simp only at s2
              exact ⟨some .ret, _, hend.trans (congrArg (fun j => Result.ok j _) s2), wpIn_ret (fin .ret _ hK .ret)⟩
            | exit id =>
              simp only at s2
              exact ⟨some (.exit id), _, hend.trans (congrArg (fun j => Result.ok j _) s2), wpIn_exit (fin (.exit id) _ hK (.exit id))⟩
            | goto l =>
              simp only at s2
              exact ⟨some (.goto l), _, hend.trans (congrArg (fun j => Result.ok j _) s2), wpIn_goto (fin (.goto l) _ hK (.goto l))⟩
          · cases hK
    · cases hr

/-! ### Calls -/
def resOne (tmps : Array Value) : ResultVar → Sem Value
  | .tmp t => pure (tmps.getD t undef)
  | .cell a t => do loadVar t (← asAddr (tmps.getD a undef))

def RunsTo (P : Program) (w : World) {α β : Type} (f : α → Sem β) : List α → List β → Prop
  | [], [] => True
  | x :: l, v :: m => (f x).run P w = .ok v w ∧ RunsTo P w f l m
  | _, _ => False

theorem mapM_run {α β : Type} {w : World} {f : α → Sem β} : ∀ {l : List α} {m : List β}, RunsTo P w f l m → (l.mapM f).run P w = .ok m w
  | [], [], _ => by simp
  | [], _ :: _, h => h.elim
  | _ :: _, [], h => h.elim
  | x :: l, v :: m, h => by
    rw [List.mapM_cons, Sem.run_bind, h.1, Result.andThen_ok, Sem.run_bind, mapM_run h.2]
    simp

theorem results_each {φ : Phi} {σ : St} {a : Act} {w : World} (A : At P B N φ σ a w) : ∀ {l : List ResultVar} {res : List (Nat × Option (Bool × Nat))} {vs : List AV}, resOf P l = some res → resultsA σ.regs σ.h res = some vs →
    ∃ cvs, RunsTo P w (resOne a.tmps) l cvs ∧ RelVs φ vs cvs
  | [], res, vs, hr, hv => by
    simp [resOf] at hr; subst hr
    simp [resultsA] at hv; subst hv
    exact ⟨[], trivial, .nil⟩
  | .tmp t :: l, res, vs, hr, hv => by
    simp only [resOf, Option.bind_eq_bind, Option.pure_def] at hr
    cases hl : resOf P l with
    | none => simp [hl] at hr
    | some res' =>
      simp [hl] at hr; subst hr
      simp only [resultsA, resultA] at hv
      split at hv
      · rename_i v h1
        split at hv
        · rename_i vs' h2
          cases hv
          obtain ⟨cvs, g1, g2⟩ := results_each A hl h2
          obtain ⟨cv, e1, e2⟩ := A.regs.2 t v h1
          exact ⟨cv :: cvs, ⟨by simp [resOne, e1], g1⟩, .cons e2 g2⟩
        · cases hv
      · cases hv
  | .cell x t :: l, res, vs, hr, hv => by
    simp only [resOf, Option.bind_eq_bind, Option.pure_def] at hr
    cases hl : resOf P l with
    | none => cases hag : isAggT P t <;> cases hs : sizeT P t <;> simp [hl, hag, hs] at hr
    | some res' =>
      cases hag : isAggT P t with
      | none => simp [hag] at hr
      | some ag =>
        cases hs : sizeT P t with
        | none => simp [hag, hs] at hr
        | some sz =>
          simp [hl, hag, hs] at hr; subst hr
          simp only [resultsA, resultA] at hv
          split at hv
          · rename_i v h1
            split at h1
            · rename_i p hp
              split at hv
              · rename_i vs' h2
                cases hv
                obtain ⟨cvs, g1, g2⟩ := results_each A hl h2
                obtain ⟨cp, e1, e2⟩ := A.regs.2 x p hp
                obtain ⟨cv, q1, q2, q3⟩ := load_sound A.heap e2 h1 hag hs
                have hptr : ∃ Ad, cp = .pointer (some Ad) := by
                  unfold loadA at h1
                  cases e2 <;> first | (cases h1; done) | exact ⟨_, rfl⟩
                obtain ⟨Ad, rfl⟩ := hptr
                exact ⟨cv :: cvs, ⟨by simp [resOne, e1, asAddr, q2 Ad rfl], g1⟩, .cons q3 g2⟩
              · cases hv
            · cases h1
          · cases hv

theorem relV_oneOf {φ : Phi} {vs : List AV} {cvs : List Value} (h : RelVs φ vs cvs) : RelV φ (oneOf vs) (if h : (⟨cvs⟩ : Array Value).size = 1 then (⟨cvs⟩ : Array Value)[0] else .tuple ⟨cvs⟩) := by
  cases h with
  | nil => exact .tup .nil
  | cons h1 h2 =>
    cases h2 with
    | nil => simpa [oneOf] using h1
    | cons h2 h3 => simpa [oneOf] using RelV.tup (.cons h1 (.cons h2 h3))

theorem results_sound {φ : Phi} {σ : St} {a : Act} {w : World} {fn : Func} (A : At P B N φ σ a w) {res : List (Nat × Option (Bool × Nat))} {vs : List AV} (hr : resOf P fn.results.toList = some res) (hv : resultsA σ.regs σ.h res = some vs) :
    ∃ cv, (results fn a.tmps).run P w = .ok cv w ∧ RelV φ (oneOf vs) cv := by
  obtain ⟨cvs, g1, g2⟩ := results_each A hr hv
  have e : results fn a.tmps = (do let vs ← fn.results.mapM (resOne a.tmps); pure (if h : vs.size = 1 then vs[0] else .tuple vs)) := by
    unfold results
    congr 1
  refine ⟨_, ?_, relV_oneOf g2⟩
  rw [e, Sem.run_bind]
  rw [Array.mapM_eq_mapM_toList, Sem.run_map, mapM_run g1]
  rfl

/-! ### Calls of functions -/
theorem initR_get : ∀ {l : List AV} {i t : Nat} {ρ : Regs}, (initR i l ρ).get t = if i ≤ t ∧ t < i + l.length then l[t - i]? else ρ.get t
  | [], i, t, ρ => by simp [initR]; omega
  | v :: l, i, t, ρ => by
    simp only [initR]
    rw [initR_get, PT.get_set]
    by_cases h1 : t = i
    · subst h1
      rw [if_neg (by omega), if_pos rfl, if_pos (by simp)]
      simp
    · by_cases h2 : i + 1 ≤ t ∧ t < i + 1 + l.length
      · rw [if_pos h2, if_pos (by simp; omega)]
        have : t - i = (t - (i + 1)) + 1 := by omega
        rw [this]; rfl
      · rw [if_neg h2, if_neg h1, if_neg (by simp; omega)]

theorem frame_regs {φ : Phi} {args : List AV} {cargs : List Value} (h : RelVs φ args cargs) (N : Nat) : RelR φ N (initR 0 args .lf) ((⟨cargs⟩ : Array Value) ++ Array.replicate (N - (⟨cargs⟩ : Array Value).size) undef) := by
  refine ⟨by simp; omega, fun t v ht => ?_⟩
  rw [initR_get] at ht
  split at ht
  · rename_i hlt
    obtain ⟨cv, e1, e2⟩ := h.get (i := t) (a := v) (by simpa using ht)
    refine ⟨cv, ?_, e2⟩
    have : t < cargs.length := (List.getElem?_eq_some_iff.1 e1).1
    rw [Array.getElem?_append_left (by simpa using this)]
    simpa using e1
  · rw [PT.get_lf] at ht; cases ht

/-- A function that is not walked: what is said of it holds of the model's. -/
def PrimOK (P : Program) (f : Nat) (p : CallFn → Nat → List AV → AHeap → Kont → Bool) : Prop :=
  ∀ (call : CallFn) (n : Nat), CallOK P call → ∀ (args : List AV) (h : AHeap) (K : Kont), p call n args h K = true → (∀ v ∈ args, ∀ id, v ≠ .fn (.yield id) [] []) ∧ ∀ (B : Base) (φ : Phi) (w : World) (cargs : List Value), RelH P B φ h w → RelVs φ args cargs → Lands P B φ w K ((callFunc f ⟨cargs⟩).run P w)

def EnvOK (P : Program) (E : Env) : Prop := (∀ f p, E.prim f = some p → PrimOK P f p) ∧ ∀ f fn, E.code f = some fn → ∃ F, P.funcs[f]? = some F ∧ compFn P F = some (stripF fn)

theorem setPs_sound {φ : Phi} : ∀ {ps : List Nat} {vs : List AV} {ρ ρ' : Regs} {tmps : Array Value} {cvs : List Value}, (∀ p ∈ ps, p < N) → RelR φ N ρ tmps → RelVs φ vs cvs → setPs ps vs ρ = some ρ' →
    RelR φ N ρ' ((ps.zip cvs).foldl (fun t (x : Nat × Value) => t.setIfInBounds x.1 x.2) tmps) ∧ ps.length = cvs.length
  | [], [], ρ, ρ', tmps, cvs, _, hR, hv, hs => by
    cases hv
    simp [setPs] at hs; subst hs
    exact ⟨hR, rfl⟩
  | [], _ :: _, _, _, _, _, _, _, _, hs => by simp [setPs] at hs
  | _ :: _, [], _, _, _, _, _, _, _, hs => by simp [setPs] at hs
  | p :: ps, v :: vs, ρ, ρ', tmps, cvs, hN, hR, hv, hs => by
    cases hv with
    | cons h1 h2 =>
      rename_i cv cvs'
      simp only [setPs] at hs
      obtain ⟨k1, k2⟩ := setPs_sound (fun q hq => hN q (List.mem_cons_of_mem _ hq)) (hR.set (hN p List.mem_cons_self) h1) h2 hs
      exact ⟨k1, by simp [k2]⟩

/-! ### A function's body, to its end -/
theorem atEnd_sound {df : DefFn} (hdf : DefOK P df) {fn : Func} {R : Ending → World → Prop} {w0 : World} {φ0 : Phi} (hS : w0.heap.size ≤ S) (hB : B ≤ S) (K : Mode → St → Bool)
    (fin : ∀ φ μ σ a u w', K μ σ = true → MRel φ μ u → At P B N φ σ a w' → φ0.le φ → Gw B w0 w' → LeavesIn (FW none) n P fn a.tmps R [] u w') {x : AExit} {ex' : Exit} {σ : St} {a : Act} {w : World} {φ : Phi} {pend : List (AV × List AV)}
    (hk : atEnd df pend x σ K = true) (hE : ExRel φ x ex') (A : At P B N φ σ a w) (O : Okay S none pend true φ w a) (hle : φ0.le φ) (hg : Gw B w0 w) : bodyPostM (FW none) n P fn R ex' a w := by
  have key : ∀ μ u, ends df pend μ σ.h (fun μ h => K μ ⟨σ.regs, h⟩) = true → MRel φ μ u → LeavesInM (FW none) n P fn a.tmps R a.defers u w := fun μ u he hM =>
    leaves_sound (φ0 := φ) hdf hS hB _ (fun φ' μ' h' u' w' k1 k2 k3 k4 k5 => fin φ' μ' ⟨σ.regs, h'⟩ a u' w' k1 k2 ⟨A.regs.mono k4, k3⟩ (Phi.le_trans hle k4) k5) a.defers pend φ μ σ.h u w O.marks he hM A.heap φ.le_refl hg
  cases hE with
  | normal => exact key .ret .returning hk .ret
  | ret => exact key .ret .returning hk .ret
  | panic h => exact key (.pan _) _ hk (.pan h)
  | exit id => cases hk
  | goto l => cases hk

theorem compOpers_snoc {ops : Array Oper} : ∀ {l : List Oper} {as : List AOper} {x : AOper}, compOpers P N ops l = some (as ++ [x]) → ∃ l' o, l = l' ++ [o] ∧ compOpers P N ops l' = some as ∧ compOper P N ops o = some x
  | [], as, x, h => by simp [compOpers] at h
  | o :: l, as, x, h => by
    simp only [compOpers] at h
    split at h
    · rename_i y hy
      split at h
      · rename_i r hr
        cases as with
        | nil =>
          simp only [List.nil_append, Option.some.injEq, List.cons.injEq] at h
          obtain ⟨rfl, rfl⟩ := h
          cases l with
          | nil => exact ⟨[], o, rfl, rfl, hy⟩
          | cons o2 l2 =>
            simp only [compOpers] at hr
            split at hr
            · split at hr
              · cases hr
              · cases hr
            · cases hr
        | cons z as' =>
          simp only [List.cons_append, Option.some.injEq, List.cons.injEq] at h
          obtain ⟨rfl, rfl⟩ := h
          obtain ⟨l', o', rfl, e2, e3⟩ := compOpers_snoc hr
          exact ⟨o :: l', o', rfl, by simp only [compOpers, hy, e2], e3⟩
      · cases h
    · cases h

theorem splitDfr_spec : ∀ {ops : List AOper} {pre : List AOper} {f : Opd} {as : List Opd}, splitDfr ops = some (pre, f, as) → ops = pre ++ [⟨none, .dfr f as, none⟩]
  | [], _, _, _, h => by simp [splitDfr] at h
  | [o], pre, f, as, h => by
    simp only [splitDfr] at h
    split at h
    · rename_i e1 e2 e3
      cases h
      obtain ⟨d, op, g⟩ := o
      simp only at e1 e2 e3
      subst e1; subst e2; subst e3
      rfl
    · cases h
  | o :: o2 :: l, pre, f, as, h => by
    simp only [splitDfr] at h
    split at h
    · rename_i pre' f' as' e
      cases h
      rw [splitDfr_spec (ops := o2 :: l) e]; rfl
    · cases h

theorem dfr_op {o : Oper} {f : Opd} {as : List Opd} (h : compOp P o.op = some (.dfr f as)) : ∃ c fo, o.op = .defer c ∧ c.callee = .value fo ∧ opdOf fo = some f ∧ opdsOf c.args.toList = some as := by
  unfold compOp at h
  split at h
  · rename_i c hop
    split at h
    · split at h <;> cases h
    · split at h
      · cases h
      · have := compChk_raw h
        simp [compChk] at h
        exfalso
        revert h
        split
        · rename_i a ha; intro h; cases hi : isCall a with
          | true => rw [hi] at h; cases h
          | false => rw [hi] at h; cases h; cases hi
        · intro h; cases h
    · exfalso
      revert h
      unfold compChk
      split
      · rename_i a ha; intro h; cases hi : isCall a with
          | true => rw [hi] at h; cases h
          | false => rw [hi] at h; cases h; cases hi
      · intro h; cases h
  · split at h <;> cases h
  · rename_i c hop
    split at h
    · rename_i fo hf
      split at h
      · rename_i g as' hg has
        cases h
        exact ⟨c, fo, hop, hf, hg, has⟩
      · cases h
    · cases h
  · split at h
    · split at h <;> cases h
    · cases h
  · exfalso
    revert h
    unfold compChk
    split
    · rename_i a ha; intro h; cases hi : isCall a with
        | true => rw [hi] at h; cases h
        | false => rw [hi] at h; cases h; cases hi
    · intro h; cases h

theorem rcv_run {o : Oper} (h : compOp P o.op = some .rcv) (w : World) (ρ : Operand → Value) : (execOp ρ o).run P w = .ok .recover w := by
  unfold compOp at h
  split at h
  · rename_i c hop
    split at h
    · split at h <;> cases h
    · rename_i b hb
      split at h
      · simp [execOp, hop, resolve, hb, invoke, builtin]
      · exfalso
        revert h
        unfold compChk
        split
        · rename_i a ha; intro h; cases hi : isCall a with
          | true => rw [hi] at h; cases h
          | false => rw [hi] at h; cases h; cases hi
        · intro h; cases h
    · exfalso
      revert h
      unfold compChk
      split
      · rename_i a ha; intro h; cases hi : isCall a with
        | true => rw [hi] at h; cases h
        | false => rw [hi] at h; cases h; cases hi
      · intro h; cases h
  · split at h <;> cases h
  · split at h
    · split at h <;> cases h
    · cases h
  · split at h
    · split at h <;> cases h
    · cases h
  · exfalso
    revert h
    unfold compChk
    split
    · rename_i a ha; intro h; cases hi : isCall a with
      | true => rw [hi] at h; cases h
      | false => rw [hi] at h; cases h; cases hi
    · intro h; cases h

theorem runT_seq {call : CallFn} {df : DefFn} {m : Nat} {y z : ACode} {pend : List (AV × List AV)} {σ : St} {K : Mode → St → Bool} (hy : ∀ ops, y ≠ .reg ops) : runT call df m (.seq y z) pend σ K = runC call m y σ fun x σ' => (match x with
    | .normal => runT call df m z pend σ' K
    | x => atEnd df pend x σ' K) := by
  cases y <;> first | rfl | exact absurd rfl (hy _)
theorem runT_other {call : CallFn} {df : DefFn} {m : Nat} {x : ACode} {pend : List (AV × List AV)} {σ : St} {K : Mode → St → Bool} (hx : ∀ y z, x ≠ .seq y z) : runT call df m x pend σ K = runC call m x σ fun x σ' => atEnd df pend x σ' K := by
  cases x <;> first | rfl | exact absurd rfl (hx _ _)

theorem runT_sound (hmix : P.follows .mixedOrders = true) (hcall : CallOK P call) {df : DefFn} (hdf : DefOK P df) (m : Nat) {fn : Func} {R : Ending → World → Prop} {w0 : World} {φ0 : Phi} (hS : w0.heap.size ≤ S) (hB : B ≤ S) (K : Mode → St → Bool)
    (fin : ∀ φ μ σ a u w', K μ σ = true → MRel φ μ u → At P B N φ σ a w' → φ0.le φ → Gw B w0 w' → LeavesIn (FW none) n P fn a.tmps R [] u w') : ∀ (x : ACode) (c : Code), comp P N c = some (strip x) → ∀ (pend : List (AV × List AV)) (σ : St) (φ : Phi) (a : Act) (w : World), At P B N φ σ a w → Okay S none pend true φ w a → φ0.le φ → Gw B w0 w → runT call df m x pend σ K = true → c.wpIn (FW none) n P (bodyPostM (FW none) n P fn R) a w := by
  have plain : ∀ (y : ACode) (c1 : Code) (z : ACode) (c2 : Code), comp P N c1 = some (strip y) → (∀ (pend : List (AV × List AV)) (σ : St) (φ : Phi) (a : Act) (w : World), At P B N φ σ a w → Okay S none pend true φ w a → φ0.le φ → Gw B w0 w → runT call df m z pend σ K = true → c2.wpIn (FW none) n P (bodyPostM (FW none) n P fn R) a w) → ∀ (pend : List (AV × List AV)) (σ : St) (φ : Phi) (a : Act) (w : World), At P B N φ σ a w → Okay S none pend true φ w a → φ0.le φ → Gw B w0 w →
      runC call m y σ (fun x σ' => (match x with | .normal => runT call df m z pend σ' K | x => atEnd df pend x σ' K)) = true → (Code.seq c1 c2).wpIn (FW none) n P (bodyPostM (FW none) n P fn R) a w := by
    intro y c1 z c2 hy hz pend σ φ a w A O hle hg hr
    refine wpIn_seq (runC_sound (S := S) hmix hcall m y c1 hy (.inl rfl) σ _ φ a w _ A O hr ?_)
    intro ex ex' σ' a' w' φ' k1 kE k2 k3 k4 k5
    cases kE with
    | normal => exact hz pend σ' φ' a' w' k2 k3 (Phi.le_trans hle k4) (hg.trans k5) k1
    | ret => exact atEnd_sound hdf hS hB K fin k1 .ret k2 k3 (Phi.le_trans hle k4) (hg.trans k5)
    | exit id => exact atEnd_sound hdf hS hB K fin k1 (.exit id) k2 k3 (Phi.le_trans hle k4) (hg.trans k5)
    | goto l => exact atEnd_sound hdf hS hB K fin k1 (.goto l) k2 k3 (Phi.le_trans hle k4) (hg.trans k5)
    | panic h => exact atEnd_sound hdf hS hB K fin k1 (.panic h) k2 k3 (Phi.le_trans hle k4) (hg.trans k5)
  have whole : ∀ (x : ACode) (c : Code), comp P N c = some (strip x) → ∀ (pend : List (AV × List AV)) (σ : St) (φ : Phi) (a : Act) (w : World), At P B N φ σ a w → Okay S none pend true φ w a → φ0.le φ → Gw B w0 w →
      runC call m x σ (fun x σ' => atEnd df pend x σ' K) = true → c.wpIn (FW none) n P (bodyPostM (FW none) n P fn R) a w := by
    intro x c hx pend σ φ a w A O hle hg hr
    refine runC_sound (S := S) hmix hcall m x c hx (.inl rfl) σ _ φ a w _ A O hr ?_
    intro ex ex' σ' a' w' φ' k1 kE k2 k3 k4 k5
    exact atEnd_sound hdf hS hB K fin k1 kE k2 k3 (Phi.le_trans hle k4) (hg.trans k5)
  intro x
  induction x with
  | seq y z ihy ihz =>
    intro c hc pend σ φ a w A O hle hg hr
    obtain ⟨c1, c2, rfl, hy, hz⟩ := comp_inv hc
    cases y with
    | reg ops =>
      simp only [runT] at hr
      split at hr
      · rename_i pre f as hsp
        obtain ⟨id, ops', rfl, has⟩ := comp_inv hy
        rw [splitDfr_spec hsp] at has
        obtain ⟨l, o, hl, hpre, hco⟩ := compOpers_snoc has
        obtain ⟨h1, h2, h3, h4⟩ := compOper_spec hco
        have hgd : o.guard = none := by
          rcases h4 with ⟨h, _⟩ | ⟨_, _, _, _, _, _, _, h⟩
          · exact h
          · cases h
        have hop : compOp P o.op = some (.dfr f as) := by
          cases hop : compOp P o.op with
          | none => rw [hop] at h3; cases h3
          | some op => rw [hop] at h3; simp only [Option.getD_some] at h3; rw [h3]
        obtain ⟨cc, fo, hod, hcal, hfo, hargs⟩ := dfr_op hop
        have hsz : ops'.size = l.length + 1 := by rw [← Array.length_toList, hl]; simp
        have hat : ∀ j, j < l.length → l[j]? = ops'[0 + j]? := fun j hj => by
          rw [Nat.zero_add, ← Array.getElem?_toList, hl, List.getElem?_append_left hj]
        have hlast : ops'[l.length]? = some o := by rw [← Array.getElem?_toList, hl]; simp
        refine wpIn_seq (wpIn_region ?_)
        have hrange : List.range ops'.size = List.range' 0 l.length ++ [l.length] := by rw [hsz, List.range_succ, List.range_eq_range']
        rw [hrange]
        refine runR_tail hcall l pre 0 σ _ φ a w hat hpre A hr ?_ ?_
        · intro σ' a' w' φ' k1 k2 k3 k4 k5
          simp only at k1
          split at k1
          · rename_i g first cap vs hfv hvs
            have hr1 := ev_opd k2.regs hfo hfv
            have hr2 := evs_opds k2.regs hargs hvs
            rw [wpOpsIn_cons]
            unfold wpOpIn
            simp only [hlast]
            have hwt : Region.wanted o (yielded ops' a'.tmps) = true := by unfold Region.wanted; rw [hgd]
            rw [hwt]
            simp only [if_true]
            refine ⟨fun _ _ => trivial, ?_⟩
            generalize hcf : a'.eval fo = cf at hr1
            cases hr1 with
            | func h5 h6 =>
              rename_i cfirst ccap
              have hsem : (o.semAt (FW none).round a'.eval).run P w' = .ok (.defer { target := .fn (.func g) ⟨ccap⟩, args := ⟨cfirst ++ cc.args.toList.map a'.eval⟩ }) w' := by
                have e : (⟨cfirst⟩ : Array Value) ++ cc.args.map a'.eval = ⟨cfirst ++ cc.args.toList.map a'.eval⟩ := by apply Array.ext'; simp
                show (execOp a'.eval o).run P w' = _
                simp only [execOp, hod, resolve, hcal, hcf, Deferred.ofValue]
                rw [e]; rfl
              rw [hsem, Oper.uponIn_defer]
              have O' := O.mono k5 k4 k3
              have hdst : o.dst = none := h1.symm
              rw [hdst]
              exact ihz c2 hz ((.fn (.func g) first cap, vs) :: pend) σ' φ' _ w' ⟨k2.regs, k2.heap⟩ ⟨O'.size, .fn rfl rfl h5 h6 hr2 O'.marks, fun e => (by cases e), fun l e => (by cases e)⟩ (Phi.le_trans hle k4) (hg.trans k5) k1
          · cases k1
        · intro v cv σ' a' w' φ' k1 k2 k3 k4 k5 k6
          exact atEnd_sound hdf hS hB K fin k1 (.panic k2) k3 (O.mono k6 k5 k4) (Phi.le_trans hle k5) (hg.trans k6)
      · exact plain (.reg ops) c1 z c2 hy (ihz c2 hz) pend σ φ a w A O hle hg hr
    | _ => exact plain _ c1 z c2 hy (ihz c2 hz) pend σ φ a w A O hle hg (by rw [runT_seq (by simp)] at hr; exact hr)
  | _ =>
    intro c hc pend σ φ a w A O hle hg hr
    exact whole _ c hc pend σ φ a w A O hle hg (by rw [runT_other (by simp)] at hr; exact hr)

/-! ### Deferred functions -/
def modeD (u : FrameMode) (d : Bool) : FrameMode :=
  match d, u with
  | true, .panicking (e :: older) => .panicking ({ v := e.v, recovered := true } :: older)
  | _, u => u

theorem runRS_sound {μ : Mode} {u : FrameMode} {c₀ : Frame} {cs : List Frame} {φ0 : Phi} (hM : MRel φ0 μ u) {ops : Array Oper} {Q : Exit → Act → List Frame → World → Prop} {K : KMo} : ∀ (l : List Oper) (al : List AOper) (k : Nat) (d : Bool) (σ : St) (φ : Phi) (a : Act) (w : World),
    (∀ j, l[j]? = ops[k + j]?) → compOpers P N ops l = some al → At P B N φ σ a w → φ0.le φ → runRS μ al d σ K = true →
    (∀ d' σ' a' w' φ', K .normal d' σ' = true → At P B N φ' σ' a' w' → a'.defers = a.defers → φ.le φ' → Gw B w w' → Q .normal a' ({ c₀ with mode := modeD u d' } :: cs) w') → wpOpsSIn (FW none) n P ops Q (List.range' k l.length) a ({ c₀ with mode := modeD u d } :: cs) w
  | [], al, k, d, σ, φ, a, w, hl, hc, A, hle, hr, hQ => by
    simp [compOpers] at hc; subst hc
    exact hQ d σ a w φ hr A rfl φ.le_refl (Gw.refl B w)
  | o :: l, al, k, d, σ, φ, a, w, hl, hc, A, hle, hr, hQ => by
    simp only [compOpers] at hc
    split at hc
    · rename_i x hx
      split at hc
      · rename_i al' hal
        cases hc
        have hk : ops[k]? = some o := by rw [← Nat.add_zero k, ← hl 0]; rfl
        have hl' : ∀ j, l[j]? = ops[k + 1 + j]? := fun j => by
          have := hl (j + 1)
          rw [show k + 1 + j = k + (j + 1) by omega, ← this]
          rfl
        obtain ⟨h1, h2, h3, h4⟩ := compOper_spec hx
        simp only [List.length_cons, List.range'_succ, wpOpsSIn, hk]
        refine ⟨fun _ _ => trivial, ?_⟩
        simp only [runRS] at hr
        split at hr
        · rename_i hw
          rw [wanted_spec hx A.regs hw]
          simp only [if_true]
          split at hr
          · rename_i hop'
            have hop : compOp P o.op = some .rcv := by
              rw [hop'] at h3
              cases hop : compOp P o.op with
              | none => rw [hop] at h3; cases h3
              | some op => rw [hop] at h3; simp only [Option.getD_some] at h3; rw [h3]
            have hex : (execOp a.eval o).run P w = .ok .recover w := rcv_run hop w a.eval
            rw [hex]
            simp only
            have key : ∀ (d' : Bool) (cv : Value) (v : AV), RelV φ v cv → runRS μ al' d' ⟨put σ.regs x.dst v, σ.h⟩ K = true → wpOpsSIn (FW none) n P ops Q (List.range' (k + 1) l.length) (a.put o.dst cv) ({ c₀ with mode := modeD u d' } :: cs) w := by
              intro d' cv v hv hr'
              have A' : At P B N φ ⟨put σ.regs x.dst v, σ.h⟩ (a.put o.dst cv) w := ⟨by simp only; rw [h1]; exact A.regs.put h2 hv, A.heap⟩
              refine runRS_sound hM l al' (k + 1) d' _ φ _ w hl' hal A' hle hr' ?_
              intro d2 σ2 a2 w2 φ2 j1 j2 j3 j4 j5
              exact hQ d2 σ2 a2 w2 φ2 j1 j2 (j3.trans (put_defers _ _ _)) j4 j5
            cases hM with
            | ret =>
              have e : recoverD ({ c₀ with mode := modeD .returning d } :: cs) = none := by cases d <;> rfl
              rw [e]
              exact key d .nilIface .nilIf .nilIf hr
            | pan hv =>
              rename_i v cv
              cases d with
              | false => exact key true cv v (hv.mono hle) hr
              | true => exact key true .nilIface .nilIf .nilIf hr
          · rename_i op hno
            split at hr
            · rename_i v h' hv
              cases hop : compOp P o.op with
              | none => rw [hop] at h3; rw [h3] at hv; cases hv
              | some op =>
                rw [hop] at h3
                simp only [Option.getD_some] at h3
                rw [h3] at hv
                have hn : isCall op = false := by cases op <;> first | rfl | (simp [evalA] at hv; done)
                obtain ⟨cv, w', φ', hres, g1, g2, g3, g4⟩ := evalA_sound (o := o) A.regs A.heap (compOp_raw hop hn) hv
                have key : wpOpsSIn (FW none) n P ops Q (List.range' (k + 1) l.length) (a.put o.dst cv) ({ c₀ with mode := modeD u d } :: cs) w' := by
                  have A' : At P B N φ' ⟨put σ.regs x.dst v, h'⟩ (a.put o.dst cv) w' := ⟨by simp only; rw [h1]; exact (A.regs.mono g3).put h2 g1, g2⟩
                  refine runRS_sound hM l al' (k + 1) d _ φ' _ w' hl' hal A' (Phi.le_trans hle g3) hr ?_
                  intro d2 σ2 a2 w2 φ2 j1 j2 j3 j4 j5
                  exact hQ d2 σ2 a2 w2 φ2 j1 j2 (j3.trans (put_defers _ _ _)) (Phi.le_trans g3 j4) (g4.trans j5)
                rcases hres with e | ⟨e, e2⟩
                · rw [e]; exact key
                · rw [e]; subst e2; exact key
            · cases hr
        · rename_i hw
          rw [wanted_spec hx A.regs hw]
          simp only [Bool.false_eq_true, if_false]
          have A' : At P B N φ ⟨put σ.regs x.dst (.tup []), σ.h⟩ (a.put o.dst undef) w := ⟨by simp only; rw [h1]; exact A.regs.put h2 (.tup .nil), A.heap⟩
          refine runRS_sound hM l al' (k + 1) d _ φ _ w hl' hal A' hle hr ?_
          intro d2 σ2 a2 w2 φ2 j1 j2 j3 j4 j5
          exact hQ d2 σ2 a2 w2 φ2 j1 j2 (j3.trans (put_defers _ _ _)) j4 j5
        · cases hr
      · cases hc
    · cases hc

theorem runS_sound (hmix : P.follows .mixedOrders = true) (hcall : CallOK P call) (m : Nat) {μ : Mode} {u : FrameMode} {c₀ : Frame} {cs : List Frame} {φ0 : Phi} (hM : MRel φ0 μ u) : ∀ (x : ACode) (c : Code), comp P N c = some (strip x) → noRf x = true → ∀ (d : Bool) (σ : St) (K : KMo) (φ : Phi) (a : Act) (w : World) (Q : Exit → Act → List Frame → World → Prop), At P B N φ σ a w → a.defers = [] → S ≤ w.heap.size → φ0.le φ → runS call m μ x d σ K = true →
    (∀ ex ex' d' σ' a' w' φ', K ex d' σ' = true → ExRel φ' ex ex' → At P B N φ' σ' a' w' → a'.defers = [] → S ≤ w'.heap.size → φ.le φ' → Gw B w w' → Q ex' a' ({ c₀ with mode := modeD u d' } :: cs) w') → c.wpSIn (FW none) n P Q a ({ c₀ with mode := modeD u d } :: cs) w := by
  have plain : ∀ (x : ACode) (c : Code), comp P N c = some (strip x) → noRf x = true → ∀ (d : Bool) (σ : St) (K : KMo) (φ : Phi) (a : Act) (w : World) (Q : Exit → Act → List Frame → World → Prop), At P B N φ σ a w → a.defers = [] → S ≤ w.heap.size → runC call m x σ (fun x σ' => K x d σ') = true →
    (∀ ex ex' d' σ' a' w' φ', K ex d' σ' = true → ExRel φ' ex ex' → At P B N φ' σ' a' w' → a'.defers = [] → S ≤ w'.heap.size → φ.le φ' → Gw B w w' → Q ex' a' ({ c₀ with mode := modeD u d' } :: cs) w') → c.wpSIn (FW none) n P Q a ({ c₀ with mode := modeD u d } :: cs) w := by
    intro x c hc hrf d σ K φ a w Q A hd hS hr hQ
    refine wpSIn_of_wpIn rfl (runC_sound (S := S) (pend := []) (mk := false) hmix hcall m x c hc (.inr hrf) σ _ φ a w _ A ⟨hS, by rw [hd]; exact .nil, fun _ => hd, fun l e => by cases e⟩ hr ?_)
    intro ex ex' σ' a' w' φ' k1 kE k2 k3 k4 k5
    exact hQ ex ex' d σ' a' w' φ' k1 kE k2 (k3.none rfl) k3.size k4 k5
  intro x
  induction x with
  | seq y z ihy ihz =>
    intro c hc hrf d σ K φ a w Q A hd hS hle hr hQ
    obtain ⟨c1, c2, rfl, hy, hz⟩ := comp_inv hc
    simp only [noRf, Bool.and_eq_true] at hrf
    simp only [runS] at hr
    refine wpSIn_seq (ihy c1 hy hrf.1 d σ _ φ a w _ A hd hS hle hr ?_)
    intro ex ex' d' σ' a' w' φ' k1 kE k2 k3 k6 k4 k5
    cases kE with
    | normal =>
      refine ihz c2 hz hrf.2 d' σ' K φ' a' w' Q k2 k3 k6 (Phi.le_trans hle k4) k1 ?_
      intro ex ex' d2 σ2 a2 w2 φ2 j1 jE j2 j3 j6 j4 j5
      exact hQ ex ex' d2 σ2 a2 w2 φ2 j1 jE j2 j3 j6 (Phi.le_trans k4 j4) (k5.trans j5)
    | ret => exact hQ .ret _ d' σ' a' w' φ' k1 .ret k2 k3 k6 k4 k5
    | exit id => exact hQ (.exit id) _ d' σ' a' w' φ' k1 (.exit id) k2 k3 k6 k4 k5
    | goto l => exact hQ (.goto l) _ d' σ' a' w' φ' k1 (.goto l) k2 k3 k6 k4 k5
    | panic h => exact hQ _ _ d' σ' a' w' φ' k1 (.panic h) k2 k3 k6 k4 k5
  | cond o y z ihy ihz =>
    intro c hc hrf d σ K φ a w Q A hd hS hle hr hQ
    obtain ⟨p, c1, c2, rfl, hp, hy, hz⟩ := comp_inv hc
    simp only [noRf, Bool.and_eq_true] at hrf
    simp only [runS] at hr
    split at hr
    · rename_i hv
      have := ev_opd A.regs hp hv
      generalize hev : a.eval p = uu at this
      cases this
      exact wpSIn_cond hev (ihy c1 hy hrf.1 d σ K φ a w Q A hd hS hle hr hQ)
    · rename_i hv
      have := ev_opd A.regs hp hv
      generalize hev : a.eval p = uu at this
      cases this
      exact wpSIn_cond hev (ihz c2 hz hrf.2 d σ K φ a w Q A hd hS hle hr hQ)
    · cases hr
  | reg as =>
    intro c hc hrf d σ K φ a w Q A hd hS hle hr hQ
    simp only [runS] at hr
    cases hh : hasRcv as with
    | false => rw [hh, cond_false] at hr; exact plain (.reg as) c hc hrf d σ K φ a w Q A hd hS hr hQ
    | true =>
      rw [hh, cond_true] at hr
      obtain ⟨id, ops, rfl, has⟩ := comp_inv hc
      refine wpSIn_region ?_
      have := runRS_sound (n := n) (Q := Q) (c₀ := c₀) (cs := cs) hM ops.toList as 0 d σ φ a w (fun j => by simp) has A hle hr (fun d' σ' a' w' φ' k1 k2 k3 k4 k5 => hQ .normal _ d' σ' a' w' φ' k1 .normal k2 (k3.trans hd) (Nat.le_trans hS k5.size) k4 k5)
      rw [Array.length_toList, ← List.range_eq_range'] at this
      exact this
  | _ =>
    intro c hc hrf d σ K φ a w Q A hd hS hle hr hQ
    exact plain _ c hc hrf d σ K φ a w Q A hd hS hr hQ

theorem defN_sound {E : Env} (hmix : P.follows .mixedOrders = true) (hE : EnvOK P E) {call : CallFn} (hcall : CallOK P call) (m : Nat) : DefOK P (defN E call m) := by
  intro g args μ h K hK B φ w cargs u H hA hM
  unfold defN at hK
  split at hK
  · cases hK
  split at hK
  · cases hK
  · rename_i fn hf
    obtain ⟨F, hF, hc⟩ := hE.2 g fn hf
    obtain ⟨hcond, hK⟩ := bif_true hK
    simp only [Bool.and_eq_true] at hcond
    obtain ⟨⟨_, hres0⟩, hrf⟩ := hcond
    unfold compFn at hc
    split at hc
    · cases hc
    · rename_i c hbody
      split at hc
      · rename_i x res hx hres
        cases hn : F.name == "runtime.NumGoroutine" with
        | true => rw [hn] at hc; cases hc
        | false =>
          rw [hn, cond_false] at hc
          obtain ⟨np', res', body'⟩ := fn
          simp only [stripF, Option.some.injEq, AFun.mk.injEq] at hc
          obtain ⟨e1, rfl, rfl⟩ := hc
          simp only at hK hres0 hrf
          have hrun : (callFunc g ⟨cargs⟩).run P w = .ok (.enter g ⟨cargs⟩) w := by
            have hn' : F.name ≠ "runtime.NumGoroutine" := by simpa using hn
            simp [callFunc, Sem.run_bind, hF, hn', hbody]
          refine ⟨hrun, fun n => ?_⟩
          refine callsDIn_of_wpSIn hF hbody trivial fun c₀ cs hu => ?_
          have A : At P B F.ntmps φ ⟨initR 0 args .lf, h⟩ { tmps := (⟨cargs⟩ : Array Value) ++ Array.replicate (F.ntmps - (⟨cargs⟩ : Array Value).size) undef, defers := [] } w := ⟨frame_regs hA _, H⟩
          have hc0 : c₀ :: cs = { c₀ with mode := modeD u false } :: cs := by subst hu; rfl
          rw [hc0]
          refine runS_sound (S := w.heap.size) hmix hcall m hM body' c hx hrf false _ _ φ _ w _ A rfl (Nat.le_refl _) φ.le_refl hK ?_
          intro ex ex' d' σ' a' w' φ' k1 kE k2 k3 k6 k4 k5
          have hM2 : MRel φ' (settled μ d') (settle (modeD u d')) := by
            have := hM.mono k4
            cases this with
            | ret => cases d' <;> exact .ret
            | pan hv =>
              cases d' with
              | false => exact .pan hv
              | true => exact .ret
          have hres2 : ∃ v, (results F a'.tmps).run P w' = .ok v w' := by
            obtain ⟨cv, q1, _⟩ := results_sound k2 (vs := []) hres (by cases res with | nil => rfl | cons _ _ => cases hres0)
            exact ⟨cv, q1⟩
          obtain ⟨rv, hrv⟩ := hres2
          cases kE with
          | normal => exact ⟨k3, modeD u d', rfl, rv, hrv, rv, settled μ d', σ'.h, φ', rfl, k1, hM2, k2.heap, k4, k5⟩
          | ret => exact ⟨k3, modeD u d', rfl, rv, hrv, rv, settled μ d', σ'.h, φ', rfl, k1, hM2, k2.heap, k4, k5⟩
          | exit id => cases k1
          | goto l => cases k1
          | panic h => cases k1
      · cases hc

theorem callN_sound {E : Env} (hmix : P.follows .mixedOrders = true) (hE : EnvOK P E) : ∀ m, CallOK P (callN E m)
  | 0 => fun _ _ _ _ h => by simp [callN] at h
  | m + 1 => by
    intro tgt args h K hK B φ w cargs H hA
    cases tgt with
    | yield id =>
      intro L hL
      simp only [callN] at hK
      split at hK
      rotate_left
      · cases hK
      rename_i l hl
      split at hK
      rotate_left
      · cases hK
      rename_i hst
      split at hK
      rotate_left
      · cases hK
      rename_i ρ hρ
      obtain ⟨L', R, N, q1, q2, q3, q4, q5, q6, q7, q8, q9⟩ := loop_put H hl
      rw [hL] at q1; cases q1
      obtain ⟨s1, s2⟩ := setPs_sound q5 q3 hA hρ
      have hsize : (⟨cargs⟩ : Array Value).size = R.params.size := by
        have : R.params.toList.length = cargs.length := by rw [q4]; exact s2
        simpa using this.symm
      rw [run_yield q2 hsize]
      have htm : (R.params.zip ⟨cargs⟩).foldl (fun (tmps : Array Value) (x : Nat × Value) => tmps.setIfInBounds x.1 x.2) R.tmps = ((l.ps.zip cargs).foldl (fun t (x : Nat × Value) => t.setIfInBounds x.1 x.2) R.tmps) := by
        rw [← Array.foldl_toList, Array.toList_zip, q4]
      intro n
      refine roundIn_of_wpIn trivial ?_
      have O : Okay w.heap.size (some L.blk) [] true φ w { tmps := ((l.ps.zip cargs).foldl (fun t (x : Nat × Value) => t.setIfInBounds x.1 x.2) R.tmps), defers := [] } := ⟨Nat.le_refl _, .nil, fun _ => rfl, fun l' e => by cases e; exact ⟨R, q2⟩⟩
      show R.assign.wpIn (FW (some L.blk)) n P _ { tmps := (R.params.zip ⟨cargs⟩).foldl (fun (tmps : Array Value) (x : Nat × Value) => tmps.setIfInBounds x.1 x.2) R.tmps, defers := [] } w
      rw [htm]
      refine runC_sound (B := B) (S := w.heap.size) hmix (callN_sound hmix hE m) m l.asg R.assign q6 (.inl rfl) ⟨ρ, h⟩ _ φ _ w _ ⟨s1, H⟩ O hK ?_
      intro ex ex' σ' a' w' φ' k1 kE k2 k3 k4 k5
      cases kE <;> first | (cases k1; done) | skip
      simp only at k1
      split at k1
      rotate_left
      · cases k1
      rename_i l1 hl1
      split at k1
      rotate_left
      · cases k1
      rename_i hst1
      obtain ⟨L1, R1, N1, p1, p2, p3, p4, p5, p6, p7, p8, p9⟩ := loop_put k2.heap hl1 ⟨_, _, k4 _ _ _ hL⟩
      rw [k4 _ _ _ hL] at p1; cases p1
      rw [hst1] at p8
      obtain ⟨u1, u2⟩ := p9 { R1 with state := .busy } .busy rfl rfl rfl rfl rfl
      refine ⟨_, run_beginRound p2 p8.1, ?_⟩
      refine runC_sound (B := B) (S := w.heap.size) hmix (callN_sound hmix hE m) m l.body R.body q7 (.inl rfl) ⟨σ'.regs, σ'.h.put id (.loop { l1 with st := .busy })⟩ _ φ' a' _ _ ⟨k2.regs, u1⟩ (k3.mono u2 φ'.le_refl rfl) k1 ?_
      intro ex ex' σ2 a2 w2 φ2 j1 jE j2 j3 j4 j5
      simp only at j1
      split at j1
      rotate_left
      · cases j1
      rename_i l2 hl2
      obtain ⟨L2, R2, N2, t1, t2, t3, t4, t5, t6, t7, t8, t9⟩ := loop_put j2.heap hl2 ⟨_, _, j4 _ _ _ (k4 _ _ _ hL)⟩
      rw [j4 _ _ _ (k4 _ _ _ hL)] at t1; cases t1
      have ends : ∀ (st' : LState) (jump : Option Code) (b : Bool), jump.isNone = b → RelSt st' { R2 with state := if jump.isNone then .ready else .done, pending := jump } → K (.bool b) (σ2.h.put id (.loop { l2 with st := st' })) = true →
          ∃ v w', (Instr.endRound L.blk jump).run P w2 = .ok v w' ∧ Ends P B φ w K (.returned v) w' := by
        intro st' jump b hb hst' hk
        obtain ⟨v1, v2⟩ := t9 { R2 with state := if jump.isNone then .ready else .done, pending := jump } st' rfl rfl rfl rfl hst'
        refine ⟨_, _, run_endRound jump t2, .inl ⟨.bool b, _, _, φ2, rfl, hk, ?_, v1, Phi.le_trans k4 j4, k5.trans (u2.trans (j5.trans v2))⟩⟩
        rw [hb]; exact .bool b
      cases jE with
      | normal => exact ends .ready none true rfl ⟨rfl, rfl⟩ j1
      | ret => exact ends (.done .ret) (some .ret) false rfl ⟨rfl, rfl⟩ j1
      | exit i => exact ends (.done (.exit i)) (some (.exit i)) false rfl ⟨rfl, rfl⟩ j1
      | goto i => exact ends (.done (.goto i)) (some (.goto i)) false rfl ⟨rfl, rfl⟩ j1
      | panic h => cases j1
    | func f =>
      simp only [callN] at hK
      split at hK
      · rename_i p hp
        obtain ⟨q1, q2⟩ := hE.1 f p hp _ m (callN_sound hmix hE m) args h K hK
        exact .inr ⟨q1, q2 B φ w cargs H hA⟩
      split at hK
      · cases hK
      · rename_i fn hf
        obtain ⟨F, hF, hc⟩ := hE.2 f fn hf
        obtain ⟨_, hK⟩ := bif_true hK
        unfold compFn at hc
        split at hc
        · cases hc
        · rename_i c hbody
          split at hc
          · rename_i x res hx hres
            cases hn : F.name == "runtime.NumGoroutine" with
            | true => rw [hn] at hc; cases hc
            | false =>
              rw [hn, cond_false] at hc
              obtain ⟨np', res', body'⟩ := fn
              simp only [stripF, Option.some.injEq, AFun.mk.injEq] at hc
              obtain ⟨e1, rfl, rfl⟩ := hc
              simp only at hK
              have hrun : (callFunc f ⟨cargs⟩).run P w = .ok (.enter f ⟨cargs⟩) w := by
                have hn' : F.name ≠ "runtime.NumGoroutine" := by simpa using hn
                simp [callFunc, Sem.run_bind, hF, hn', hbody]
              refine .inl ⟨hrun, fun n => ?_⟩
              refine callsIn_of_wp_marks hF hbody trivial ?_
              have A : At P B F.ntmps φ ⟨initR 0 args .lf, h⟩ { tmps := (⟨cargs⟩ : Array Value) ++ Array.replicate (F.ntmps - (⟨cargs⟩ : Array Value).size) undef, defers := [] } w := ⟨frame_regs hA _, H⟩
              refine runT_sound (S := w.heap.size) (w0 := w) (φ0 := φ) hmix (callN_sound hmix hE m) (defN_sound hmix hE (callN_sound hmix hE m) m) m (Nat.le_refl _) H.base (fnEnd res K) ?_ body' c hx [] _ φ _ w A ⟨Nat.le_refl _, .nil, fun _ => rfl, fun l e => by cases e⟩ φ.le_refl (Gw.refl B w) hK
              intro φ' μ σ' a' u w' k1 k2 k3 k4 k5
              cases k2 with
              | ret =>
                simp only [fnEnd] at k1
                split at k1
                · rename_i vs hvs
                  obtain ⟨cv, e1, e2⟩ := results_sound k3 hres hvs
                  exact ⟨cv, e1, .inl ⟨oneOf vs, σ'.h, cv, φ', rfl, k1, e2, k3.heap, k4, k5⟩⟩
                · cases k1
              | pan hv =>
                exact .inr ⟨_, σ'.h, _, φ', rfl, k1, hv, k3.heap, k4, k5⟩
          · cases hc

end
end
end Go.Ab
