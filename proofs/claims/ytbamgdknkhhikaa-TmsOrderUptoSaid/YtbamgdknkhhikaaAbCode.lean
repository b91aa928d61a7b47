/-
  Code, and calls of functions: whatever the abstract machine says well of, the model's machine does.
-/
import Derived.Test.YtbamgdknkhhikaaAbLoop
import Derived.LoopNIn
namespace Go.Ab
set_option linter.unusedSimpArgs false
set_option linter.unusedVariables false

def AExit.toExit : AExit → Exit
  | .normal => .normal
  | .ret => .ret
  | .exit id => .exit id
  | .goto l => .goto l

/-- What is asked where a piece of code is done. -/
def Then (P : Program) (B : Base) (N S : Nat) (r : Option Nat) (φ : Phi) (w : World) (K : KEx) (Q : Exit → Act → World → Prop) : Prop :=
  ∀ ex σ' a' w' φ', K ex σ' = true → At P B N φ' σ' a' w' → Okay S r w' a' → φ.le φ' → Gw B w w' → Q ex.toExit a' w'

section
variable {P : Program} {B : Base} {N S n : Nat} {call : CallFn} {r : Option Nat}

theorem Then.later {φ φ' : Phi} {w w' : World} {K : KEx} {Q : Exit → Act → World → Prop} (h : Then P B N S r φ w K Q) (hle : φ.le φ') (hg : Gw B w w') : Then P B N S r φ' w' K Q :=
  fun ex σ2 a2 w2 φ2 k1 k2 k3 k4 k5 => h ex σ2 a2 w2 φ2 k1 k2 k3 (Phi.le_trans hle k4) (hg.trans k5)

def CodeOK (P : Program) (B : Base) (N S n : Nat) (call : CallFn) (r : Option Nat) (m : Nat) (c : Code) (x : ACode) : Prop :=
  ∀ (σ : St) (K : KEx) (φ : Phi) (a : Act) (w : World) (Q : Exit → Act → World → Prop), At P B N φ σ a w → Okay S r w a → runC call m x σ K = true → Then P B N S r φ w K Q → c.wpIn (FW r) n P Q a w

theorem rounds_sound {m : Nat} {c : Code} {x : ACode} (hc : CodeOK P B N S n call r m c x) : ∀ (k : Nat) (σ : St) (K : KEx) (φ : Phi) (a : Act) (w : World) (Q : Exit → Act → World → Prop), At P B N φ σ a w → Okay S r w a → iter (runC call m x) K k σ = true → Then P B N S r φ w K Q → Code.roundsIn (FW r) n P c Q k a w
  | 0, σ, K, φ, a, w, Q, A, O, hr, hQ => by simp [iter] at hr
  | k + 1, σ, K, φ, a, w, Q, A, O, hr, hQ => by
    simp only [iter] at hr
    rw [roundsIn_succ]
    refine hc σ _ φ a w _ A O hr ?_
    intro ex σ' a' w' φ' k1 k2 k3 k4 k5
    cases ex with
    | normal => exact rounds_sound hc k σ' K φ' a' w' Q k2 k3 k1 (hQ.later k4 k5)
    | ret => exact hQ .ret σ' a' w' φ' k1 k2 k3 k4 k5
    | exit id => exact hQ (.exit id) σ' a' w' φ' k1 k2 k3 k4 k5
    | goto l => exact hQ (.goto l) σ' a' w' φ' k1 k2 k3 k4 k5

/-! ### What a piece of code was made of -/
theorem compDreg_is {as : List AOper} {ops : Array Oper} {x : ACode} (h : compDreg as ops = some x) : ∃ n0 rest, x = .dreg n0 rest := by
  obtain ⟨l0, pl, hok, e⟩ := compDreg_spec h
  exact ⟨_, _, e⟩

theorem comp_inv {c : Code} {y : ACode} (h : comp P N c = some y) :
    match y with
    | .skip => c = .skip
    | .reg as => ∃ id ops, c = .region id ops false ∧ compOpers P N ops ops.toList = some as
    | .dreg n0 rest => ∃ id ops as, c = .region id ops true ∧ compOpers P N ops ops.toList = some as ∧ compDreg as ops = some (.dreg n0 rest)
    | .seq a b => ∃ c1 c2, c = .seq c1 c2 ∧ comp P N c1 = some a ∧ comp P N c2 = some b
    | .cond o a b => ∃ p c1 c2, c = .cond p c1 c2 ∧ opdOf p = some o ∧ comp P N c1 = some a ∧ comp P N c2 = some b
    | .block id a => ∃ c1, c = .block id c1 ∧ comp P N c1 = some a
    | .loop a => ∃ c1, c = .loop c1 ∧ comp P N c1 = some a
    | .rf f ps a b => ∃ g ps' c1 c2, c = .rangeFunc g ps' c1 c2 ∧ opdOf g = some f ∧ ps = ps'.toList ∧ comp P N c1 = some a ∧ comp P N c2 = some b ∧ ps'.toList.all (Nat.blt · N) = true
    | .exit id => c = .exit id
    | .scope a l r => ∃ c1, c = .scope c1 ∧ comp P N c1 = some a ∧ findLabelA a l = some r
    | .label l => c = .label l
    | .goto l => c = .goto l
    | .ret => c = .ret
    | .refuse => ∃ why, c = .refuse why
    | .keep _ _ => False := by
  cases c with
  | skip => simp only [comp] at h; cases h; rfl
  | region id ops draw =>
    simp only [comp] at h
    split at h
    · rename_i as has
      cases draw with
      | true =>
        simp only [cond_true] at h
        obtain ⟨n0, rest, rfl⟩ := compDreg_is h
        exact ⟨id, ops, as, rfl, has, h⟩
      | false => simp only [cond_false] at h; cases h; exact ⟨id, ops, rfl, has⟩
    · cases h
  | seq a b =>
    simp only [comp] at h
    split at h
    · rename_i x y h1 h2; cases h; exact ⟨a, b, rfl, h1, h2⟩
    · cases h
  | cond o a b =>
    simp only [comp] at h
    split at h
    · rename_i p x y h0 h1 h2; cases h; exact ⟨o, a, b, rfl, h0, h1, h2⟩
    · cases h
  | block id a =>
    simp only [comp] at h
    split at h
    · rename_i x h1; cases h; exact ⟨a, rfl, h1⟩
    · cases h
  | loop a =>
    simp only [comp] at h
    split at h
    · rename_i x h1; cases h; exact ⟨a, rfl, h1⟩
    · cases h
  | rangeFunc g ps a b =>
    simp only [comp] at h
    split at h
    · rename_i f x y h0 h1 h2
      cases hps : ps.toList.all (Nat.blt · N) with
      | false => rw [hps] at h; cases h
      | true => rw [hps, cond_true] at h; cases h; exact ⟨g, ps, a, b, rfl, h0, rfl, h1, h2, hps⟩
    · cases h
  | exit id => simp only [comp] at h; cases h; rfl
  | scope a =>
    simp only [comp] at h
    split at h
    · rename_i x h1
      split at h
      · rename_i l hl
        split at h
        · rename_i r hr; cases h; exact ⟨a, rfl, h1, hr⟩
        · cases h
      · cases h
    · cases h
  | label l => simp only [comp] at h; cases h; rfl
  | goto l => simp only [comp] at h; cases h; rfl
  | ret => simp only [comp] at h; cases h; rfl
  | refuse why => simp only [comp] at h; cases h; exact ⟨why, rfl⟩

theorem findLabel_comp {l : Nat} : ∀ {c : Code} {x : ACode}, comp P N c = some x →
    match findLabelA x l with
    | some r => ∃ rest, findLabel c l = some rest ∧ comp P N rest = some r
    | none => findLabel c l = none := by
  intro c
  induction c with
  | seq a b iha ihb =>
    intro x h
    obtain ⟨y, z, hy, hz, rfl⟩ : ∃ y z, comp P N a = some y ∧ comp P N b = some z ∧ x = .seq y z := by
      simp only [comp] at h
      split at h
      · rename_i y z h1 h2; cases h; exact ⟨y, z, h1, h2, rfl⟩
      · cases h
    have ha := iha hy
    have hb := ihb hz
    simp only [findLabelA, findLabel]
    cases hfa : findLabelA y l with
    | some r =>
      rw [hfa] at ha
      obtain ⟨rest, e1, e2⟩ := ha
      simp only [e1]
      exact ⟨_, rfl, by simp only [comp, e2, hz]⟩
    | none =>
      rw [hfa] at ha
      simp only at ha
      simp only [ha]
      exact hb
  | label l' =>
    intro x h
    simp only [comp] at h; cases h
    simp only [findLabelA, findLabel]
    by_cases e : l' = l
    · subst e; simp [comp]
    · simp [e]
  | _ =>
    intro x h
    have hx := comp_inv h
    cases x <;> first | (exact hx.elim) | (simp only at hx; done) | skip
    all_goals first
      | (simp only [findLabelA, findLabel]; done)
      | (exfalso; simp only at hx; (repeat (first | (obtain ⟨_, hx⟩ := hx))); cases hx; done)
      | (exfalso; simp only at hx; obtain ⟨_, _, _, hx, _⟩ := hx; cases hx; done)
      | (exfalso; simp only at hx; obtain ⟨_, _, hx, _⟩ := hx; cases hx; done)
      | (exfalso; simp only at hx; obtain ⟨_, hx, _⟩ := hx; cases hx; done)
      | (exfalso; simp only at hx; cases hx; done)
      | simp [findLabelA, findLabel]

theorem jumps_sound {m l : Nat} {rest : Code} {x : ACode} (hc : CodeOK P B N S n call r m rest x) : ∀ (k : Nat) (σ : St) (K : KEx) (φ : Phi) (a : Act) (w : World) (Q : Exit → Act → World → Prop), At P B N φ σ a w → Okay S r w a → iterG l (runC call m x) K k σ = true → Then P B N S r φ w K Q → Code.jumpsIn (FW r) n P rest l Q k a w
  | 0, σ, K, φ, a, w, Q, A, O, hr, hQ => by simp [iterG] at hr
  | k + 1, σ, K, φ, a, w, Q, A, O, hr, hQ => by
    simp only [iterG] at hr
    show rest.wpIn (FW r) n P (Exit.jumpIn l (Code.jumpsIn (FW r) n P rest l Q k) Q) a w
    refine hc σ _ φ a w _ A O hr ?_
    intro ex σ' a' w' φ' k1 k2 k3 k4 k5
    cases ex with
    | normal => exact hQ .normal σ' a' w' φ' k1 k2 k3 k4 k5
    | ret => exact hQ .ret σ' a' w' φ' k1 k2 k3 k4 k5
    | exit id => exact hQ (.exit id) σ' a' w' φ' k1 k2 k3 k4 k5
    | goto l' =>
      simp only at k1
      cases hb : Nat.beq l' l with
      | false => rw [hb] at k1; cases k1
      | true =>
        rw [hb] at k1
        exact ⟨Nat.eq_of_beq_eq_true hb, jumps_sound hc k σ' K φ' a' w' Q k2 k3 k1 (hQ.later k4 k5)⟩

theorem At.keep {φ : Phi} {σ : St} {a : Act} {w : World} (A : At P B N φ σ a w) (ks : List Nat) : At P B N φ ⟨keepR ks σ.regs, σ.h⟩ a w := by
  refine ⟨⟨A.regs.1, fun t v ht => A.regs.2 t v ?_⟩, A.heap⟩
  simp only at ht
  revert ht
  induction ks with
  | nil => intro ht; simp only [keepR] at ht; rw [PT.get_lf] at ht; cases ht
  | cons k ks ih =>
    intro ht
    simp only [keepR] at ht
    split at ht
    · rename_i u hu
      rw [PT.get_set] at ht
      split at ht
      · rename_i e; subst e; cases ht; exact hu
      · exact ih ht
    · exact ih ht

theorem runC_sound (hmix : P.follows .mixedOrders = true) (hcall : CallOK P call) (m : Nat) : ∀ (x : ACode) (c : Code), comp P N c = some (strip x) → CodeOK P B N S n call r m c x := by
  intro x
  induction x with
  | keep ks y ih =>
    intro c hc σ K φ a w Q A O hr hQ
    exact ih c hc ⟨keepR ks σ.regs, σ.h⟩ K φ a w Q (A.keep ks) O hr hQ
  | skip =>
    intro c hc σ K φ a w Q A O hr hQ
    cases comp_inv hc
    exact wpIn_skip (hQ .normal σ a w φ hr A O φ.le_refl (Gw.refl B w))
  | refuse =>
    intro c hc σ K φ a w Q A O hr hQ
    cases hr
  | label l =>
    intro c hc σ K φ a w Q A O hr hQ
    cases comp_inv hc
    exact wpIn_label (hQ .normal σ a w φ hr A O φ.le_refl (Gw.refl B w))
  | goto l =>
    intro c hc σ K φ a w Q A O hr hQ
    cases comp_inv hc
    exact wpIn_goto (hQ (.goto l) σ a w φ hr A O φ.le_refl (Gw.refl B w))
  | reg as =>
    intro c hc σ K φ a w Q A O hr hQ
    obtain ⟨id, ops, rfl, has⟩ := comp_inv hc
    exact reg_sound hcall has A hr fun σ' a' w' φ' k1 k2 k3 k4 k5 => hQ .normal σ' a' w' φ' k1 k2 (O.mono k5 k3) k4 k5
  | dreg n0 rest =>
    intro c hc σ K φ a w Q A O hr hQ
    obtain ⟨id, ops, as, rfl, has, hd⟩ := comp_inv hc
    exact dreg_sound hmix hcall has hd A hr fun σ' a' w' φ' k1 k2 k3 k4 k5 => hQ .normal σ' a' w' φ' k1 k2 (O.mono k5 k3) k4 k5
  | seq y z ihc ihd =>
    intro c hc σ K φ a w Q A O hr hQ
    obtain ⟨c1, c2, rfl, hy, hz⟩ := comp_inv hc
    simp only [runC] at hr
    refine wpIn_seq (ihc c1 hy σ _ φ a w _ A O hr ?_)
    intro ex σ' a' w' φ' k1 k2 k3 k4 k5
    cases ex with
    | normal => exact ihd c2 hz σ' K φ' a' w' Q k2 k3 k1 (hQ.later k4 k5)
    | ret => exact hQ .ret σ' a' w' φ' k1 k2 k3 k4 k5
    | exit id => exact hQ (.exit id) σ' a' w' φ' k1 k2 k3 k4 k5
    | goto l => exact hQ (.goto l) σ' a' w' φ' k1 k2 k3 k4 k5
  | cond o y z ihc ihd =>
    intro c hc σ K φ a w Q A O hr hQ
    obtain ⟨p, c1, c2, rfl, hp, hy, hz⟩ := comp_inv hc
    simp only [runC] at hr
    split at hr
    · rename_i hv
      have := ev_opd A.regs hp hv
      generalize hev : a.eval p = u at this
      cases this
      exact wpIn_cond_true hev (ihc c1 hy σ K φ a w Q A O hr hQ)
    · rename_i hv
      have := ev_opd A.regs hp hv
      generalize hev : a.eval p = u at this
      cases this
      exact wpIn_cond_false hev (ihd c2 hz σ K φ a w Q A O hr hQ)
    · cases hr
  | block id y ih =>
    intro c hc σ K φ a w Q A O hr hQ
    obtain ⟨c1, rfl, hy⟩ := comp_inv hc
    simp only [runC] at hr
    refine wpIn_block (ih c1 hy σ _ φ a w _ A O hr ?_)
    intro ex σ' a' w' φ' k1 k2 k3 k4 k5
    cases ex with
    | normal => exact hQ .normal σ' a' w' φ' k1 k2 k3 k4 k5
    | ret => exact hQ .ret σ' a' w' φ' k1 k2 k3 k4 k5
    | goto l => exact hQ (.goto l) σ' a' w' φ' k1 k2 k3 k4 k5
    | exit i =>
      simp only at k1
      simp only [AExit.toExit, Exit.inBlock]
      cases hb : Nat.beq i id with
      | true =>
        rw [hb] at k1
        rw [if_pos (Nat.eq_of_beq_eq_true hb)]
        exact hQ .normal σ' a' w' φ' k1 k2 k3 k4 k5
      | false =>
        rw [hb] at k1
        rw [if_neg (nbeq_false.1 hb)]
        exact hQ (.exit i) σ' a' w' φ' k1 k2 k3 k4 k5
  | loop y ih =>
    intro c hc σ K φ a w Q A O hr hQ
    obtain ⟨c1, rfl, hy⟩ := comp_inv hc
    simp only [runC] at hr
    exact wpIn_loop_rounds m (rounds_sound (ih c1 hy) m σ K φ a w Q A O hr hQ)
  | exit id =>
    intro c hc σ K φ a w Q A O hr hQ
    cases comp_inv hc
    exact wpIn_exit (hQ (.exit id) σ a w φ hr A O φ.le_refl (Gw.refl B w))
  | ret =>
    intro c hc σ K φ a w Q A O hr hQ
    cases comp_inv hc
    exact wpIn_ret (hQ .ret σ a w φ hr A O φ.le_refl (Gw.refl B w))
  | scope y l z ihy ihz =>
    intro c hc σ K φ a w Q A O hr hQ
    obtain ⟨c1, rfl, hy, hl⟩ := comp_inv hc
    have hfl := findLabel_comp (l := l) hy
    rw [hl] at hfl
    obtain ⟨rest, e1, e2⟩ := hfl
    simp only [runC] at hr
    refine wpIn_scope_jumps e1 m (ihy c1 hy σ _ φ a w _ A O hr ?_)
    intro ex σ' a' w' φ' k1 k2 k3 k4 k5
    cases ex with
    | normal => exact hQ .normal σ' a' w' φ' k1 k2 k3 k4 k5
    | ret => exact hQ .ret σ' a' w' φ' k1 k2 k3 k4 k5
    | exit id => exact hQ (.exit id) σ' a' w' φ' k1 k2 k3 k4 k5
    | goto l' =>
      simp only at k1
      cases hb : Nat.beq l' l with
      | false => rw [hb] at k1; cases k1
      | true =>
        rw [hb] at k1
        exact ⟨Nat.eq_of_beq_eq_true hb, jumps_sound (ihz rest e2) m σ' K φ' a' w' Q k2 k3 k1 (hQ.later k4 k5)⟩
  | rf f ps xa xb iha ihb =>
    intro c hc σ K φ a w Q A O hr hQ
    obtain ⟨g, ps, assign, body, rfl, hy, rfl, ha, hb, hps⟩ := comp_inv hc
    have hpN : ∀ p ∈ ps.toList, p < N := fun p hp => by simpa using List.all_eq_true.1 hps p hp
    simp only [runC] at hr
    split at hr
    · rename_i fid first cap hv
      have hgv := ev_opd A.regs hy hv
      generalize hcg : a.eval g = cg at hgv
      cases hgv with
      | func hf hcp =>
        rename_i first' cap'
        refine wpIn_rangeFunc ?_
        intro fn _
        obtain ⟨w0, mark, R, henter, H0, hg0, hM, e1, e2, e3, e4, e5, e6⟩ := enter_sound A.heap O fn ps assign body
        have hle1 := Phi.le_add (φ := φ) (id := σ.h.sz) (g := 0) ⟨w0.heap.size, 0, 0, 0, 0⟩ (A.heap.fresh 0)
        have hp := H0.push (o := .loop { regs := σ.regs, ps := ps.toList, asg := xa, body := xb, st := .ready }) rfl (L := ⟨w0.heap.size, 0, 0, 0, 0⟩) (ob := .loop R) rfl (fun ds e => by cases e)
          ⟨_, R, N, Phi.add_same _ _ _ _, heap_alloc_new w0 _, by rw [e3]; exact A.regs.mono hle1, by rw [e4], hpN, by rw [e5]; exact ha, by rw [e6]; exact hb, ⟨e1, e2⟩⟩
        have hg1 : Gw B w0 (w0.alloc (.loop R)) := Gw.alloc H0.base (fun _ _ _ e => by cases e)
        have hcl := hcall (.func fid) _ _ _ hr B _ _ (first' ++ [.func (.yield w0.heap.size) #[] #[]] ++ cap') hp (((hf.mono hle1).append (.cons (.yield (Phi.add_same _ _ _ _)) .nil)).append (hcp.mono hle1))
        simp only at hcl
        obtain ⟨hrun, hcalls⟩ : (callFunc fid ⟨first' ++ [.func (.yield w0.heap.size) #[] #[]] ++ cap'⟩).run P (w0.alloc (.loop R)) = .ok (.enter fid _) (w0.alloc (.loop R)) ∧ _ := by
          rcases hcl with hcl | ⟨hno, _⟩
          · exact hcl
          · exact absurd rfl (hno (.fn (.yield σ.h.sz) [] []) (by simp) σ.h.sz)
        refine ⟨w0.heap.size, mark, w0.alloc (.loop R), { target := .fn (.func fid) ⟨cap'⟩, args := (⟨first'⟩ : Array Value) ++ #[.func (.yield w0.heap.size) #[] #[]] }, w0.alloc (.loop R), fid, ⟨first' ++ [.func (.yield w0.heap.size) #[] #[]] ++ cap'⟩, w0.alloc (.loop R), henter, ?_, fun _ _ => trivial, ?_, FW_depth r n, ?_⟩
        · have hcst : a.eval (.const (.func (.yield w0.heap.size) #[] #[])) = .func (.yield w0.heap.size) #[] #[] := rfl
          simp [resolve, Deferred.ofValue, hcg, hcst]
        · have : (⟨first'⟩ : Array Value) ++ #[.func (.yield w0.heap.size) #[] #[]] ++ ⟨cap'⟩ = ⟨first' ++ [.func (.yield w0.heap.size) #[] #[]] ++ cap'⟩ := by apply Array.ext'; simp
          simp only [invoke]
          rw [this]
          exact hrun
        · refine CallsIn.mono (show CallsIn (FW r) (n - 1) P fid _ _ _ from hcalls (n - 1)) ?_
          rintro e w3 ⟨v, h', cv, φ', rfl, hK, g1, g2, g3, g4⟩
          simp only at hK
          split at hK
          rotate_left
          · cases hK
          rename_i l2 hl2
          obtain ⟨L, R2, N2, q1, q2, q3, q4, q5, q6, q7, q8, q9⟩ := loop_put g2 hl2 ⟨_, _, g3 _ _ _ (Phi.add_same _ _ _ _)⟩
          have hL : φ' σ.h.sz 0 = some ⟨w0.heap.size, 0, 0, 0, 0⟩ := g3 _ _ _ (Phi.add_same _ _ _ _)
          rw [hL] at q1; cases q1
          obtain ⟨u1, u2⟩ := q9 { R2 with state := .exhausted } .exh rfl rfl rfl rfl rfl
          have hgw : Gw B w0 _ := hg1.trans (g4.trans u2)
          have A4 : At P B N φ' ⟨σ.regs, h'.put σ.h.sz (.loop { l2 with st := .exh })⟩ { a with defers := mark ++ a.defers } (w3.putObj w0.heap.size (.loop { R2 with state := .exhausted })) := ⟨A.regs.mono (Phi.le_trans hle1 g3), u1⟩
          have O4 : Okay S r (w3.putObj w0.heap.size (.loop { R2 with state := .exhausted })) { a with defers := mark ++ a.defers } :=
            ⟨Nat.le_trans O.size (Nat.le_trans hg0.size hgw.size), hM.mono hgw, fun l e => (let ⟨R', k⟩ := O.round l e; (hg0.trans hgw).loops l R' k)⟩
          have fin : ∀ ex, K ex ⟨σ.regs, h'.put σ.h.sz (.loop { l2 with st := .exh })⟩ = true → Q ex.toExit { a with defers := mark ++ a.defers } (w3.putObj w0.heap.size (.loop { R2 with state := .exhausted })) :=
            fun ex hk => hQ ex _ _ _ φ' hk A4 O4 (Phi.le_trans hle1 g3) (hg0.trans hgw)
          split at hK
          · rename_i hst
            rw [hst] at q8
            refine ⟨none, _, ?_, fin .normal hK⟩
            rw [run_endLoop q2 (by rw [q8.1]; decide), q8.2]
          · rename_i ex hst
            rw [hst] at q8
            obtain ⟨s1, s2⟩ := q8
            have hend := run_endLoop (P := P) q2 (by rw [s1]; decide)
            cases ex with
            | normal => exact s2.elim
            | ret =>
              simp only at s2
              exact ⟨some .ret, _, hend.trans (congrArg (fun j => Result.ok j _) s2), wpIn_ret (fin .ret hK)⟩
            | exit id =>
              simp only at s2
              exact ⟨some (.exit id), _, hend.trans (congrArg (fun j => Result.ok j _) s2), wpIn_exit (fin (.exit id) hK)⟩
            | goto l =>
              simp only at s2
              exact ⟨some (.goto l), _, hend.trans (congrArg (fun j => Result.ok j _) s2), wpIn_goto (fin (.goto l) hK)⟩
          · cases hK
    · cases hr

/-! ### Calls -/
def resOne (tmps : Array Value) : ResultVar → Sem Value
  | .tmp t => pure (tmps.getD t undef)
  | .cell a t => do loadVar t (← asAddr (tmps.getD a undef))

def RunsTo (P : Program) (w : World) {α β : Type} (f : α → Sem β) : List α → List β → Prop
  | [], [] => True
  | x :: l, v :: m => (f x).run P w = .ok v w ∧ RunsTo P w f l m
  | _, _ => False

theorem mapM_run {α β : Type} {w : World} {f : α → Sem β} : ∀ {l : List α} {m : List β}, RunsTo P w f l m → (l.mapM f).run P w = .ok m w
  | [], [], _ => by simp
  | [], _ :: _, h => h.elim
  | _ :: _, [], h => h.elim
  | x :: l, v :: m, h => by
    rw [List.mapM_cons, Sem.run_bind, h.1, Result.andThen_ok, Sem.run_bind, mapM_run h.2]
    simp

theorem results_each {φ : Phi} {σ : St} {a : Act} {w : World} (A : At P B N φ σ a w) : ∀ {l : List ResultVar} {res : List (Nat × Option (Bool × Nat))} {vs : List AV}, resOf P l = some res → resultsA σ.regs σ.h res = some vs →
    ∃ cvs, RunsTo P w (resOne a.tmps) l cvs ∧ RelVs φ vs cvs
  | [], res, vs, hr, hv => by
    simp [resOf] at hr; subst hr
    simp [resultsA] at hv; subst hv
    exact ⟨[], trivial, .nil⟩
  | .tmp t :: l, res, vs, hr, hv => by
    simp only [resOf, Option.bind_eq_bind, Option.pure_def] at hr
    cases hl : resOf P l with
    | none => simp [hl] at hr
    | some res' =>
      simp [hl] at hr; subst hr
      simp only [resultsA, resultA] at hv
      split at hv
      · rename_i v h1
        split at hv
        · rename_i vs' h2
          cases hv
          obtain ⟨cvs, g1, g2⟩ := results_each A hl h2
          obtain ⟨cv, e1, e2⟩ := A.regs.2 t v h1
          exact ⟨cv :: cvs, ⟨by simp [resOne, e1], g1⟩, .cons e2 g2⟩
        · cases hv
      · cases hv
  | .cell x t :: l, res, vs, hr, hv => by
    simp only [resOf, Option.bind_eq_bind, Option.pure_def] at hr
    cases hl : resOf P l with
    | none => cases hag : isAggT P t <;> cases hs : sizeT P t <;> simp [hl, hag, hs] at hr
    | some res' =>
      cases hag : isAggT P t with
      | none => simp [hag] at hr
      | some ag =>
        cases hs : sizeT P t with
        | none => simp [hag, hs] at hr
        | some sz =>
          simp [hl, hag, hs] at hr; subst hr
          simp only [resultsA, resultA] at hv
          split at hv
          · rename_i v h1
            split at h1
            · rename_i p hp
              split at hv
              · rename_i vs' h2
                cases hv
                obtain ⟨cvs, g1, g2⟩ := results_each A hl h2
                obtain ⟨cp, e1, e2⟩ := A.regs.2 x p hp
                obtain ⟨cv, q1, q2, q3⟩ := load_sound A.heap e2 h1 hag hs
                have hptr : ∃ Ad, cp = .pointer (some Ad) := by
                  unfold loadA at h1
                  cases e2 <;> first | (cases h1; done) | exact ⟨_, rfl⟩
                obtain ⟨Ad, rfl⟩ := hptr
                exact ⟨cv :: cvs, ⟨by simp [resOne, e1, asAddr, q2 Ad rfl], g1⟩, .cons q3 g2⟩
              · cases hv
            · cases h1
          · cases hv

theorem relV_oneOf {φ : Phi} {vs : List AV} {cvs : List Value} (h : RelVs φ vs cvs) : RelV φ (oneOf vs) (if h : (⟨cvs⟩ : Array Value).size = 1 then (⟨cvs⟩ : Array Value)[0] else .tuple ⟨cvs⟩) := by
  cases h with
  | nil => exact .tup .nil
  | cons h1 h2 =>
    cases h2 with
    | nil => simpa [oneOf] using h1
    | cons h2 h3 => simpa [oneOf] using RelV.tup (.cons h1 (.cons h2 h3))

theorem results_sound {φ : Phi} {σ : St} {a : Act} {w : World} {fn : Func} (A : At P B N φ σ a w) {res : List (Nat × Option (Bool × Nat))} {vs : List AV} (hr : resOf P fn.results.toList = some res) (hv : resultsA σ.regs σ.h res = some vs) :
    ∃ cv, (results fn a.tmps).run P w = .ok cv w ∧ RelV φ (oneOf vs) cv := by
  obtain ⟨cvs, g1, g2⟩ := results_each A hr hv
  have e : results fn a.tmps = (do let vs ← fn.results.mapM (resOne a.tmps); pure (if h : vs.size = 1 then vs[0] else .tuple vs)) := by
    unfold results
    congr 1
  refine ⟨_, ?_, relV_oneOf g2⟩
  rw [e, Sem.run_bind]
  rw [Array.mapM_eq_mapM_toList, Sem.run_map, mapM_run g1]
  rfl

/-! ### Calls of functions -/
theorem initR_get : ∀ {l : List AV} {i t : Nat} {ρ : Regs}, (initR i l ρ).get t = if i ≤ t ∧ t < i + l.length then l[t - i]? else ρ.get t
  | [], i, t, ρ => by simp [initR]; omega
  | v :: l, i, t, ρ => by
    simp only [initR]
    rw [initR_get, PT.get_set]
    by_cases h1 : t = i
    · subst h1
      rw [if_neg (by omega), if_pos rfl, if_pos (by simp)]
      simp
    · by_cases h2 : i + 1 ≤ t ∧ t < i + 1 + l.length
      · rw [if_pos h2, if_pos (by simp; omega)]
        have : t - i = (t - (i + 1)) + 1 := by omega
        rw [this]; rfl
      · rw [if_neg h2, if_neg h1, if_neg (by simp; omega)]

theorem frame_regs {φ : Phi} {args : List AV} {cargs : List Value} (h : RelVs φ args cargs) (N : Nat) : RelR φ N (initR 0 args .lf) ((⟨cargs⟩ : Array Value) ++ Array.replicate (N - (⟨cargs⟩ : Array Value).size) undef) := by
  refine ⟨by simp; omega, fun t v ht => ?_⟩
  rw [initR_get] at ht
  split at ht
  · rename_i hlt
    obtain ⟨cv, e1, e2⟩ := h.get (i := t) (a := v) (by simpa using ht)
    refine ⟨cv, ?_, e2⟩
    have : t < cargs.length := (List.getElem?_eq_some_iff.1 e1).1
    rw [Array.getElem?_append_left (by simpa using this)]
    simpa using e1
  · rw [PT.get_lf] at ht; cases ht

/-- A function that is not walked: what is said of it holds of the model's. -/
def PrimOK (P : Program) (f : Nat) (p : CallFn → Nat → List AV → AHeap → Kont → Bool) : Prop :=
  ∀ (call : CallFn) (n : Nat), CallOK P call → ∀ (args : List AV) (h : AHeap) (K : Kont), p call n args h K = true → (∀ v ∈ args, ∀ id, v ≠ .fn (.yield id) [] []) ∧ ∀ (B : Base) (φ : Phi) (w : World) (cargs : List Value), RelH P B φ h w → RelVs φ args cargs → Lands P B φ w K ((callFunc f ⟨cargs⟩).run P w)

def EnvOK (P : Program) (E : Env) : Prop := (∀ f p, E.prim f = some p → PrimOK P f p) ∧ ∀ f fn, E.code f = some fn → ∃ F, P.funcs[f]? = some F ∧ compFn P F = some (stripF fn)

theorem setPs_sound {φ : Phi} : ∀ {ps : List Nat} {vs : List AV} {ρ ρ' : Regs} {tmps : Array Value} {cvs : List Value}, (∀ p ∈ ps, p < N) → RelR φ N ρ tmps → RelVs φ vs cvs → setPs ps vs ρ = some ρ' →
    RelR φ N ρ' ((ps.zip cvs).foldl (fun t (x : Nat × Value) => t.setIfInBounds x.1 x.2) tmps) ∧ ps.length = cvs.length
  | [], [], ρ, ρ', tmps, cvs, _, hR, hv, hs => by
    cases hv
    simp [setPs] at hs; subst hs
    exact ⟨hR, rfl⟩
  | [], _ :: _, _, _, _, _, _, _, _, hs => by simp [setPs] at hs
  | _ :: _, [], _, _, _, _, _, _, _, hs => by simp [setPs] at hs
  | p :: ps, v :: vs, ρ, ρ', tmps, cvs, hN, hR, hv, hs => by
    cases hv with
    | cons h1 h2 =>
      rename_i cv cvs'
      simp only [setPs] at hs
      obtain ⟨k1, k2⟩ := setPs_sound (fun q hq => hN q (List.mem_cons_of_mem _ hq)) (hR.set (hN p List.mem_cons_self) h1) h2 hs
      exact ⟨k1, by simp [k2]⟩

theorem callN_sound {E : Env} (hmix : P.follows .mixedOrders = true) (hE : EnvOK P E) : ∀ m, CallOK P (callN E m)
  | 0 => fun _ _ _ _ h => by simp [callN] at h
  | m + 1 => by
    intro tgt args h K hK B φ w cargs H hA
    cases tgt with
    | yield id =>
      intro L hL
      simp only [callN] at hK
      split at hK
      rotate_left
      · cases hK
      rename_i l hl
      split at hK
      rotate_left
      · cases hK
      rename_i hst
      split at hK
      rotate_left
      · cases hK
      rename_i ρ hρ
      obtain ⟨L', R, N, q1, q2, q3, q4, q5, q6, q7, q8, q9⟩ := loop_put H hl
      rw [hL] at q1; cases q1
      obtain ⟨s1, s2⟩ := setPs_sound q5 q3 hA hρ
      have hsize : (⟨cargs⟩ : Array Value).size = R.params.size := by
        have : R.params.toList.length = cargs.length := by rw [q4]; exact s2
        simpa using this.symm
      rw [run_yield q2 hsize]
      have htm : (R.params.zip ⟨cargs⟩).foldl (fun (tmps : Array Value) (x : Nat × Value) => tmps.setIfInBounds x.1 x.2) R.tmps = ((l.ps.zip cargs).foldl (fun t (x : Nat × Value) => t.setIfInBounds x.1 x.2) R.tmps) := by
        rw [← Array.foldl_toList, Array.toList_zip, q4]
      intro n
      refine roundIn_of_wpIn trivial ?_
      have O : Okay w.heap.size (some L.blk) w { tmps := ((l.ps.zip cargs).foldl (fun t (x : Nat × Value) => t.setIfInBounds x.1 x.2) R.tmps), defers := [] } := ⟨Nat.le_refl _, trivial, fun l' e => by cases e; exact ⟨R, q2⟩⟩
      show R.assign.wpIn (FW (some L.blk)) n P _ { tmps := (R.params.zip ⟨cargs⟩).foldl (fun (tmps : Array Value) (x : Nat × Value) => tmps.setIfInBounds x.1 x.2) R.tmps, defers := [] } w
      rw [htm]
      refine runC_sound (B := B) (S := w.heap.size) hmix (callN_sound hmix hE m) m l.asg R.assign q6 ⟨ρ, h⟩ _ φ _ w _ ⟨s1, H⟩ O hK ?_
      intro ex σ' a' w' φ' k1 k2 k3 k4 k5
      cases ex <;> first | (cases k1; done) | skip
      simp only at k1
      split at k1
      rotate_left
      · cases k1
      rename_i l1 hl1
      split at k1
      rotate_left
      · cases k1
      rename_i hst1
      obtain ⟨L1, R1, N1, p1, p2, p3, p4, p5, p6, p7, p8, p9⟩ := loop_put k2.heap hl1 ⟨_, _, k4 _ _ _ hL⟩
      rw [k4 _ _ _ hL] at p1; cases p1
      rw [hst1] at p8
      obtain ⟨u1, u2⟩ := p9 { R1 with state := .busy } .busy rfl rfl rfl rfl rfl
      refine ⟨_, run_beginRound p2 p8.1, ?_⟩
      refine runC_sound (B := B) (S := w.heap.size) hmix (callN_sound hmix hE m) m l.body R.body q7 ⟨σ'.regs, σ'.h.put id (.loop { l1 with st := .busy })⟩ _ φ' a' _ _ ⟨k2.regs, u1⟩ (k3.mono u2 rfl) k1 ?_
      intro ex σ2 a2 w2 φ2 j1 j2 j3 j4 j5
      simp only at j1
      split at j1
      rotate_left
      · cases j1
      rename_i l2 hl2
      obtain ⟨L2, R2, N2, t1, t2, t3, t4, t5, t6, t7, t8, t9⟩ := loop_put j2.heap hl2 ⟨_, _, j4 _ _ _ (k4 _ _ _ hL)⟩
      rw [j4 _ _ _ (k4 _ _ _ hL)] at t1; cases t1
      have ends : ∀ (st' : LState) (jump : Option Code) (b : Bool), jump.isNone = b → RelSt st' { R2 with state := if jump.isNone then .ready else .done, pending := jump } → K (.bool b) (σ2.h.put id (.loop { l2 with st := st' })) = true →
          ∃ v w', (Instr.endRound L.blk jump).run P w2 = .ok v w' ∧ Ends P B φ w K (.returned v) w' := by
        intro st' jump b hb hst' hk
        obtain ⟨v1, v2⟩ := t9 { R2 with state := if jump.isNone then .ready else .done, pending := jump } st' rfl rfl rfl rfl hst'
        refine ⟨_, _, run_endRound jump t2, .bool b, _, _, φ2, rfl, hk, ?_, v1, Phi.le_trans k4 j4, k5.trans (u2.trans (j5.trans v2))⟩
        rw [hb]; exact .bool b
      cases ex with
      | normal => exact ends .ready none true rfl ⟨rfl, rfl⟩ j1
      | ret => exact ends (.done .ret) (some .ret) false rfl ⟨rfl, rfl⟩ j1
      | exit i => exact ends (.done (.exit i)) (some (.exit i)) false rfl ⟨rfl, rfl⟩ j1
      | goto i => exact ends (.done (.goto i)) (some (.goto i)) false rfl ⟨rfl, rfl⟩ j1
    | func f =>
      simp only [callN] at hK
      split at hK
      · rename_i p hp
        obtain ⟨q1, q2⟩ := hE.1 f p hp _ m (callN_sound hmix hE m) args h K hK
        exact .inr ⟨q1, q2 B φ w cargs H hA⟩
      split at hK
      · cases hK
      · rename_i fn hf
        obtain ⟨F, hF, hc⟩ := hE.2 f fn hf
        obtain ⟨_, hK⟩ := bif_true hK
        unfold compFn at hc
        split at hc
        · cases hc
        · rename_i c hbody
          split at hc
          · rename_i x res hx hres
            cases hn : F.name == "runtime.NumGoroutine" with
            | true => rw [hn] at hc; cases hc
            | false =>
              rw [hn, cond_false] at hc
              obtain ⟨np', res', body'⟩ := fn
              simp only [stripF, Option.some.injEq, AFun.mk.injEq] at hc
              obtain ⟨e1, rfl, rfl⟩ := hc
              simp only at hK
              have hrun : (callFunc f ⟨cargs⟩).run P w = .ok (.enter f ⟨cargs⟩) w := by
                have hn' : F.name ≠ "runtime.NumGoroutine" := by simpa using hn
                simp [callFunc, Sem.run_bind, hF, hn', hbody]
              refine .inl ⟨hrun, fun n => ?_⟩
              refine callsIn_of_wp_marks hF hbody trivial ?_
              have A : At P B F.ntmps φ ⟨initR 0 args .lf, h⟩ { tmps := (⟨cargs⟩ : Array Value) ++ Array.replicate (F.ntmps - (⟨cargs⟩ : Array Value).size) undef, defers := [] } w := ⟨frame_regs hA _, H⟩
              refine runC_sound (S := w.heap.size) hmix (callN_sound hmix hE m) m body' c hx _ _ φ _ w _ A ⟨Nat.le_refl _, trivial, fun l e => by cases e⟩ hK ?_
              intro ex σ' a' w' φ' k1 k2 k3 k4 k5
              have fin : (match resultsA σ'.regs σ'.h res with | some l => K (oneOf l) σ'.h | none => false) = true → LeavesInM (FW none) n P F a'.tmps (Ends P B φ w K) a'.defers .returning w' := by
                intro hk
                split at hk
                · rename_i vs hvs
                  refine leaves_sound (B := B) (φ := φ') (h := σ'.h) (Nat.le_refl _) H.base ?_ a'.defers w' k3.marks k2.heap k5
                  intro w2 H2 hg2
                  have A2 : At P B F.ntmps φ' σ' a' w2 := ⟨k2.regs, H2⟩
                  obtain ⟨cv, e1, e2⟩ := results_sound A2 hres hvs
                  exact ⟨cv, e1, oneOf vs, σ'.h, cv, φ', rfl, hk, e2, H2, k4, hg2⟩
                · cases hk
              cases ex with
              | normal => exact fin k1
              | ret => exact fin k1
              | exit id => cases k1
              | goto l => cases k1
          · cases hc

end
end Go.Ab
