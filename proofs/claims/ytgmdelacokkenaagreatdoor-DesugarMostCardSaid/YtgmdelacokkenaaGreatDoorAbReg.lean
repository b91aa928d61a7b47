/-
  Regions: in the order of the text; in whatever order the model draws.
-/
import Derived.Test.YtgmdelacokkenaaGreatDoorAbEval
import Derived.OrdersIn
import Derived.LoopNIn
namespace Go.Ab
noncomputable section
set_option linter.unusedSimpArgs false
set_option linter.unusedVariables false

def FW (r : Option Nat) : Fence := { fn := fun _ => True, depth := none, alive := false, round := r }

theorem FW_room (r : Option Nat) (n : Nat) : (FW r).room n := fun _ h => by cases h
theorem FW_depth (r : Option Nat) (n : Nat) : (FW r).depth.isSome = true → 1 ≤ n := fun h => by cases h

/-- What is asked of the end of a call: that the rest has been found well. -/
def Ends (P : Program) (B : Base) (φ : Phi) (w : World) (K : Kont) (e : Ending) (w' : World) : Prop :=
  (∃ v h' cv φ', e = .returned cv ∧ K v h' = true ∧ RelV φ' v cv ∧ RelH P B φ' h' w' ∧ φ.le φ' ∧ Gw B w w') ∨
  ∃ v h' cv φ', e = .panicked [{ v := cv, recovered := false }] ∧ K (.pan v) h' = true ∧ RelV φ' v cv ∧ RelH P B φ' h' w' ∧ φ.le φ' ∧ Gw B w w'

def Lands (P : Program) (B : Base) (φ : Phi) (w : World) (K : Kont) : Result Next → Prop
  | .ok (.value cv) w' => Ends P B φ w K (.returned cv) w'
  | .ok .skip w' => Ends P B φ w K (.returned undef) w'
  | .ok (.enter f args) w' => ∀ n, CallsIn (FW none) n P f args w' (Ends P B φ w K)
  | .ok (.round l f tmps assign body) w' => ∀ n, RoundIn (FW none) n P l f tmps assign body w' (Ends P B φ w K)
  | .halt (.panic cv) w' => Ends P B φ w K (.panicked [{ v := cv, recovered := false }]) w'
  | _ => False

/-- Of a call of a function: it is entered; or it is one that is not walked. -/
def FuncOK (P : Program) (B : Base) (φ : Phi) (w : World) (K : Kont) (f : Nat) (args : List AV) (cargs : List Value) : Prop :=
  ((callFunc f ⟨cargs⟩).run P w = .ok (.enter f ⟨cargs⟩) w ∧ ∀ n, CallsIn (FW none) n P f ⟨cargs⟩ w (Ends P B φ w K)) ∨
  ((∀ v ∈ args, ∀ id, v ≠ .fn (.yield id) [] []) ∧ Lands P B φ w K ((callFunc f ⟨cargs⟩).run P w))

theorem FuncOK.lands {P : Program} {B : Base} {φ : Phi} {w : World} {K : Kont} {f : Nat} {args : List AV} {cargs : List Value} (h : FuncOK P B φ w K f args cargs) : Lands P B φ w K ((callFunc f ⟨cargs⟩).run P w) := by
  rcases h with ⟨h1, h2⟩ | ⟨_, h⟩
  · rw [h1]; exact h2
  · exact h

def CallOK (P : Program) (call : CallFn) : Prop :=
  ∀ (tgt : AFn) (args : List AV) (h : AHeap) (K : Kont), call tgt args h K = true → ∀ (B : Base) (φ : Phi) (w : World) (cargs : List Value), RelH P B φ h w → RelVs φ args cargs →
    match tgt with
    | .func f => FuncOK P B φ w K f args cargs
    | .yield id => ∀ L, φ id 0 = some L → Lands P B φ w K ((Instr.yield L.blk ⟨cargs⟩).run P w)

section
variable {P : Program} {B : Base} {φ : Phi} {h h' : AHeap} {w : World} {v : AV} {N : Nat} {ρ : Regs} {a : Act} {call : CallFn}

theorem Lands.of_sim {K : Kont} {r : Result Next} (hs : Sim P B φ h' v w r) (hK : K v h' = true) : Lands P B φ w K r := by
  obtain ⟨cv, w', φ', hr, h1, h2, h3, h4⟩ := hs
  rcases hr with rfl | ⟨rfl, rfl⟩
  · exact .inl ⟨v, h', cv, φ', rfl, hK, h1, h2, h3, h4⟩
  · exact .inl ⟨v, h', undef, φ', rfl, hK, h1, h2, h3, h4⟩

theorem evalK_plain {op : AOp} {K : Kont} (hn : isCall op = false) : evalK call ρ h op K = (match evalA ρ h op with | some (v, h') => K v h' | none => false) := by
  cases op <;> first | rfl | cases hn

theorem evalK_sound {o : Oper} {op : AOp} {K : Kont} (hcall : CallOK P call) (hR : RelR φ N ρ a.tmps) (H : RelH P B φ h w) (hc : compOp P o.op = some op) (he : evalK call ρ h op K = true) : Lands P B φ w K ((execOp a.eval o).run P w) := by
  have plain : compRaw P o.op = some op → isCall op = false → Lands P B φ w K ((execOp a.eval o).run P w) := by
    intro hr hn
    rw [evalK_plain hn] at he
    split at he
    · rename_i v h' hv
      exact Lands.of_sim (evalA_sound hR H hr hv) he
    · cases he
  have chk : compChk P o.op = some op → Lands P B φ w K ((execOp a.eval o).run P w) := by
    intro hk
    unfold compChk at hk
    split at hk
    · rename_i x hx
      cases hi : isCall x with
      | true => rw [hi] at hk; cases hk
      | false => rw [hi] at hk; cases hk; exact plain hx hi
    · cases hk
  unfold compOp at hc
  split at hc
  · rename_i c hop
    split at hc
    · rename_i f hf
      split at hc
      · rename_i g as hg has
        cases hc
        simp only [evalK] at he
        split at he
        · rename_i tgt first cap vs h1 h2
          have hr1 := ev_opd hR hg h1
          have hr2 := evs_opds hR has h2
          have hexec : (execOp a.eval o).run P w = (do let d ← Deferred.ofValue (a.eval f) (c.args.map a.eval); invoke d.target d.args : Sem Next).run P w := by
            simp only [execOp, hop, resolve, hf]
          rw [hexec]
          generalize a.eval f = cf at hr1
          have hargs : (c.args.map a.eval) = ⟨c.args.toList.map a.eval⟩ := by apply Array.ext'; simp
          cases hr1 with
          | func ha hb =>
            rename_i fid fst' cap'
            have := hcall _ _ _ _ he B φ w _ H ((ha.append hr2).append hb)
            simp only at this
            simp only [Deferred.ofValue, Sem.run_bind, Sem.run_pure, Result.andThen_ok, invoke]
            have e : (⟨fst'⟩ : Array Value) ++ c.args.map a.eval ++ ⟨cap'⟩ = ⟨fst' ++ c.args.toList.map a.eval ++ cap'⟩ := by
              rw [hargs]; apply Array.ext'; simp
            rw [e]
            exact FuncOK.lands this
          | yield hL =>
            rename_i id L
            have := hcall _ _ _ _ he B φ w (c.args.toList.map a.eval) H (by simpa using hr2)
            simp only at this
            simp only [Deferred.ofValue, Sem.run_bind, Sem.run_pure, Result.andThen_ok, invoke]
            have e : (#[] : Array Value) ++ c.args.map a.eval = ⟨c.args.toList.map a.eval⟩ := by
              rw [hargs]; apply Array.ext'; simp
            rw [e]
            exact this L hL
        · cases he
      · cases hc
    · split at hc
      · cases hc
        simp [evalK, evalA] at he
      · exact chk hc
    · exact chk hc
  · rename_i x hop
    split at hc
    · rename_i y hy
      cases hc
      simp only [evalK] at he
      split at he
      · rename_i tt u hu
        have hr := ev_opd hR hy hu
        have hex : (execOp a.eval o).run P w = .halt (.panic (a.eval x)) w := by
          generalize hcx : a.eval x = cx at hr
          cases hr with
          | ifc hv => simp [execOp, hop, Instr.panic, goPanic, hcx]
        rw [hex]
        exact .inr ⟨_, _, _, φ, rfl, he, hr, H, φ.le_refl, Gw.refl B w⟩
      · cases he
    · cases hc
  · split at hc
    · split at hc
      · cases hc
        simp [evalK, evalA] at he
      · cases hc
    · cases hc
  · rename_i x str hop
    split at hc
    · split at hc
      · rename_i y hy
        cases hc
        simp only [evalK] at he
        split at he
        · rename_i u hu
          obtain ⟨v, h', hK, hs⟩ := next_sound (ty := o.type) H (ev_opd hR hy hu) he
          have : Sim P B φ h' v w ((execOp a.eval o).run P w) := by
            simp only [execOp, hop]
            exact Sim.ofV hs
          exact Lands.of_sim this hK
        · cases he
      · cases hc
    · cases hc
  · exact chk hc

/-! ### One operation in a region -/
/-- A state of the machine beside an abstract one. -/
structure At (P : Program) (B : Base) (N : Nat) (φ : Phi) (σ : St) (a : Act) (w : World) : Prop where
  regs : RelR φ N σ.regs a.tmps
  heap : RelH P B φ σ.h w

theorem compOper_spec {ops : Array Oper} {o : Oper} {x : AOper} (hc : compOper P N ops o = some x) :
    x.dst = o.dst ∧ dstOk N o.dst = true ∧ x.op = (compOp P o.op).getD .fail ∧ ((o.guard = none ∧ x.grd = none) ∨ ∃ j wt g d, o.guard = some (j, wt) ∧ ops[j]? = some g ∧ g.dst = some d ∧ x.grd = some (d, wt)) := by
  unfold compOper at hc
  cases hd : dstOk N o.dst with
  | false => rw [hd] at hc; cases hc
  | true =>
    rw [hd, cond_true] at hc
    split at hc
    · rename_i hg; cases hc; exact ⟨rfl, rfl, rfl, .inl ⟨hg, rfl⟩⟩
    · rename_i j wt hg
      split at hc
      · rename_i g hgj
        split at hc
        · rename_i d hdd
          cases hc
          exact ⟨rfl, rfl, rfl, .inr ⟨j, wt, g, d, hg, hgj, hdd, rfl⟩⟩
        · cases hc
      · cases hc

theorem wanted_spec {ops : Array Oper} {o : Oper} {x : AOper} (hc : compOper P N ops o = some x) (hR : RelR φ N ρ a.tmps) {b : Bool} (hw : wantedA ρ x.grd = some b) : Region.wanted o (yielded ops a.tmps) = b := by
  obtain ⟨_, _, _, hg⟩ := compOper_spec hc
  unfold Region.wanted
  rcases hg with ⟨h1, h2⟩ | ⟨j, wt, g, d, h1, h2, h3, h4⟩
  · rw [h1]; rw [h2] at hw; simp [wantedA] at hw; subst hw; rfl
  · rw [h1]
    rw [h4] at hw
    simp only [wantedA] at hw
    split at hw
    · rename_i c hd
      cases hw
      obtain ⟨cv, e1, e2⟩ := hR.2 d _ hd
      cases e2
      have : yielded ops a.tmps j = some c := by simp [yielded, h2, h3, e1]
      simp [this]
    · rename_i v hnb hd
      cases hw
      obtain ⟨cv, e1, e2⟩ := hR.2 d _ hd
      have : yielded ops a.tmps j = none := by
        simp only [yielded, h2, Option.bind_some, h3, e1]
        cases e2 <;> first | rfl | exact absurd rfl (hnb _)
      simp [this]
    · cases hw

theorem notDefer {o : Oper} {op : AOp} (hc : compOp P o.op = some op) (hd : ∀ f as, op ≠ .dfr f as) : ∀ c, o.op ≠ .defer c := by
  intro c e
  rw [e] at hc
  simp only [compOp] at hc
  split at hc
  · split at hc
    · cases hc; exact hd _ _ rfl
    · cases hc
  · cases hc

theorem evalK_notDfr {ρ : Regs} {op : AOp} {K : Kont} (he : evalK call ρ h op K = true) : ∀ f as, op ≠ .dfr f as := by
  intro f as e
  subst e
  simp [evalK, evalA] at he

theorem lands_wpIn {r : Option Nat} {n : Nat} {o : Oper} {op : AOp} {K : Kont} {next : Act → World → Prop} {Q : Exit → Act → World → Prop} (hc : compOp P o.op = some op) (hnd : ∀ f as, op ≠ .dfr f as) (hl : Lands P B φ w K ((execOp a.eval o).run P w))
    (hnext : ∀ v h' cv φ' w', K v h' = true → RelV φ' v cv → RelH P B φ' h' w' → φ.le φ' → Gw B w w' → next (a.put o.dst cv) w')
    (hpan : ∀ v h' cv φ' w', K (.pan v) h' = true → RelV φ' v cv → RelH P B φ' h' w' → φ.le φ' → Gw B w w' → Q (.panic [{ v := cv, recovered := false }]) a w') : o.wpIn (FW r) n P a w next Q := by
  refine ⟨fun _ _ => trivial, ?_⟩
  rw [Oper.semAt_eq _ _ _ (notDefer hc hnd)]
  generalize (execOp a.eval o).run P w = res at hl
  have fin : ∀ e w', Ends P B φ w K e w' → (∃ cv, e = .returned cv ∧ next (a.put o.dst cv) w') ∨ ∃ cv, e = .panicked [{ v := cv, recovered := false }] ∧ Q (.panic [{ v := cv, recovered := false }]) a w' := by
    rintro e w' (⟨v, h', cv, φ', rfl, hK, g1, g2, g3, g4⟩ | ⟨v, h', cv, φ', rfl, hK, g1, g2, g3, g4⟩)
    · exact .inl ⟨cv, rfl, hnext v h' cv φ' w' hK g1 g2 g3 g4⟩
    · exact .inr ⟨cv, rfl, hpan v h' cv φ' w' hK g1 g2 g3 g4⟩
  cases res with
  | halt x w' =>
    cases x <;> try exact hl.elim
    case panic cv =>
      rcases fin _ _ hl with ⟨cv', e, hn⟩ | ⟨cv', e, hn⟩
      · cases e
      · cases e; exact hn
  | ok nx w' =>
    cases nx <;> try exact hl.elim
    case value cv =>
      rcases fin _ _ hl with ⟨cv', e, hn⟩ | ⟨cv', e, hn⟩
      · cases e; exact hn
      · cases e
    case skip =>
      rcases fin _ _ hl with ⟨cv', e, hn⟩ | ⟨cv', e, hn⟩
      · cases e; exact hn
      · cases e
    case enter f args =>
      refine ⟨FW_depth r n, ?_⟩
      refine CallsIn.mono (show CallsIn (FW r) (n - 1) P f args w' (Ends P B φ w K) from hl (n - 1)) ?_
      intro e w'' hee
      rcases fin _ _ hee with ⟨cv', rfl, hn⟩ | ⟨cv', rfl, hn⟩
      · exact hn
      · exact hn
    case round l f tmps assign body =>
      refine ⟨FW_depth r n, ?_⟩
      refine RoundIn.mono (show RoundIn (FW r) (n - 1) P l f tmps assign body w' (Ends P B φ w K) from hl (n - 1)) ?_
      intro e w'' hee
      rcases fin _ _ hee with ⟨cv', rfl, hn⟩ | ⟨cv', rfl, hn⟩
      · exact hn
      · exact hn

theorem notPan {φ : Phi} {v : AV} {cv : Value} (h : RelV φ v cv) : isPan v = none := by cases h <;> rfl

theorem compChk_raw {x : Op} {op : AOp} (h : compChk P x = some op) : compRaw P x = some op := by
  unfold compChk at h
  split at h
  · rename_i y hy
    cases hi : isCall y with
    | true => rw [hi] at h; cases h
    | false => rw [hi] at h; cases h; exact hy
  · cases h

theorem compOp_raw {x : Op} {op : AOp} (h : compOp P x = some op) (hn : isCall op = false) : compRaw P x = some op := by
  unfold compOp at h
  repeat' split at h
  all_goals first
    | (cases h; done)
    | (cases h; cases hn; done)
    | exact compChk_raw h
theorem evalA_notPan {o : Oper} {op : AOp} {v : AV} {h' : AHeap} (hR : RelR φ N ρ a.tmps) (H : RelH P B φ h w) (hc : compOp P o.op = some op) (hn : isCall op = false) (e : evalA ρ h op = some (v, h')) : isPan v = none := by
  obtain ⟨cv, w', φ', _, g1, _⟩ := evalA_sound (o := o) hR H (compOp_raw hc hn) e
  exact notPan g1

/-- An operation carried out, in the calculus of walks. -/
theorem oper_wpIn {r : Option Nat} {n : Nat} {o : Oper} {op : AOp} {K : Kont} {next : Act → World → Prop} {Q : Exit → Act → World → Prop} (hcall : CallOK P call) (hR : RelR φ N ρ a.tmps) (H : RelH P B φ h w) (hc : compOp P o.op = some op)
    (he : evalK call ρ h op K = true) (hnext : ∀ v h' cv φ' w', K v h' = true → RelV φ' v cv → RelH P B φ' h' w' → φ.le φ' → Gw B w w' → next (a.put o.dst cv) w')
    (hpan : isCall op = true → ∀ v h' cv φ' w', K (.pan v) h' = true → RelV φ' v cv → RelH P B φ' h' w' → φ.le φ' → Gw B w w' → Q (.panic [{ v := cv, recovered := false }]) a w') : o.wpIn (FW r) n P a w next Q := by
  cases hn : isCall op with
  | true => exact lands_wpIn hc (evalK_notDfr he) (evalK_sound hcall hR H hc he) hnext (hpan hn)
  | false =>
    have he0 := he
    rw [evalK_plain hn] at he
    split at he
    rotate_left
    · cases he
    rename_i v0 h0 hv
    have hv0 := evalA_notPan hR H hc hn hv
    have he2 : evalK call ρ h op (fun v' h' => @decide (v' = v0 ∧ h' = h0) (Classical.propDecidable _)) = true := by
      rw [evalK_plain hn, hv]; simp
    refine lands_wpIn hc (evalK_notDfr he0) (evalK_sound hcall hR H hc he2) ?_ ?_
    · intro v h' cv φ' w' hK
      have hK := @of_decide_eq_true _ (Classical.propDecidable _) hK
      obtain ⟨rfl, rfl⟩ := hK
      exact hnext _ _ cv φ' w' he
    · intro v h' cv φ' w' hK
      have hK := @of_decide_eq_true _ (Classical.propDecidable _) hK
      rw [← hK.1] at hv0; cases hv0

theorem panO_none {c : Bool} {v : AV} (h : isPan v = none) : panO c v = none := by cases c <;> simp [panO, h]

theorem put_defers (a : Act) (d : Option Tmp) (v : Value) : (a.put d v).defers = a.defers := by cases d <;> rfl

theorem oper_step {r : Option Nat} {n : Nat} {ops : Array Oper} {i : Nat} {o : Oper} {x : AOper} {σ : St} {K : KSt} {next : Act → World → Prop} {Q : Exit → Act → World → Prop} (hcall : CallOK P call) (hi : ops[i]? = some o) (hc : compOper P N ops o = some x) (A : At P B N φ σ a w)
    (hs : stepA call x σ K = true) (hnext : ∀ v σ' a' w' φ', K v σ' = true → isPan v = none → At P B N φ' σ' a' w' → a'.defers = a.defers → φ.le φ' → Gw B w w' → next a' w')
    (hpan : isCall x.op = true → ∀ v σ' cv w' φ', K (.pan v) σ' = true → σ'.regs = σ.regs → At P B N φ' σ' a w' → RelV φ' v cv → φ.le φ' → Gw B w w' → Q (.panic [{ v := cv, recovered := false }]) a w') : wpOpIn (FW r) n P ops Q i next a w := by
  obtain ⟨h1, h2, h3, h4⟩ := compOper_spec hc
  unfold wpOpIn
  simp only [hi]
  unfold stepA at hs
  split at hs
  · rename_i hw
    rw [wanted_spec hc A.regs hw]
    simp only [if_true]
    cases hop : compOp P o.op with
    | none => rw [hop] at h3; rw [h3] at hs; simp [evalK, evalA] at hs
    | some op =>
      rw [hop] at h3
      simp only [Option.getD_some] at h3
      rw [h3] at hs
      refine oper_wpIn (K := fun v h' => K v ⟨putP σ.regs (isCall x.op) x.dst v, h'⟩) hcall A.regs A.heap hop (by rw [h3]; exact hs) ?_ ?_
      · intro v h' cv φ' w' hK g1 g2 g3 g4
        have hn := notPan g1
        simp only [putP, panO_none hn] at hK
        exact hnext v _ _ w' φ' hK hn ⟨by simp only; rw [h1]; exact (A.regs.mono g3).put h2 g1, g2⟩ (put_defers _ _ _) g3 g4
      · intro hx v h' cv φ' w' hK g1 g2 g3 g4
        rw [← h3] at hx
        simp only [putP, hx, panO, cond_true, isPan] at hK
        exact hpan hx v ⟨σ.regs, h'⟩ cv w' φ' hK rfl ⟨A.regs.mono g3, g2⟩ g1 g3 g4
  · rename_i hw
    rw [wanted_spec hc A.regs hw]
    simp only [Bool.false_eq_true, if_false]
    refine ⟨fun _ _ => trivial, hnext _ _ _ w φ hs rfl ⟨?_, A.heap⟩ (put_defers _ _ _) φ.le_refl (Gw.refl B w)⟩
    simp only
    rw [h1]
    exact A.regs.put h2 (.tup .nil)
  · cases hs

/-- How a piece of code is left. -/
inductive ExRel (φ : Phi) : AExit → Exit → Prop
  | normal : ExRel φ .normal .normal
  | ret : ExRel φ .ret .ret
  | exit (id : Nat) : ExRel φ (.exit id) (.exit id)
  | goto (l : Nat) : ExRel φ (.goto l) (.goto l)
  | panic {v : AV} {cv : Value} (h : RelV φ v cv) : ExRel φ (.panic v) (.panic [{ v := cv, recovered := false }])

/-! ### A region in the order of its text -/
theorem runR_tail {r : Option Nat} {n : Nat} {ops : Array Oper} {Q : Exit → Act → World → Prop} {tl : List Nat} (hcall : CallOK P call) : ∀ (l : List Oper) (al : List AOper) (k : Nat) (σ : St) (K : KEx) (φ : Phi) (a : Act) (w : World),
    (∀ j, j < l.length → l[j]? = ops[k + j]?) → compOpers P N ops l = some al → At P B N φ σ a w → runR call al σ K = true →
    (∀ σ' a' w' φ', K .normal σ' = true → At P B N φ' σ' a' w' → a'.defers = a.defers → φ.le φ' → Gw B w w' → wpOpsIn (FW r) n P ops Q tl a' w') →
    (∀ v cv σ' a' w' φ', K (.panic v) σ' = true → RelV φ' v cv → At P B N φ' σ' a' w' → a'.defers = a.defers → φ.le φ' → Gw B w w' → Q (.panic [{ v := cv, recovered := false }]) a' w') →
    wpOpsIn (FW r) n P ops Q (List.range' k l.length ++ tl) a w
  | [], al, k, σ, K, φ, a, w, hl, hc, A, hr, hQ, hP => by
    simp [compOpers] at hc; subst hc
    simp only [runR] at hr
    exact hQ σ a w φ hr A rfl φ.le_refl (Gw.refl B w)
  | o :: l, al, k, σ, K, φ, a, w, hl, hc, A, hr, hQ, hP => by
    simp only [compOpers] at hc
    split at hc
    · rename_i x hx
      split at hc
      · rename_i al' hal
        cases hc
        simp only [runR] at hr
        have hk : ops[k]? = some o := by rw [← Nat.add_zero k, ← hl 0 (by simp)]; rfl
        simp only [List.length_cons, List.range'_succ, List.cons_append]
        rw [wpOpsIn_cons]
        refine oper_step hcall hk hx A hr ?_ ?_
        · intro v σ' a' w' φ' hK hn A' hd hle hg
          simp only [panO_none hn] at hK
          refine runR_tail hcall l al' (k + 1) σ' K φ' a' w' (fun j hj => ?_) hal A' hK ?_ ?_
          · have := hl (j + 1) (by simp; omega)
            rw [show k + 1 + j = k + (j + 1) by omega, ← this]
            rfl
          · intro σ2 a2 w2 φ2 hK2 A2 hd2 hle2 hg2
            exact hQ σ2 a2 w2 φ2 hK2 A2 (hd2.trans hd) (Phi.le_trans hle hle2) (hg.trans hg2)
          · intro v2 cv2 σ2 a2 w2 φ2 hK2 hE A2 hd2 hle2 hg2
            exact hP v2 cv2 σ2 a2 w2 φ2 hK2 hE A2 (hd2.trans hd) (Phi.le_trans hle hle2) (hg.trans hg2)
        · intro hx v σ' cv w' φ' hK _ A' hv hle hg
          simp only [hx, panO, cond_true, isPan] at hK
          exact hP v cv σ' a w' φ' hK hv A' rfl hle hg
      · cases hc
    · cases hc

theorem runR_sound {r : Option Nat} {n : Nat} {ops : Array Oper} {Q : Exit → Act → World → Prop} (hcall : CallOK P call) (l : List Oper) (al : List AOper) (k : Nat) (σ : St) (K : KEx) (φ : Phi) (a : Act) (w : World)
    (hl : ∀ j, l[j]? = ops[k + j]?) (hc : compOpers P N ops l = some al) (A : At P B N φ σ a w) (hr : runR call al σ K = true)
    (hQ : ∀ ex ex' σ' a' w' φ', K ex σ' = true → ExRel φ' ex ex' → At P B N φ' σ' a' w' → a'.defers = a.defers → φ.le φ' → Gw B w w' → Q ex' a' w') : wpOpsIn (FW r) n P ops Q (List.range' k l.length) a w := by
  have := runR_tail (r := r) (n := n) (Q := Q) (tl := []) hcall l al k σ K φ a w (fun j _ => hl j) hc A hr (fun σ' a' w' φ' k1 k2 k3 k4 k5 => hQ .normal _ σ' a' w' φ' k1 .normal k2 k3 k4 k5) (fun v cv σ' a' w' φ' k1 k2 k3 k4 k5 k6 => hQ (.panic v) _ σ' a' w' φ' k1 (.panic k2) k3 k4 k5 k6)
  rwa [List.append_nil] at this

theorem reg_sound {r : Option Nat} {n id : Nat} {ops : Array Oper} {al : List AOper} {Q : Exit → Act → World → Prop} {σ : St} {K : KEx} (hcall : CallOK P call) (hc : compOpers P N ops ops.toList = some al) (A : At P B N φ σ a w) (hr : runR call al σ K = true)
    (hQ : ∀ ex ex' σ' a' w' φ', K ex σ' = true → ExRel φ' ex ex' → At P B N φ' σ' a' w' → a'.defers = a.defers → φ.le φ' → Gw B w w' → Q ex' a' w') : (Code.region id ops false).wpIn (FW r) n P Q a w := by
  refine wpIn_region ?_
  have := runR_sound (r := r) (n := n) (Q := Q) hcall ops.toList al 0 σ K φ a w (fun j => by simp) hc A hr hQ
  rw [Array.length_toList, ← List.range_eq_range'] at this
  exact this

end
end
end Go.Ab
