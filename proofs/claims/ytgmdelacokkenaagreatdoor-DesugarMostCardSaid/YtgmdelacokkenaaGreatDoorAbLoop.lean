/-
  The record of a loop that ranges over a function; the marks that such loops leave.
-/
import Derived.Test.YtgmdelacokkenaaGreatDoorAbDraw
import Derived.RangeFuncRecord
import Derived.RangeFuncLeaves
namespace Go.Ab
noncomputable section
set_option linter.unusedSimpArgs false
set_option linter.unusedVariables false

/-- The deferred calls: blocks of rounds, in each of which none lies; closures. -/
inductive Defs (S : Nat) (φ : Phi) (w : World) : List Deferred → List (AV × List AV) → Prop
  | nil : Defs S φ w [] []
  | mark {d : Deferred} {ds : List Deferred} {p : List (AV × List AV)} (D : Nat) (h1 : d.target = .collected D) (h2 : S ≤ D) (h3 : w.heap[D]? = some (Obj.deferred (some []))) (h4 : ∀ d' ∈ ds, d'.target ≠ .collected D) (t : Defs S φ w ds p) : Defs S φ w (d :: ds) p
  | fn {d : Deferred} {ds : List Deferred} {p : List (AV × List AV)} {g : Nat} {first cap vs : List AV} {cf cc cv : List Value} (h1 : d.target = .fn (.func g) ⟨cc⟩) (h2 : d.args = ⟨cf ++ cv⟩) (h3 : RelVs φ first cf) (h4 : RelVs φ cap cc) (h5 : RelVs φ vs cv) (t : Defs S φ w ds p) : Defs S φ w (d :: ds) ((.fn (.func g) first cap, vs) :: p)

theorem Defs.mono {S B : Nat} {φ φ' : Phi} {w w' : World} (hg : Gw B w w') (hle : φ.le φ') : ∀ {ds : List Deferred} {p : List (AV × List AV)}, Defs S φ w ds p → Defs S φ' w' ds p
  | _, _, .nil => .nil
  | _, _, .mark D h1 h2 h3 h4 t => .mark D h1 h2 (hg.defd D _ h3) h4 (Defs.mono hg hle t)
  | _, _, .fn h1 h2 h3 h4 h5 t => .fn h1 h2 (h3.mono hle) (h4.mono hle) (h5.mono hle) (Defs.mono hg hle t)

theorem Defs.lt {S : Nat} {φ : Phi} {w : World} : ∀ {ds : List Deferred} {p : List (AV × List AV)}, Defs S φ w ds p → ∀ d ∈ ds, ∀ D, d.target = .collected D → D < w.heap.size
  | _, _, .nil, _, h, _, _ => by cases h
  | _, _, .mark D h1 h2 h3 h4 t, d', hd', D', e => by
    rcases List.mem_cons.1 hd' with rfl | hd'
    · rw [h1] at e; cases e
      exact (Array.getElem?_eq_some_iff.1 h3).1
    · exact Defs.lt t d' hd' D' e
  | _, _, .fn h1 h2 h3 h4 h5 t, d', hd', D', e => by
    rcases List.mem_cons.1 hd' with rfl | hd'
    · rw [h1] at e; cases e
    · exact Defs.lt t d' hd' D' e

theorem Defs.put {S D : Nat} {φ : Phi} {w : World} {o : Obj} : ∀ {ds : List Deferred} {p : List (AV × List AV)}, Defs S φ w ds p → (∀ d' ∈ ds, d'.target ≠ .collected D) → Defs S φ (w.putObj D o) ds p
  | _, _, .nil, _ => .nil
  | _, _, .mark (d := d) D' h1 h2 h3 h4 t, hn => by
    refine .mark D' h1 h2 ?_ h4 (Defs.put t fun d' hd' => hn d' (List.mem_cons_of_mem _ hd'))
    rw [World.putObj_heap_other (fun e => hn d List.mem_cons_self (by rw [h1, e]))]
    exact h3
  | _, _, .fn h1 h2 h3 h4 h5 t, hn => .fn h1 h2 h3 h4 h5 (Defs.put t fun d' hd' => hn d' (List.mem_cons_of_mem _ hd'))

/-- What a frame bears besides its temporaries; 'mk': it may bear marks. -/
structure Okay (S : Nat) (r : Option Nat) (pend : List (AV × List AV)) (mk : Bool) (φ : Phi) (w : World) (a : Act) : Prop where
  size : S ≤ w.heap.size
  marks : Defs S φ w a.defers pend
  none : mk = false → a.defers = []
  round : ∀ l, r = some l → ∃ R, w.heap[l]? = some (Obj.loop R)

theorem Okay.mono {S B : Nat} {r : Option Nat} {pend : List (AV × List AV)} {mk : Bool} {φ φ' : Phi} {w w' : World} {a a' : Act} (h : Okay S r pend mk φ w a) (hg : Gw B w w') (hle : φ.le φ') (hd : a'.defers = a.defers) : Okay S r pend mk φ' w' a' :=
  ⟨Nat.le_trans h.size hg.size, by rw [hd]; exact h.marks.mono hg hle, fun e => by rw [hd]; exact h.none e, fun l e => let ⟨R, k⟩ := h.round l e; hg.loops l R k⟩

section
variable {P : Program} {B : Base} {N : Nat} {φ : Phi} {h : AHeap} {w : World}

theorem RelH.nodefBlock {D : Nat} {ds : Option (List Deferred)} (H : RelH P B φ h w) (hD : w.heap[D]? = some (Obj.deferred ds)) (o : Obj) : RelH P B φ h (w.putObj D o) :=
  H.keep (by simp) fun id g L hL => World.putObj_heap_other fun e => H.nodef id g L hL ds (by rw [e]; exact hD)

/-- A loop's record, turned. -/
theorem loop_put (H : RelH P B φ h w) {id : Nat} {l : ALoop} (hget : h.get id = some (.loop l)) (hdm : ∃ g L, φ id g = some L := by exact ⟨_, _, by assumption⟩) : ∃ L R N, φ id 0 = some L ∧ w.heap[L.blk]? = some (Obj.loop R) ∧ RelR φ N l.regs R.tmps ∧ R.params.toList = l.ps ∧ (∀ p ∈ l.ps, p < N) ∧ comp P N R.assign = some (strip l.asg) ∧ comp P N R.body = some (strip l.body) ∧ RelSt l.st R ∧
    ∀ (R' : Loop) (st' : LState), R'.tmps = R.tmps → R'.params = R.params → R'.assign = R.assign → R'.body = R.body → RelSt st' R' →
      RelH P B φ (h.put id (.loop { l with st := st' })) (w.putObj L.blk (.loop R')) ∧ Gw B w (w.putObj L.blk (.loop R')) := by
  obtain ⟨L, R, N, h1, h2, h3, h4, h5, h6, h7, h8⟩ := H.obj id _ hget hdm
  refine ⟨L, R, N, h1, h2, h3, h4, h5, h6, h7, h8, fun R' st' e1 e2 e3 e4 e5 => ?_⟩
  have hlt : L.blk < w.heap.size := H.lt id 0 L h1
  have hB : B ≤ L.blk := (H.own id _ 0 L hget h1).1 rfl
  refine ⟨H.update hget rfl rfl φ.le_refl (fun _ _ _ => rfl) (fun g K e => .inl e) (by simp) (fun k _ hk => World.putObj_heap_other (fun e => hk 0 L h1 e.symm)) (NoDef.put w (fun ds e => by cases e)) ?_, ?_⟩
  · exact ⟨L, R', N, h1, World.putObj_heap_same hlt, by rw [e1]; exact h3, by rw [e2]; exact h4, h5, by rw [e3]; exact h6, by rw [e4]; exact h7, e5⟩
  · exact Gw.of_block h2 hB (fun ds e => by cases e) (fun r e => ⟨R', rfl⟩) (World.putObj_heap_same hlt) (fun _ _ _ e => by cases e) (fun _ _ _ e => by cases e) (fun k hk => World.putObj_heap_other hk) (by simp) rfl rfl rfl

/-- Entering such a loop. -/
theorem enter_sound {S : Nat} {r : Option Nat} {pend : List (AV × List AV)} {a : Act} (H : RelH P B φ h w) (O : Okay S r pend true φ w a) (fn : FuncId) (ps : Array Tmp) (assign body : Code) : ∃ w0 mark R, (Instr.enterLoop fn a.tmps ps assign body r).run P w = .ok (w0.heap.size, mark) (w0.alloc (.loop R)) ∧
    RelH P B φ h w0 ∧ Gw B w w0 ∧ Defs S φ w0 (mark ++ a.defers) pend ∧ R.state = .ready ∧ R.pending = none ∧ R.tmps = a.tmps ∧ R.params = ps ∧ R.assign = assign ∧ R.body = body := by
  cases r with
  | none =>
    have hg : Gw B w (w.alloc (.deferred (some []))) := Gw.alloc H.base (fun _ _ _ e => by cases e)
    refine ⟨w.alloc (.deferred (some [])), [{ target := .collected w.heap.size, args := #[] }], { state := .ready, pending := none, fn, tmps := a.tmps, params := ps, assign, body, defers := w.heap.size }, ?_, H.alloc _, hg, ?_, rfl, rfl, rfl, rfl, rfl, rfl⟩
    · exact (run_enterLoop_outer fn a.tmps ps assign body).trans (by simp)
    · refine .mark w.heap.size rfl O.size (heap_alloc_new w _) (fun d' hd' e => ?_) (O.marks.mono hg φ.le_refl)
      have := O.marks.lt d' hd' _ e
      omega
  | some l =>
    obtain ⟨R0, hR0⟩ := O.round l rfl
    refine ⟨w, [], { state := .ready, pending := none, fn, tmps := a.tmps, params := ps, assign, body, defers := R0.defers }, ?_, H, Gw.refl B w, O.marks, rfl, rfl, rfl, rfl, rfl, rfl⟩
    unfold Instr.enterLoop
    simp only [Sem.run_bind, run_getLoop hR0, Result.andThen_ok, Sem.run_pure, run_newObj_alloc]

/-- How a frame that is left stands. -/
inductive MRel (φ : Phi) : Mode → FrameMode → Prop
  | ret : MRel φ .ret .returning
  | pan {v : AV} {cv : Value} (h : RelV φ v cv) : MRel φ (.pan v) (.panicking [{ v := cv, recovered := false }])

theorem MRel.mono {φ' : Phi} (hle : φ.le φ') {μ : Mode} {u : FrameMode} (h : MRel φ μ u) : MRel φ' μ u := by
  cases h with
  | ret => exact .ret
  | pan h => exact .pan (h.mono hle)

/-- A deferred function does as is said of it. -/
def DefOK (P : Program) (df : DefFn) : Prop := ∀ (g : Nat) (args : List AV) (μ : Mode) (h : AHeap) (K : KEnd), df g args μ h K = true → ∀ (B : Base) (φ : Phi) (w : World) (cargs : List Value) (u : FrameMode), RelH P B φ h w → RelVs φ args cargs → MRel φ μ u →
  (callFunc g ⟨cargs⟩).run P w = .ok (.enter g ⟨cargs⟩) w ∧ ∀ n, CallsDIn (FW none) n P g ⟨cargs⟩ u w fun e u' w' => ∃ v μ' h' φ', e = .returned v ∧ K μ' h' = true ∧ MRel φ' μ' (settle u') ∧ RelH P B φ' h' w' ∧ φ.le φ' ∧ Gw B w w'

/-- A function's end: each mark is come to, each deferred call made. -/
theorem leaves_sound {df : DefFn} (hdf : DefOK P df) {n S : Nat} {fn : Func} {tmps : Array Value} {R : Ending → World → Prop} {w0 : World} {φ0 : Phi} (hS : w0.heap.size ≤ S) (hB : B ≤ S) (K : KEnd)
    (fin : ∀ φ μ h u w', K μ h = true → MRel φ μ u → RelH P B φ h w' → φ0.le φ → Gw B w0 w' → LeavesIn (FW none) n P fn tmps R [] u w') : ∀ (ds : List Deferred) (pend : List (AV × List AV)) (φ : Phi) (μ : Mode) (h : AHeap) (u : FrameMode) (w : World), Defs S φ w ds pend → ends df pend μ h K = true → MRel φ μ u → RelH P B φ h w → φ0.le φ → Gw B w0 w → LeavesInM (FW none) n P fn tmps R ds u w
  | [], pend, φ, μ, h, u, w, hD, hK, hM, H, hle, hg => by
    cases hD
    exact fin φ μ h u w hK hM H hle hg
  | d :: ds, pend, φ, μ, h, u, w, hD, hK, hM, H, hle, hg => by
    have hu : u ≠ .run := by cases hM <;> simp
    cases hD with
    | mark D h1 h2 h3 h4 h5 =>
      refine ⟨hu, .inl ⟨D, w.putObj D (.deferred none), h1, run_takeDeferred h3, ?_⟩⟩
      refine leaves_sound hdf hS hB K fin ds pend φ μ h u _ (h5.put h4) hK hM (H.nodefBlock h3 _) hle ?_
      have hlt : D < w.heap.size := (Array.getElem?_eq_some_iff.1 h3).1
      refine ⟨hg.os, hg.tape, hg.output, by simpa using hg.size, fun k hk => ?_, fun k ds' hk => ?_, fun k R' hk => ?_⟩
      · rw [World.putObj_heap_other (by omega)]; exact hg.below k hk
      · have := (Array.getElem?_eq_some_iff.1 hk).1
        rw [World.putObj_heap_other (by omega)]; exact hg.defd k ds' hk
      · have := (Array.getElem?_eq_some_iff.1 hk).1
        rw [World.putObj_heap_other (by omega)]; exact hg.loops k R' hk
    | fn h1 h2 h3 h4 h5 h6 =>
      rename_i p g first cap vs cf cc cv
      simp only [ends] at hK
      obtain ⟨q1, q2⟩ := hdf _ _ _ _ _ hK B φ w (cf ++ cv ++ cc) u H ((h3.append h5).append h4) hM
      refine ⟨hu, .inr ⟨FW_depth none n, .func g, ⟨cc⟩, g, ⟨cf ++ cv ++ cc⟩, h1, ?_, fun _ _ => trivial, ?_⟩⟩
      · have e : d.args ++ (⟨cc⟩ : Array Value) = ⟨cf ++ cv ++ cc⟩ := by rw [h2]; apply Array.ext'; simp
        rw [h1]
        simp only [invoke]
        rw [e]; exact q1
      · refine CallsDIn.mono (q2 (n - 1)) ?_
        rintro e u' w' ⟨v, μ', h', φ', rfl, k1, k2, k3, k4, k5⟩
        exact leaves_sound hdf hS hB K fin ds _ φ' μ' h' (settle u') w' (h6.mono k5 k4) k1 k2 k3 (Phi.le_trans hle k4) (hg.trans k5)

end

/-! ### A scope, jumped back in -/
def Exit.jumpIn (l : Nat) (J : Act → World → Prop) (Q : Exit → Act → World → Prop) : Exit → Act → World → Prop
  | .goto l', a, w => l' = l ∧ J a w
  | e, a, w => Q e a w

def Code.jumpsIn (F : Fence) (n : Nat) (P : Program) (rest : Code) (l : Nat) (Q : Exit → Act → World → Prop) : Nat → Act → World → Prop
  | 0, _, _ => False
  | m + 1, a, w => rest.wpIn F n P (Exit.jumpIn l (Code.jumpsIn F n P rest l Q m) Q) a w

section
variable {P : Program} {b : Frame} {a : Act} {k : List Item} {cs : List Frame} {w : World}
theorem stepR_scope {c : Code} : step P (lone (b.atR a (.code (.scope c) :: k)) cs w) = .next (lone (b.atR a (.code c :: .inScope c :: k)) cs w) :=
  step_lone_go (by simp [stepG, stepG.exec, Frame.atR])
theorem stepR_inScope {c : Code} : step P (lone (b.atR a (.inScope c :: k)) cs w) = .next (lone (b.atR a k) cs w) :=
  step_lone_go (by simp [stepG, stepG.exec, Frame.atR])
end

theorem wpIn_scope_jumps {F : Fence} {n : Nat} {P : Program} {Q : Exit → Act → World → Prop} {a : Act} {w : World} {c rest : Code} {l : Nat} (hf : findLabel c l = some rest) (m : Nat)
    (h : c.wpIn F n P (Exit.jumpIn l (Code.jumpsIn F n P rest l Q m) Q) a w) : (Code.scope c).wpIn F n P Q a w := by
  intro b k cs hro hb hr
  have hg : gotoIn l (.inScope c :: k) = some (.code rest :: .inScope c :: k) := by simp [gotoIn, hf]
  have key : ∀ m a w, Code.jumpsIn F n P rest l Q m a w →
      ∃ e a' w', Q e a' w' ∧ ArrivesIn (Machine.fenced P F) P (lone (b.atR a (.code rest :: .inScope c :: k)) cs w) b k cs e a' w' := by
    intro m
    induction m with
    | zero => intro a w h; exact h.elim
    | succ m ih =>
      intro a w h
      obtain ⟨e, a₁, w₁, hq, harr⟩ := h b (.inScope c :: k) cs hro hb hr
      cases e with
      | normal => exact ⟨.normal, a₁, w₁, hq, StepsIn.trans harr (.one (fenced_calm hb hr rfl) stepR_inScope)⟩
      | exit id => exact ⟨.exit id, a₁, w₁, hq, fun k' hk => harr.1 k' (by simp [exitTo, hk]), fun hr' hk => harr.2 hr' (by simp [exitTo, hk])⟩
      | goto l' =>
        obtain ⟨rfl, hJ⟩ := hq
        obtain ⟨e₂, a₂, w₂, hq₂, harr₂⟩ := ih a₁ w₁ hJ
        exact ⟨e₂, a₂, w₂, hq₂, .of_steps (harr.1 _ hg) harr₂⟩
      | ret => exact ⟨_, a₁, w₁, hq, harr⟩
      | panic ch => exact ⟨_, a₁, w₁, hq, harr⟩
      | outgrown => exact ⟨_, a₁, w₁, hq, harr⟩
  have h0 : (lone (b.atR a (.code (.scope c) :: k)) cs w).fenced P F := fenced_calm hb hr rfl
  obtain ⟨e, a₁, w₁, hq, harr⟩ := h b (.inScope c :: k) cs hro hb hr
  cases e with
  | normal => exact ⟨.normal, a₁, w₁, hq, .head h0 stepR_scope (StepsIn.trans harr (.one (fenced_calm hb hr rfl) stepR_inScope))⟩
  | exit id => exact ⟨.exit id, a₁, w₁, hq, fun k' hk => .head h0 stepR_scope (harr.1 k' (by simp [exitTo, hk])), fun hr' hk => (let ⟨k₁, h1, h2⟩ := harr.2 hr' (by simp [exitTo, hk]); ⟨k₁, h1, .head h0 stepR_scope h2⟩)⟩
  | goto l' =>
    obtain ⟨rfl, hJ⟩ := hq
    obtain ⟨e₂, a₂, w₂, hq₂, harr₂⟩ := key _ a₁ w₁ hJ
    exact ⟨e₂, a₂, w₂, hq₂, .of_steps (.head h0 stepR_scope (harr.1 _ hg)) harr₂⟩
  | ret => exact ⟨_, a₁, w₁, hq, .of_steps (.one h0 stepR_scope) harr⟩
  | panic ch => exact ⟨_, a₁, w₁, hq, .of_steps (.one h0 stepR_scope) harr⟩
  | outgrown => exact ⟨_, a₁, w₁, hq, .of_steps (.one h0 stepR_scope) harr⟩
end
end Go.Ab
