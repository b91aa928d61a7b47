/-
  A run in the kernel, with a table of functions of Lean: from it to the contract of a law that takes nothing.
-/
import Derived.Test.YtgmdelacokkenaaGreatDoorAbDn
import Derived.Test.YtgmdelacokkenaaGreatDoorAbPrim
import Derived.ChangeSame
namespace Go.Ab
noncomputable section
set_option linter.unusedSimpArgs false
set_option linter.unusedVariables false

def tabL : List (Nat × Sh) → PT Sh
  | [] => .lf
  | (k, s) :: l => (tabL l).set k s
def AllSh (E : Env) : List (Nat × Sh) → Prop
  | [] => True
  | (k, s) :: l => ShOK E k s ∧ AllSh E l
theorem tabL_ok {E : Env} : ∀ {l : List (Nat × Sh)}, AllSh E l → ∀ k s, (tabL l).get k = some s → ShOK E k s
  | [], _, k, s, h => by cases h
  | (j, t) :: l, ⟨h1, h2⟩, k, s, h => by
    simp only [tabL, PT.get_set] at h
    by_cases e : k = j
    · rw [if_pos e] at h; cases h; subst e; exact h1
    · rw [if_neg e] at h; exact tabL_ok h2 k s h

section
variable {P : Program} {E : Env}

/-- The heap with the variable in block 'b' as its object 0. -/
def startG (b : Nat) : AHeap := AHeap.empty.push (.gvar b)

theorem relH_gvar {W : World} {b : Nat} {te : TypeId} {pe : Value} (hc : W.cell? ⟨b, 0, none⟩ = some (.iface te pe)) :
    ∃ φ, RelH P (.of W.heap.size) φ (startG b) W := by
  have hex : ∃ o, W.heap[b]? = some o ∧ ∀ ds, o ≠ .deferred ds := by
    cases e : W.heap[b]? with
    | none => simp [World.cell?, e] at hc
    | some o => exact ⟨o, rfl, fun ds q => by subst q; simp [World.cell?, e] at hc⟩
  obtain ⟨o, ho, hnd⟩ := hex
  have hlt : b < W.heap.size := (Array.getElem?_eq_some_iff.1 ho).1
  have hget : ∀ id o', (startG b).get id = some o' → id = 0 ∧ o' = .gvar b := by
    intro id o' e
    unfold startG at e
    rw [AHeap.get_push] at e
    by_cases hi : id = AHeap.empty.sz
    · rw [if_pos hi] at e; cases e; exact ⟨hi, rfl⟩
    · rw [if_neg hi] at e; cases e
  let φ : Phi := fun a g => if a = 0 ∧ g = 0 then some ⟨b, 0, 0, 0, 0⟩ else none
  have hphi : ∀ a g L, φ a g = some L → a = 0 ∧ g = 0 ∧ L = ⟨b, 0, 0, 0, 0⟩ := by
    intro a g L e
    by_cases hi : a = 0 ∧ g = 0
    · simp only [φ, hi, and_self, if_true] at e; cases e; exact ⟨hi.1, hi.2, rfl⟩
    · simp only [φ, hi, if_false] at e; cases e
  refine ⟨φ, Nat.le_refl _, ?_, ?_, ?_, ?_, ?_, ?_, ?_, ?_⟩
  · intro id g L e
    obtain ⟨rfl, _, _⟩ := hphi _ _ _ e
    exact Nat.lt_succ_self 0
  · intro id h
    have h : 1 ≤ id := h
    unfold startG
    rw [AHeap.get_push, if_neg (show id ≠ AHeap.empty.sz by show id ≠ 0; omega)]
    rfl
  · intro id o' e _
    obtain ⟨rfl, rfl⟩ := hget _ _ e
    exact ⟨⟨b, 0, 0, 0, 0⟩, te, pe, by simp [φ], rfl, hc⟩
  · intro id g L e
    obtain ⟨_, _, rfl⟩ := hphi _ _ _ e
    exact hlt
  · intro id o' g L e e'
    obtain ⟨_, rfl⟩ := hget _ _ e
    obtain ⟨_, _, rfl⟩ := hphi _ _ _ e'
    exact ⟨fun q => (by cases q), fun _ => hlt⟩
  · intro id o' id' g g' L L' e q
    obtain ⟨_, rfl⟩ := hget _ _ e
    cases q
  · intro id g L e ds
    obtain ⟨_, _, rfl⟩ := hphi _ _ _ e
    show W.heap[b]? ≠ _
    rw [ho]
    exact fun q => hnd ds (Option.some.inj q)
  · intro id o e; cases e

theorem calls_run (hmix : P.follows .mixedOrders = true) (hE : EnvOK P E) (hp : PrimLe E) {tab : Nat → Option Sh} (ht : ∀ k s, tab k = some s → ShOK E k s) {f fuel : Nat} {fn : AFun} (hf : E.code f = some fn) {h0 : AHeap} {W : World}
    (hH : ∃ φ, RelH P (.of W.heap.size) φ h0 W) (hrun : callT E tab fuel (.func f) [] h0 (fun v _ => isTrue v) = true) :
    Calls P f #[] W fun e W' => e = .returned (.bool true) ∧ GrownB W W' := by
  obtain ⟨φ, H⟩ := hH
  have hrun := callT_le hp ht fuel _ _ _ _ (fun v _ => isTrue v) hrun (fun _ _ q => q)
  have h := callN_sound hmix hE fuel (.func f) [] h0 _ hrun (.of W.heap.size) φ W [] H .nil
  simp only at h
  have h := FuncOK.lands h
  rw [enter_of hE hf] at h
  have h1 : CallsIn (FW none) 0 P f #[] W _ := h 0
  refine (callsIn_wide.1 h1).mono ?_
  rintro e W' (⟨v, h', cv, φ', rfl, hK, hv, _, _, hg⟩ | ⟨v, h', cv, φ', rfl, hK, hv, _, _, hg⟩)
  rotate_left
  · cases hK
  refine ⟨?_, grown_of hg⟩
  cases hv <;> first | (cases hK; done) | skip
  rename_i b
  cases b with
  | false => cases hK
  | true => rfl
end
/-! ### A run in parts: a law's statements one by one, with states between -/
def seqs : List ACode → ACode → ACode
  | [], r => r
  | a :: l, r => .seq a (seqs l r)
theorem seqs_run {call : CallFn} {n : Nat} {r : ACode} {K : KEx} : ∀ (l : List ACode) (σ : St), runC call n (seqs l r) σ K = runC call n (seqs l .skip) σ (fun x σ' => match x with | .normal => runC call n r σ' K | x => K x σ')
  | [], σ => rfl
  | a :: l, σ => by
    simp only [seqs, runC]
    congr 1
    funext x σ'
    cases x with
    | normal => exact seqs_run l σ'
    | _ => rfl
def chkC (c : Cut) : KEx := fun x σ =>
  match x with
  | .normal => covers σ c
  | _ => false
theorem run_cut {call call' : CallFn} {n : Nat} (hc : Le call call') {l : List ACode} {c : Cut} {r : ACode} {σ : St} {K : KEx} (h1 : runC call n (seqs l .skip) σ (chkC c) = true) (h2 : runC call' n r c.st K = true) :
    runC call' n (seqs l (.cut [c] r)) σ K = true := by
  rw [seqs_run]
  refine runC_le hc h1 fun x σ' hx => ?_
  cases x <;> first | (cases hx; done) | skip
  have hx : covers σ' c = true := hx
  simp only [runC, pickC, hx, cond_true]
  exact h2
theorem callN_of_run {E : Env} (hp : PrimLe E) {f n : Nat} {fn : AFun} (hpr : E.prim f = none) (hf : E.code f = some fn) (hn : fn.np = 0) (hpl : plainT fn.body = true) {h0 : AHeap} {K : Kont}
    (h : runC (callN E n) n fn.body ⟨.lf, h0⟩ (finK fn.res K) = true) : callN E (n + 1) (.func f) [] h0 K = true := by
  simp only [callN, hpr, hf, hn, List.length_nil, Nat.beq_refl, cond_true]
  exact runT_plain (callN_le hp n) hpl h

section
variable {P : Program} {E : Env}
theorem calls_runN (hmix : P.follows .mixedOrders = true) (hE : EnvOK P E) {f fuel : Nat} {fn : AFun} (hf : E.code f = some fn) {h0 : AHeap} {W : World}
    (hH : ∃ φ, RelH P (.of W.heap.size) φ h0 W) (hrun : callN E fuel (.func f) [] h0 (fun v _ => isTrue v) = true) :
    Calls P f #[] W fun e W' => e = .returned (.bool true) ∧ GrownB W W' := by
  obtain ⟨φ, H⟩ := hH
  have h := callN_sound hmix hE fuel (.func f) [] h0 _ hrun (.of W.heap.size) φ W [] H .nil
  simp only at h
  have h := FuncOK.lands h
  rw [enter_of hE hf] at h
  have h1 : CallsIn (FW none) 0 P f #[] W _ := h 0
  refine (callsIn_wide.1 h1).mono ?_
  rintro e W' (⟨v, h', cv, φ', rfl, hK, hv, _, _, hg⟩ | ⟨v, h', cv, φ', rfl, hK, hv, _, _, hg⟩)
  rotate_left
  · cases hK
  refine ⟨?_, grown_of hg⟩
  cases hv <;> first | (cases hK; done) | skip
  rename_i b
  cases b with
  | false => cases hK
  | true => rfl
end
section
open Go.ChangeShapes
theorem post_same {H : Type} {enc : TypeId × Value → H} {P : Program} {f : Func} {s : ChangeSpec} {apart fresh handsOn again : Bool} {W W' : World} {args : Array Value} {v : Value} {ds gs : List (DataW H)} {before pa pv : List MemPlace}
    (hW : DataW.Whole enc P f.params.toList s.vars apart W args.toList ds gs before)
    (hres : ∀ (b : Nat) (sp : Nat → Bool) (hd : Bool), DataW.TrodAll enc P W' b sp hd f.resultTypes.toList (v.resultList f.resultTypes.size) (s.fn H (ds ++ gs)).results [])
    (hargs : ∀ sp : Nat → Bool, (∀ p ∈ before, sp p.block = true) → DataW.TrodAll enc P W' 0 sp true f.params.toList args.toList (s.fn H (ds ++ gs)).args pa)
    (hvars : ∀ sp : Nat → Bool, (∀ p ∈ before, sp p.block = true) → DataW.TrodVars enc P W' sp s.vars (s.fn H (ds ++ gs)).vars pv)
    (hps : before = pa ++ pv) (hk : W.keptBut W' (· ∈ before)) (hfz : ∀ a : Addr, a.block < W.heap.size → W'.frozen? a = W.frozen? a)
    (hok : ∀ (j : Nat) (t : TypeId) (r : Value), f.resultTypes[j]? = some t → (v.resultList f.resultTypes.size)[j]? = some r → Value.okWide P W' .any 0 t r) :
    s.post enc P f apart fresh handsOn again W args v W' := by
  have hlt := fun p hp => hW.lt p hp
  have hold : ∀ p ∈ before, (fun b => decide (b < W.heap.size)) p.block = true := fun p hp => by simpa using hW.lt p hp
  refine ⟨ds, gs, before, [], pa, pv, hW, hres _ _ _, hargs _ hold, hvars _ hold, World.keptBut_mono (fun p hp => ⟨hp, ?_⟩) hk, fun _ => ?_⟩
  · rw [hps, List.mem_append] at hp
    exact Or.inr hp
  · obtain ⟨_, _, _, _, _, hz, hn⟩ := hW
    refine ⟨hok, _, _, ([] ++ pa) ++ pv, ⟨[] ++ pa, pv, trodAll_append (hargs _ (fun _ _ => rfl)) (hres _ _ _), hvars _ (fun _ _ => rfl), rfl, ?_, ?_⟩, ?_⟩
    · intro b off hp
      have hm : MemPlace.cell b off ∈ before := by rw [hps]; simpa using hp
      rw [hfz ⟨b, off, none⟩ (hlt _ hm)]
      exact hz b off hm
    · intro ha
      have := hn ha
      rw [hps] at this
      simpa using this
    · intro p hp _
      rw [hps]
      simpa using hp
end
end
end Go.Ab
