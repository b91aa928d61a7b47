/-
  From a run of the abstract machine to the contract of a law that takes one thing.
-/
import Derived.Test.YtbamgdknkhhikaaAbBridge
import Derived.Test.YtbamgdknkhhikaaAbVars
import Derived.ChangeSame
namespace Go.Ab
set_option linter.unusedSimpArgs false
set_option linter.unusedVariables false

theorem ok_of_rel {P : Program} {B : Base} {φ : Phi} {h : AHeap} {w : World} (H : RelH P B φ h w) : h.Ok := fun id hid => H.gone id hid

theorem RCons.mono {α β : Type} {n : Nat} {R : Rd α} {S : Rd β} (hR : Mono R) (hS : Mono S) : Mono (RCons n R S) := by
  rintro h h' a x e ⟨b, c, h1, h2, h3, h4⟩
  exact ⟨b, c, h1, h2, hR _ _ _ _ e h3, hS _ _ _ _ e h4⟩
theorem RNil.mono : Mono RNil := fun _ _ _ _ _ h => h
theorem RStr.mono : Mono RStr := fun _ _ _ _ _ h => h
theorem RInt.mono {k : IntKind} : Mono (RInt k) := fun _ _ _ _ _ h => h
theorem RBool.mono : Mono RBool := fun _ _ _ _ _ h => h

/-- A slice handed in, as a list. -/
theorem RSl.view {α : Type} {n : Nat} {R : Rd α} {h : AHeap} {a : List AV} {l : List α} (H : RSl n R h a l) : ∃ v es, a = [v] ∧ View h n v es ∧ All2 (R h) es l := by
  rcases H with ⟨rfl, h1 | h1⟩ | ⟨id, cap, r, h1, h2, h3, h4, h5, h6, h7, h8, h9⟩
  · exact ⟨.nilSlc, [], h1, View.nil _ _, .nil⟩
  · exact ⟨.emp, [], h1, .inl ⟨rfl, .inr rfl⟩, .nil⟩
  · have hl := h9.length
    refine ⟨_, r.es.take l.length, h1, .inr ⟨id, 0, 0, cap, true, r, by rw [hl], h2, by omega, h6, ?_, by rw [hl]; exact h7⟩, h9⟩
    rw [hl, List.drop_zero]

theorem hv_leaf {v : Value} (h : v.cells.toList = [v]) : ∀ (φ : Phi) (avs : List AV), RelVs φ avs v.cells.toList → avs.length = 1 → RelV φ (avs.headD .nilSlc) v := by
  intro φ avs hr hl
  rw [h] at hr
  cases hr with
  | cons h t => cases t; exact h

theorem hv_agg {cs : Array Value} {n : Nat} : ∀ (φ : Phi) (avs : List AV), RelVs φ avs (Value.agg cs).cells.toList → avs.length = n → RelV φ (.agg avs) (.agg cs) := by
  intro φ avs hr hl
  exact .agg hr

theorem calls_law {H : Type} {enc : TypeId × Value → H} {P : Program} {E : Env} (hmix : P.follows .mixedOrders = true) (hE : EnvOK P E) {f fuel : Nat} {fn : AFun} (hf : E.code f = some fn) {α : Type} {t : TypeId} {n : Nat} {sz : α → Nat} {R : Rd α} {W : World}
    (I : In enc P W true t n sz R) {v : Value} {d : DataW H} {ps : List MemPlace} (ht : DataW.Trod enc P W 0 (fun _ => true) true t v d ps) (mk : List AV → AV) (hv : ∀ (φ : Phi) (avs : List AV), RelVs φ avs v.cells.toList → avs.length = n → RelV φ (mk avs) v)
    (hrun : ∀ h avs x, h.Ok → R h avs x → sz x ≤ bulk d → callN E fuel (.func f) [mk avs] h (fun v _ => isTrue v) = true) :
    Calls P f #[v] W fun e W' => e = .returned (.bool true) ∧ GrownB W W' ∧ ∀ sp' : Nat → Bool, (∀ p ∈ ps, sp' p.block = true) → DataW.Trod enc P W' 0 sp' true t v d ps := by
  obtain ⟨fu, ht⟩ := ht
  obtain ⟨b1, φ, h, avs, x, a1, a2, a3, a4, a5, a6, a7, a8⟩ := I fu _ d ps ht _ _ (relH_empty W)
  have hr := hrun h avs x (ok_of_rel a3) a7 a8
  have h0 := callN_sound hmix hE fuel (.func f) [mk avs] h _ hr (.of W.heap.size) φ W [v] a3 (.cons (hv φ avs a4 a5) .nil)
  simp only at h0
  have h0 := FuncOK.lands h0
  rw [enter_of hE hf] at h0
  have h1 : CallsIn (FW none) 0 P f #[v] W _ := h0 0
  refine (callsIn_wide.1 h1).mono ?_
  rintro e W' ⟨u, h', cv, φ', rfl, hK, hu, _, _, hg⟩
  refine ⟨?_, grown_of hg, fun sp' hsp => ⟨fu, b1 W' sp' (fun k hk => hg.below k hk) hsp⟩⟩
  cases hu <;> first | (cases hK; done) | skip
  rename_i b
  cases b with
  | false => cases hK
  | true => rfl

section
open Go.ChangeShapes
theorem post_same {H : Type} {enc : TypeId × Value → H} {P : Program} {f : Func} {s : ChangeSpec} {apart fresh handsOn again : Bool} {W W' : World} {args : Array Value} {v : Value} {ds gs : List (DataW H)} {before pa pv : List MemPlace}
    (hW : DataW.Whole enc P f.params.toList s.vars apart W args.toList ds gs before)
    (hres : ∀ (b : Nat) (sp : Nat → Bool) (hd : Bool), DataW.TrodAll enc P W' b sp hd f.resultTypes.toList (v.resultList f.resultTypes.size) (s.fn H (ds ++ gs)).results [])
    (hargs : ∀ sp : Nat → Bool, (∀ p ∈ before, sp p.block = true) → DataW.TrodAll enc P W' 0 sp true f.params.toList args.toList (s.fn H (ds ++ gs)).args pa)
    (hvars : ∀ sp : Nat → Bool, (∀ p ∈ before, sp p.block = true) → DataW.TrodVars enc P W' sp s.vars (s.fn H (ds ++ gs)).vars pv)
    (hps : before = pa ++ pv) (hk : W.keptBut W' (· ∈ before)) (hfz : ∀ a : Addr, a.block < W.heap.size → W'.frozen? a = W.frozen? a)
    (hok : ∀ (j : Nat) (t : TypeId) (r : Value), f.resultTypes[j]? = some t → (v.resultList f.resultTypes.size)[j]? = some r → Value.okWide P W' .any 0 t r) :
    s.post enc P f apart fresh handsOn again W args v W' := by
  have hlt := fun p hp => hW.lt p hp
  have hold : ∀ p ∈ before, (fun b => decide (b < W.heap.size)) p.block = true := fun p hp => by simpa using hW.lt p hp
  refine ⟨ds, gs, before, [], pa, pv, hW, hres _ _ _, hargs _ hold, hvars _ hold, World.keptBut_mono (fun p hp => ⟨hp, ?_⟩) hk, fun _ => ?_⟩
  · rw [hps, List.mem_append] at hp
    exact Or.inr hp
  · obtain ⟨_, _, _, _, _, hz, hn⟩ := hW
    refine ⟨hok, _, _, ([] ++ pa) ++ pv, ⟨[] ++ pa, pv, trodAll_append (hargs _ (fun _ _ => rfl)) (hres _ _ _), hvars _ (fun _ _ => rfl), rfl, ?_, ?_⟩, ?_⟩
    · intro b off hp
      have hm : MemPlace.cell b off ∈ before := by rw [hps]; simpa using hp
      rw [hfz ⟨b, off, none⟩ (hlt _ hm)]
      exact hz b off hm
    · intro ha
      have := hn ha
      rw [hps] at this
      simpa using this
    · intro p hp _
      rw [hps]
      simpa using hp
end
end Go.Ab
