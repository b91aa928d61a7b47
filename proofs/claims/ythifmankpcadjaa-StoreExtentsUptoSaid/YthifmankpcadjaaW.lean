/-
  StoreExtents says true of all scripts of bulk at most 1,048,576, for every order in which the maps are ranged over and the operands evaluated; what is handed in reads as it did.
-/
import Derived.Test.YthifmankpcadjaaW5
import Derived.ProofKit
import Derived.OpenShut
import Derived.JoinedCond
namespace Go.Proofs.Ythifmankpcadjaa.storeExtents
open Go.ChangeShapes Go.WideShapes Go.ChangeAt Go.RowKit
theorem own : ownKnob Try.prog.godebug = none := by kernel_rfl
set_option maxRecDepth 100000 in
theorem contract (H : Type) (enc : TypeId × Value → H) (W : World) (base : Nat) (args : Array Value) (ds gs : List (DataW H)) (before : List MemPlace)
    (hval : ∀ (j : Nat) t v, Try.f5.params[j]? = some t → args[j]? = some v → Value.okWide Try.prog W .any base t v)
    (hW : DataW.Whole enc Try.prog Try.f5.params.toList Rows.storeExtentsSpec.vars false W args.toList ds gs before) (hk : Rows.uptoSmall H (ds ++ gs) = true) :
    Calls Try.prog 5 args W fun e W' => ∃ v, e = .returned v ∧ Rows.storeExtentsSpec.post enc Try.prog Try.f5 false true false false W args v W' := by
  have hW' := hW
  obtain ⟨p, q, hA0, hV, rfl, hfz, hnd⟩ := hW
  have hA : DataW.TrodAll enc Try.prog W 0 (fun _ => true) true Try.f5.params.toList args.toList ds p := hA0
  rw [Try.params5] at hA hval
  obtain ⟨v0, d0, rfl, rfl, h0⟩ := trodAll_one hA
  obtain ⟨rfl, rfl⟩ := trodVars_none hV
  clear hA0 hA
  simp only [List.append_nil] at hW' hk
  obtain ⟨cs, rfl, hcs⟩ := okWide_struct Try.underlying27 (hval 0 27 v0 rfl rfl)
  have hb : Ab.bulk d0 ≤ 1048576 := by
    have h : Rows.uptoBulkAll [d0] ≤ 1048576 := of_decide_eq_true hk
    rw [bulkAll_eq] at h
    simpa [Ab.bulkAll] using h
  have hlim : Ab.lim = 4611686018427387904 := rfl
  have env5 : E.code 5 = some A5 := rfl
  refine (Ab.calls_law Try.checked.mixed env_ok env5 (fuel := 300000000 + 9) (inSx (enc := enc) (W := W)) h0 (fun avs => .agg avs) Ab.hv_agg ?_).mono fun e W' ⟨he, hg, hr⟩ => ?_
  · rintro h avs ⟨cs', l⟩ ho ⟨lv, mo, dv, nv, hv, rfl, hC, hD, hlf⟩ hs
    have h1 : Ab.szL szC cs' + Ab.szL szO l ≤ Ab.bulk d0 := hs
    have p1 : ∀ c ∈ cs', c.name.length ≤ 1048576 ∧ ∀ f ∈ c.fields, f.name.length ≤ 1048576 := fun c hc => by
      have a1 := Ab.szL_mem (sz := szC) hc
      have w1 : szC c = c.name.length + Ab.szL szF c.fields + 1 := rfl
      refine ⟨by omega, fun f hf => ?_⟩
      have a2 := Ab.szL_mem (sz := szF) hf
      have w2 : szF f = f.name.length + 1 := rfl
      omega
    have p2 : ∀ p ∈ l, (∀ q ∈ p.set, Ab.szV q.2 ≤ 1048576) ∧ p.set.length ≤ 300000000 := fun p hp => by
      have a1 := Ab.szL_mem (sz := szO) hp
      have w1 : szO p = p.cls.length + Ab.szL szG p.set + 1 := rfl
      refine ⟨fun q hq => ?_, ?_⟩
      · have a2 := Ab.szL_mem (sz := szG) hq
        have w2 : szG q = q.1.length + Ab.szV q.2 + 1 := rfl
        omega
      · have a2 := Ab.szL_length (sz := szG) (fun x => by unfold szG; omega) p.set
        omega
    have p3 : cs'.length ≤ 1048576 := by
      have a2 := Ab.szL_length (sz := szC) (fun x => by unfold szC; omega) cs'
      omega
    exact c5 (cs := cs') (l := l) (b := 1048576) (B := 66000000) (n := 300000000) ho hC hD hlf p2 (by omega) (by omega) (by omega) (by omega) (by omega) (by omega) (fun c hc => ⟨Nat.le_trans (p1 c hc).1 (by decide), fun f hf => Nat.le_trans ((p1 c hc).2 f hf) (by decide)⟩) fun _ => rfl
  · subst he
    exact ⟨_, rfl, Ab.post_same (pa := p) (pv := []) hW' (fun _ _ _ => trodAll_cons_mk (shut_bool Try.underlying4 _) trodAll_mk0) (fun sp' hp => trodAll_mk1 (hr sp' hp)) (fun _ _ => rfl) (by simp)
      (hg.frame _) hg.2.1 (ok_one (by kernel_rfl) rfl (okWide_bool_mk Try.underlying4 _))⟩
set_option maxRecDepth 100000 in
theorem lifted (os : Os) (started : os.Started) (H : Type) (enc : TypeId × Value → H) (F : Stop.Interp) :
    ReturnsInHanded {} Try.checked os 5 .any ((Rows.OpenSpec.upto Rows.storeExtentsSpec).pre6 enc Try.prog Try.f5 Rows.storeExtentsUptoRow.domain false) (((Rows.OpenSpec.upto Rows.storeExtentsSpec).at F).post enc Try.prog Try.f5 false true false false) := by
  refine returnsInHanded_of_cond (C := Try.checked) (s := Rows.OpenSpec.upto Rows.storeExtentsSpec) (k := Rows.uptoSmall) rfl own started (by kernel_rfl) Try.func5
    (OpenSpec.witness (enc := enc) (C := Try.checked) (s := Rows.OpenSpec.upto Rows.storeExtentsSpec) (k := Rows.uptoSmall) rfl false ⟨#[], #[.agg #[.slice none 0 0, .int .i64 0, .slice none 0 0, .slice none 0 0, .slice none 0 0]], []⟩ 8 (by kernel_rfl) (by kernel_rfl) (by kernel_rfl)
      (x := ([.agg [.nil, .lit (.int .i64 0), .nil, .nil, .nil]], [], [])) (by kernel_rfl) rfl (by kernel_rfl)) ?_
  intro W base args ds gs before hval hW _ hk _
  exact contract H enc W base args ds gs before hval hW hk
theorem said : Rows.StoreExtentsUptoSaid :=
  OpenClaim.holds_of_cond 5 Try.f5 rfl rfl rfl rfl rfl rfl rfl ⟨rfl, rfl, rfl, rfl, rfl⟩ rfl rfl rfl rfl rfl (by kernel_rfl) Try.func5 (by kernel_rfl)
    (of_decide_eq_true (by kernel_rfl)) (by unfold Func.isWrapper; first | (rw [if_pos (by decide +kernel)]; kernel_rfl) | (rw [if_neg (by decide +kernel)]; exact ⟨rfl, rfl⟩))
    (fun os started H enc _ F => lifted os started H enc F)
end Go.Proofs.Ythifmankpcadjaa.storeExtents
