/-
  ClassFits says true of all classes, fields, values and facts of bulk at most 1,048,576, for every order in which the maps are ranged over and the operands evaluated; what is handed in reads as it did.
-/
import Derived.Test.YtjdpdjmmbajglaaKI
import Derived.Test.YtjdpdjmmbajglaaVG
import Derived.Test.YtjdpdjmmbajglaaClassFitsTab
import Derived.ProofKit
import Derived.OpenShut
import Derived.JoinedCond
namespace Go.Proofs.Ytjdpdjmmbajglaa.classFits
open Go.ChangeShapes Go.WideShapes Go.ChangeAt Go.RowKit

theorem own : ownKnob Try.prog.godebug = none := by kernel_rfl

structure Fit where
  l : List Cls
  f : List Fld
  v : List Ab.Val
  h : List Fct

def szFct (f : Fct) : Nat := f.cls.length + 1
def szA (a : Fit) : Nat := Ab.szL szC a.l + Ab.szL szF a.f + Ab.szVs a.v + Ab.szL szFct a.h
def RA : Ab.Rd Fit := fun h a x => ∃ lv fv vv hv, a = [lv, fv, vv, hv] ∧ CV h lv x.l ∧ Ab.View h 3 fv (x.f.map encF) ∧ Ab.VV h vv x.v ∧ FV h hv x.h

section
variable {H : Type} {enc : TypeId × Value → H} {W : World} {held : Bool}
theorem RCVm : Ab.Mono RCV := by
  rintro h h' a x e ⟨v, h1, h2⟩
  exact ⟨v, h1, h2.ext e⟩
theorem inV : Ab.In enc Try.prog W held 66 5 Ab.szV Ab.RV :=
  Ab.inVal (t0 := 3) (t1 := 4) (t2 := 2) (t3 := 9) (tl := 54) Try.underlying66 rfl (by kernel_rfl) Try.underlying3 (by kernel_rfl) Try.underlying4 (by kernel_rfl) Try.underlying2 (by kernel_rfl) Try.underlying9 (by kernel_rfl) Try.underlying54 (by kernel_rfl)
theorem inVs : Ab.In enc Try.prog W held 54 1 (fun l => Ab.szL Ab.szV l + 1) (Ab.RSl 5 Ab.RV) := Ab.inVals inV Try.underlying54 (by kernel_rfl)
def RFct : Ab.Rd Fct := fun _ a f => RFa a f
theorem RFctm : Ab.Mono RFct := fun _ _ _ _ _ h => h
theorem inFct : Ab.In enc Try.prog W held 62 6 szFct RFct := by
  have inI : Ab.In enc Try.prog W held 60 1 (fun l => Ab.szL (fun _ : Int => 1) l + 1) (Ab.RSl 1 (Ab.RInt .i64)) := Ab.In.slice Try.underlying60 (by kernel_rfl) (by decide) Ab.RInt.mono (Ab.In.int Try.underlying3)
  have I := Ab.In.struct (enc := enc) (W := W) (held := held) (P := Try.prog) (t := 62) (tot := 6) Try.underlying62 rfl (by kernel_rfl)
    (Ab.InF.cons (off := 0) (n := 1) (by kernel_rfl) Ab.RInt.mono (Ab.In.int Try.underlying3) (Ab.InF.cons (off := 1) (n := 1) (by kernel_rfl) Ab.RStr.mono (Ab.In.str Try.underlying9) (Ab.InF.cons (off := 2) (n := 1) (by kernel_rfl) (Ab.RSl.mono Ab.RV.mono) inVs (Ab.InF.cons (off := 3) (n := 1) (by kernel_rfl) Ab.RBool.mono (Ab.In.bool Try.underlying4)
      (Ab.InF.cons (off := 4) (n := 1) (by kernel_rfl) Ab.RInt.mono (Ab.In.int Try.underlying3) (Ab.InF.cons (off := 5) (n := 1) (by kernel_rfl) (Ab.RSl.mono Ab.RInt.mono) inI Ab.InF.nil))))))
  refine I.conv ?_
  rintro h a ⟨x, s, vs, b, y, st, u⟩ ⟨b1, c1, rfl, _, ⟨rfl, _⟩, b2, c2, rfl, _, ⟨rfl, _⟩, b3, c3, rfl, _, hvs, b4, c4, rfl, _, hb, b5, c5, rfl, _, ⟨rfl, _⟩, b6, c6, rfl, _, hst, rfl⟩
  obtain ⟨v3, e3, rfl, _, _⟩ := hvs.view
  obtain ⟨v6, e6, rfl, _, _⟩ := hst.view
  have hb' : b4 = [.bool b] := hb
  subst hb'
  exact ⟨⟨x, s⟩, ⟨_, _, _, _, rfl⟩, by simp [szFct]; omega⟩
theorem inFcts : Ab.In enc Try.prog W held 55 1 (fun l => Ab.szL szFct l + 1) (Ab.RSl 6 RFct) := Ab.In.slice Try.underlying55 (by kernel_rfl) (by decide) RFctm inFct
theorem inFit : Ab.In enc Try.prog W held 57 4 szA RA := by
  have I := Ab.In.struct (enc := enc) (W := W) (held := held) (P := Try.prog) (t := 57) (tot := 4) Try.underlying57 rfl (by kernel_rfl)
    (Ab.InF.cons (off := 0) (n := 1) (by kernel_rfl) RCVm inCV (Ab.InF.cons (off := 1) (n := 1) (by kernel_rfl) (Ab.RSl.mono RF.mono) inFs (Ab.InF.cons (off := 2) (n := 1) (by kernel_rfl) (Ab.RSl.mono Ab.RV.mono) inVs (Ab.InF.cons (off := 3) (n := 1) (by kernel_rfl) (Ab.RSl.mono RFctm) inFcts Ab.InF.nil))))
  refine I.conv ?_
  rintro h a ⟨l, f, v, hh, u⟩ ⟨b1, c1, rfl, _, ⟨lv, rfl, hl⟩, b2, c2, rfl, _, hf, b3, c3, rfl, _, hv, b4, c4, rfl, _, hhh, rfl⟩
  obtain ⟨fv, ef, rfl, hf1, hf2⟩ := hf.view
  obtain ⟨vv, ev, rfl, hv1, hv2⟩ := hv.view
  obtain ⟨hv', eh, rfl, hh1, hh2⟩ := hhh.view
  rw [all2_enc hf2] at hf1
  exact ⟨⟨l, f, v, hh⟩, ⟨lv, fv, vv, hv', rfl, hl, hf1, ⟨ev, hv1, hv2⟩, eh, hh1, hh2⟩, by simp [szA, Ab.szVs_eq]; omega⟩
end

theorem contract (H : Type) (enc : TypeId × Value → H) (W : World) (base : Nat) (args : Array Value) (ds gs : List (DataW H)) (before : List MemPlace)
    (hval : ∀ (j : Nat) t v, Try.f7.params[j]? = some t → args[j]? = some v → Value.okWide Try.prog W .any base t v)
    (hW : DataW.Whole enc Try.prog Try.f7.params.toList Rows.classFitsSpec.vars false W args.toList ds gs before) (hk : Rows.uptoSmall H (ds ++ gs) = true) :
    Calls Try.prog 7 args W fun e W' => ∃ v, e = .returned v ∧ Rows.classFitsSpec.post enc Try.prog Try.f7 false true false false W args v W' := by
  have hW' := hW
  obtain ⟨p, q, hA0, hV, rfl, hfz, hnd⟩ := hW
  have hA : DataW.TrodAll enc Try.prog W 0 (fun _ => true) true Try.f7.params.toList args.toList ds p := hA0
  rw [Try.params7] at hA hval
  obtain ⟨v0, d0, rfl, rfl, h0⟩ := trodAll_one hA
  obtain ⟨rfl, rfl⟩ := trodVars_none hV
  clear hA0 hA
  simp only [List.append_nil] at hW' hk
  obtain ⟨cs, rfl, hcs⟩ := okWide_struct Try.underlying57 (hval 0 57 v0 rfl rfl)
  have hb : Ab.bulk d0 ≤ 1048576 := by
    have h : Rows.uptoBulkAll [d0] ≤ 1048576 := of_decide_eq_true hk
    rw [bulkAll_eq] at h
    simpa [Ab.bulkAll] using h
  have hlim : Ab.lim = 4611686018427387904 := rfl
  refine (Ab.calls_law Try.checked.mixed env_ok env7 (fuel := 2000000 + 8) (inFit (enc := enc) (W := W)) h0 (fun avs => .agg avs) Ab.hv_agg ?_).mono fun e W' ⟨he, hg, hr⟩ => ?_
  · rintro h avs ⟨l, f, v, hh⟩ ho ⟨lv, fv, vv, hv, rfl, hl, hf1, hv1, hh1⟩ hs
    simp only [szA] at hs
    simp only at hl hf1 hv1 hh1
    have hll := Ab.szL_length szC_pos l
    have hl2 := load_le l
    have hhl : hh.length ≤ Ab.szL szFct hh := Ab.szL_length (fun s => by unfold szFct; omega) hh
    exact c7 ho hl hf1 hv1 hh1 (room_of (by omega) (by omega) (by omega)) (by omega) (by omega) (by omega) (by omega) (by omega) (fun _ _ _ => rfl)
  · subst he
    exact ⟨_, rfl, post_of_same (pa := p) (pv := []) hW' (fun _ _ _ => trodAll_cons_mk (shut_bool Try.underlying4 _) trodAll_mk0) (fun sp' hp => trodAll_mk1 (hr sp' hp)) (fun _ _ => rfl) (by simp)
      (hg.frame _) hg.2.1 (ok_one (by kernel_rfl) rfl (okWide_bool_mk Try.underlying4 _))⟩

set_option maxRecDepth 100000 in
theorem lifted (os : Os) (started : os.Started) (H : Type) (enc : TypeId × Value → H) (F : Stop.Interp) :
    ReturnsInHanded {} Try.checked os 7 .any ((Rows.OpenSpec.upto Rows.classFitsSpec).pre6 enc Try.prog Try.f7 Rows.classFitsUptoRow.domain false) (((Rows.OpenSpec.upto Rows.classFitsSpec).at F).post enc Try.prog Try.f7 false true false false) := by
  refine returnsInHanded_of_cond (C := Try.checked) (s := Rows.OpenSpec.upto Rows.classFitsSpec) (k := Rows.uptoSmall) rfl own started (by kernel_rfl) Try.func7
    (OpenSpec.witness (enc := enc) (C := Try.checked) (s := Rows.OpenSpec.upto Rows.classFitsSpec) (k := Rows.uptoSmall) rfl false ⟨#[], #[.agg #[.slice none 0 0, .slice none 0 0, .slice none 0 0, .slice none 0 0]], []⟩ 8 (by kernel_rfl) (by kernel_rfl) (by kernel_rfl)
      (x := ([.agg [.nil, .nil, .nil, .nil]], [], [])) (by kernel_rfl) rfl (by kernel_rfl)) ?_
  intro W base args ds gs before hval hW _ hk _
  exact contract H enc W base args ds gs before hval hW hk

theorem said : Rows.ClassFitsUptoSaid :=
  OpenClaim.holds_of_cond 7 Try.f7 rfl rfl rfl rfl rfl rfl rfl ⟨rfl, rfl, rfl, rfl, rfl⟩ rfl rfl rfl rfl rfl (by kernel_rfl) Try.func7 (by kernel_rfl)
    (of_decide_eq_true (by kernel_rfl)) (by unfold Func.isWrapper; first | (rw [if_pos (by decide +kernel)]; kernel_rfl) | (rw [if_neg (by decide +kernel)]; exact ⟨rfl, rfl⟩))
    (fun os started H enc _ F => lifted os started H enc F)

end Go.Proofs.Ytjdpdjmmbajglaa.classFits
