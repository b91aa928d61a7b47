/-
  ClassExact says true of all classes, names and fields of bulk at most 1,048,576, for every order in which the maps are ranged over and the operands evaluated; what is handed in reads as it did.
-/
import Derived.Test.YtjdpdjmmbajglaaKI
import Derived.Test.YtjdpdjmmbajglaaKU
import Derived.Test.YtjdpdjmmbajglaaClassExactTab
import Derived.ProofKit
import Derived.OpenShut
import Derived.JoinedCond
namespace Go.Proofs.Ytjdpdjmmbajglaa.classExact
open Go.ChangeShapes Go.WideShapes Go.ChangeAt Go.RowKit

theorem own : ownKnob Try.prog.godebug = none := by kernel_rfl

structure Ask where
  l : List Cls
  ns : List Str
  fs : List Str

def szS (l : List Str) : Nat := Ab.szL (fun s => s.length + 1) l
def szA (a : Ask) : Nat := Ab.szL szC a.l + szS a.ns + szS a.fs
def RA : Ab.Rd Ask := fun h a x => ∃ lv nv fv en ef, a = [lv, nv, fv] ∧ CV h lv x.l ∧ Ab.View h 1 nv en ∧ Named en x.ns ∧ Ab.View h 1 fv ef ∧ Named ef x.fs

theorem named_of {h : Ab.AHeap} {es : List (List Ab.AV)} {l : List Str} (A : Ab.All2 (Ab.RStr h) es l) : Named es l := by
  refine A.mono ?_
  rintro a s hs
  have hs' : a = [.str s] := hs.1
  rw [hs']; rfl

section
variable {H : Type} {enc : TypeId × Value → H} {W : World} {held : Bool}
theorem inStrs : Ab.In enc Try.prog W held 23 1 (fun l => szS l + 1) (Ab.RSl 1 Ab.RStr) := Ab.In.slice Try.underlying23 (by kernel_rfl) (by decide) Ab.RStr.mono (Ab.In.str Try.underlying9)
theorem RCVm : Ab.Mono RCV := by
  rintro h h' a x e ⟨v, h1, h2⟩
  exact ⟨v, h1, h2.ext e⟩
theorem inAsk : Ab.In enc Try.prog W held 25 3 szA RA := by
  have I := Ab.In.struct (enc := enc) (W := W) (held := held) (P := Try.prog) (t := 25) (tot := 3) Try.underlying25 rfl (by kernel_rfl)
    (Ab.InF.cons (off := 0) (n := 1) (by kernel_rfl) RCVm inCV (Ab.InF.cons (off := 1) (n := 1) (by kernel_rfl) (Ab.RSl.mono Ab.RStr.mono) inStrs (Ab.InF.cons (off := 2) (n := 1) (by kernel_rfl) (Ab.RSl.mono Ab.RStr.mono) inStrs Ab.InF.nil)))
  refine I.conv ?_
  rintro h a ⟨l, ns, fs, u⟩ ⟨b1, c1, rfl, _, ⟨lv, rfl, hl⟩, b2, c2, rfl, _, hn, b3, c3, rfl, _, hf, rfl⟩
  obtain ⟨nv, en, rfl, hn1, hn2⟩ := hn.view
  obtain ⟨fv, ef, rfl, hf1, hf2⟩ := hf.view
  exact ⟨⟨l, ns, fs⟩, ⟨lv, nv, fv, en, ef, rfl, hl, hn1, named_of hn2, hf1, named_of hf2⟩, by simp [szA]; omega⟩
end

theorem contract (H : Type) (enc : TypeId × Value → H) (W : World) (base : Nat) (args : Array Value) (ds gs : List (DataW H)) (before : List MemPlace)
    (hval : ∀ (j : Nat) t v, Try.f3.params[j]? = some t → args[j]? = some v → Value.okWide Try.prog W .any base t v)
    (hW : DataW.Whole enc Try.prog Try.f3.params.toList Rows.classExactSpec.vars false W args.toList ds gs before) (hk : Rows.uptoSmall H (ds ++ gs) = true) :
    Calls Try.prog 3 args W fun e W' => ∃ v, e = .returned v ∧ Rows.classExactSpec.post enc Try.prog Try.f3 false true false false W args v W' := by
  have hW' := hW
  obtain ⟨p, q, hA0, hV, rfl, hfz, hnd⟩ := hW
  have hA : DataW.TrodAll enc Try.prog W 0 (fun _ => true) true Try.f3.params.toList args.toList ds p := hA0
  rw [Try.params3] at hA hval
  obtain ⟨v0, d0, rfl, rfl, h0⟩ := trodAll_one hA
  obtain ⟨rfl, rfl⟩ := trodVars_none hV
  clear hA0 hA
  simp only [List.append_nil] at hW' hk
  obtain ⟨cs, rfl, hcs⟩ := okWide_struct Try.underlying25 (hval 0 25 v0 rfl rfl)
  have hb : Ab.bulk d0 ≤ 1048576 := by
    have h : Rows.uptoBulkAll [d0] ≤ 1048576 := of_decide_eq_true hk
    rw [bulkAll_eq] at h
    simpa [Ab.bulkAll] using h
  have hlim : Ab.lim = 4611686018427387904 := rfl
  refine (Ab.calls_law Try.checked.mixed env_ok env3 (fuel := 2000000 + 8) (inAsk (enc := enc) (W := W)) h0 (fun avs => .agg avs) Ab.hv_agg ?_).mono fun e W' ⟨he, hg, hr⟩ => ?_
  · rintro h avs ⟨l, ns, fs⟩ ho ⟨lv, nv, fv, en, ef, rfl, hl, hn1, hn2, hf1, hf2⟩ hs
    simp only [szA] at hs
    simp only at hl hn1 hn2 hf1 hf2
    have hll := Ab.szL_length szC_pos l
    have hl2 := load_le l
    have hfl : fs.length ≤ szS fs := Ab.szL_length (fun s => by omega) fs
    exact c3 ho hl hn1 hn2 hf1 hf2 (room_of (by omega) (by omega) (by omega)) (by omega) (by omega) (by omega) (by omega) (fun _ _ _ => rfl)
  · subst he
    exact ⟨_, rfl, post_of_same (pa := p) (pv := []) hW' (fun _ _ _ => trodAll_cons_mk (shut_bool Try.underlying4 _) trodAll_mk0) (fun sp' hp => trodAll_mk1 (hr sp' hp)) (fun _ _ => rfl) (by simp)
      (hg.frame _) hg.2.1 (ok_one (by kernel_rfl) rfl (okWide_bool_mk Try.underlying4 _))⟩

set_option maxRecDepth 100000 in
theorem lifted (os : Os) (started : os.Started) (H : Type) (enc : TypeId × Value → H) (F : Stop.Interp) :
    ReturnsInHanded {} Try.checked os 3 .any ((Rows.OpenSpec.upto Rows.classExactSpec).pre6 enc Try.prog Try.f3 Rows.classExactUptoRow.domain false) (((Rows.OpenSpec.upto Rows.classExactSpec).at F).post enc Try.prog Try.f3 false true false false) := by
  refine returnsInHanded_of_cond (C := Try.checked) (s := Rows.OpenSpec.upto Rows.classExactSpec) (k := Rows.uptoSmall) rfl own started (by kernel_rfl) Try.func3
    (OpenSpec.witness (enc := enc) (C := Try.checked) (s := Rows.OpenSpec.upto Rows.classExactSpec) (k := Rows.uptoSmall) rfl false ⟨#[], #[.agg #[.slice none 0 0, .slice none 0 0, .slice none 0 0]], []⟩ 8 (by kernel_rfl) (by kernel_rfl) (by kernel_rfl)
      (x := ([.agg [.nil, .nil, .nil]], [], [])) (by kernel_rfl) rfl (by kernel_rfl)) ?_
  intro W base args ds gs before hval hW _ hk _
  exact contract H enc W base args ds gs before hval hW hk

theorem said : Rows.ClassExactUptoSaid :=
  OpenClaim.holds_of_cond 3 Try.f3 rfl rfl rfl rfl rfl rfl rfl ⟨rfl, rfl, rfl, rfl, rfl⟩ rfl rfl rfl rfl rfl (by kernel_rfl) Try.func3 (by kernel_rfl)
    (of_decide_eq_true (by kernel_rfl)) (by unfold Func.isWrapper; first | (rw [if_pos (by decide +kernel)]; kernel_rfl) | (rw [if_neg (by decide +kernel)]; exact ⟨rfl, rfl⟩))
    (fun os started H enc _ F => lifted os started H enc F)

end Go.Proofs.Ytjdpdjmmbajglaa.classExact
