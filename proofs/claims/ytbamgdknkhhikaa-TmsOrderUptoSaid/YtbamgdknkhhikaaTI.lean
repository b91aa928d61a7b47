/-
  Scripts are handed in.
-/
import Derived.Test.YtbamgdknkhhikaaTV
import Derived.Test.YtbamgdknkhhikaaRows
import Derived.KernelRfl
namespace Go.Proofs.Ytbamgdknkhhikaa
open Go.Ab
set_option linter.unusedSimpArgs false
set_option linter.unusedVariables false

mutual
theorem bulk_eq {H : Type} : ∀ (d : DataW H), Rows.uptoBulk d = bulk d
  | .lit l => by cases l <;> simp [Rows.uptoBulk, bulk]
  | .nil => by simp [Rows.uptoBulk, bulk]
  | .ptr d => by simp [Rows.uptoBulk, bulk, bulk_eq d]
  | .slice a b => by simp [Rows.uptoBulk, bulk, bulkAll_eq a, bulkAll_eq b]
  | .agg a => by simp [Rows.uptoBulk, bulk, bulkAll_eq a]
  | .iface _ d => by simp [Rows.uptoBulk, bulk, bulk_eq d]
  | .map es => by simp [Rows.uptoBulk, bulk, bulkEntries_eq es]
  | .held _ => by simp [Rows.uptoBulk, bulk]
theorem bulkAll_eq {H : Type} : ∀ (l : List (DataW H)), Rows.uptoBulkAll l = bulkAll l
  | [] => rfl
  | d :: l => by simp [Rows.uptoBulkAll, bulkAll, bulk_eq d, bulkAll_eq l]
theorem bulkEntries_eq {H : Type} : ∀ (l : List (Lit × DataW H)), Rows.uptoBulkEntries l = bulkEntries l
  | [] => rfl
  | (k, d) :: l => by
    have h1 := bulk_eq d
    have h2 := bulkEntries_eq l
    cases k <;> simp [Rows.uptoBulkEntries, bulkEntries, Rows.uptoBulkEntry, bulkEntry, h1, h2]
end

section
variable {H : Type} {enc : TypeId × Value → H} {W : World} {held : Bool}
theorem inV : In enc Try.prog W held 70 5 szV RV :=
  inVal (t0 := 3) (t1 := 4) (t2 := 2) (t3 := 9) (tl := 34) Try.underlying70 rfl (by kernel_rfl) Try.underlying3 (by kernel_rfl) Try.underlying4 (by kernel_rfl) Try.underlying2 (by kernel_rfl) Try.underlying9 (by kernel_rfl) Try.underlying34 (by kernel_rfl)
theorem inVs : In enc Try.prog W held 34 1 (fun l => szL szV l + 1) (RSl 5 RV) := inVals inV Try.underlying34 (by kernel_rfl)

theorem REl.mono : Mono REl := fun _ _ _ _ e H => REl.ext H e
theorem RPr.mono : Mono RPr := fun _ _ _ _ e H => RPr.ext H e
theorem RSt.mono : Mono RSt := fun _ _ _ _ e H => RSt.ext H e
theorem inEl : In enc Try.prog W held 68 3 szEl REl := by
  have I := In.struct (enc := enc) (W := W) (held := held) (P := Try.prog) (t := 68) (tot := 3) Try.underlying68 rfl (by kernel_rfl)
    (InF.cons (off := 0) (n := 1) (by kernel_rfl) RInt.mono (In.int Try.underlying3) (InF.cons (off := 1) (n := 1) (by kernel_rfl) RInt.mono (In.int Try.underlying3) (InF.cons (off := 2) (n := 1) (by kernel_rfl) (RSl.mono RV.mono) inVs InF.nil)))
  refine I.conv ?_
  rintro h a ⟨x, y, vs, u⟩ ⟨b1, c1, rfl, _, ⟨rfl, x1, x2⟩, b2, c2, rfl, _, ⟨rfl, y1, y2⟩, b3, c3, rfl, _, hvs, rfl⟩
  obtain ⟨v3, e3, rfl, v1, v2⟩ := hvs.view
  exact ⟨⟨x, y, vs⟩, ⟨v3, rfl, ⟨e3, v1, v2⟩, ⟨x1, x2⟩, ⟨y1, y2⟩⟩, by simp only [szEl, szVs_eq]; omega⟩
theorem inEls : In enc Try.prog W held 35 1 (fun l => szL szEl l + 1) (RSl 3 REl) := In.slice Try.underlying35 (by kernel_rfl) (by decide) REl.mono inEl
theorem inPr : In enc Try.prog W held 117 6 szPr RPr := by
  have I := In.struct (enc := enc) (W := W) (held := held) (P := Try.prog) (t := 117) (tot := 6) Try.underlying117 rfl (by kernel_rfl)
    (InF.cons (off := 0) (n := 1) (by kernel_rfl) RStr.mono (In.str Try.underlying9) (InF.cons (off := 1) (n := 5) (by kernel_rfl) RV.mono inV InF.nil))
  refine I.conv ?_
  rintro h a ⟨s, v, u⟩ ⟨b1, c1, rfl, _, ⟨rfl, hs⟩, b2, c2, rfl, _, hv, rfl⟩
  exact ⟨(s, v), ⟨b2, by simp, hv, hs⟩, by simp only [szPr]; omega⟩
theorem inPrs : In enc Try.prog W held 36 1 (fun l => szL szPr l + 1) (RSl 6 RPr) := In.slice Try.underlying36 (by kernel_rfl) (by decide) RPr.mono inPr
theorem inInts : In enc Try.prog W held 39 1 (fun l => szL (fun _ : Int => 1) l + 1) (RSl 1 (RInt .i64)) := In.slice Try.underlying39 (by kernel_rfl) (by decide) RInt.mono (In.int Try.underlying3)

def RMt : Rd Mch := fun h a m => ∃ ev nv, a = [.int .i64 m.core, ev, nv] ∧ EV h ev m.els ∧ PV h nv m.env ∧ rng m.core
theorem RMt.mono : Mono RMt := fun _ _ _ _ e H => let ⟨ev, nv, h1, h2, h3, h4⟩ := H; ⟨ev, nv, h1, h2.ext e, h3.ext e, h4⟩
def szMt (m : Mch) : Nat := szL szEl m.els + szL szPr m.env
theorem inMt : In enc Try.prog W held 38 3 szMt RMt := by
  have I := In.struct (enc := enc) (W := W) (held := held) (P := Try.prog) (t := 38) (tot := 3) Try.underlying38 rfl (by kernel_rfl)
    (InF.cons (off := 0) (n := 1) (by kernel_rfl) RInt.mono (In.int Try.underlying3) (InF.cons (off := 1) (n := 1) (by kernel_rfl) (RSl.mono REl.mono) inEls (InF.cons (off := 2) (n := 1) (by kernel_rfl) (RSl.mono RPr.mono) inPrs InF.nil)))
  refine I.conv ?_
  rintro h a ⟨x, es, ns, u⟩ ⟨b1, c1, rfl, _, ⟨rfl, x1, x2⟩, b2, c2, rfl, _, he, b3, c3, rfl, _, hn, rfl⟩
  obtain ⟨v2, e2, rfl, v21, v22⟩ := he.view
  obtain ⟨v3, e3, rfl, v31, v32⟩ := hn.view
  exact ⟨⟨x, es, ns⟩, ⟨v2, v3, rfl, ⟨e2, v21, v22⟩, ⟨e3, v31, v32⟩, x1, x2⟩, by simp only [szMt]; omega⟩

theorem all2_int {h : AHeap} : ∀ {es : List (List AV)} {l : List Int}, All2 (RInt .i64 h) es l → es = ints l ∧ ∀ x ∈ l, rng x
  | _, _, .nil => ⟨rfl, by simp⟩
  | _, _, .cons ⟨e, a, b⟩ t => by
    obtain ⟨h1, h2⟩ := all2_int t
    subst e; subst h1
    refine ⟨rfl, fun x hx => ?_⟩
    rcases List.mem_cons.1 hx with rfl | hx
    · exact ⟨a, b⟩
    · exact h2 x hx
theorem szInts : ∀ (l : List Int), szL (fun _ : Int => 1) l = l.length
  | [] => rfl
  | x :: l => by simp only [szL, szInts l, List.length_cons]; omega

theorem inSt : In enc Try.prog W held 41 7 szSt RSt := by
  have I := In.struct (enc := enc) (W := W) (held := held) (P := Try.prog) (t := 41) (tot := 7) Try.underlying41 rfl (by kernel_rfl)
    (InF.cons (off := 0) (n := 1) (by kernel_rfl) RInt.mono (In.int Try.underlying3) (InF.cons (off := 1) (n := 1) (by kernel_rfl) RStr.mono (In.str Try.underlying9) (InF.cons (off := 2) (n := 1) (by kernel_rfl) (RSl.mono RV.mono) inVs
      (InF.cons (off := 3) (n := 3) (by kernel_rfl) RMt.mono inMt (InF.cons (off := 6) (n := 1) (by kernel_rfl) (RSl.mono RInt.mono) inInts InF.nil)))))
  refine I.conv ?_
  rintro h a ⟨x, s, vs, m, li, u⟩ ⟨b1, c1, rfl, _, ⟨rfl, _⟩, b2, c2, rfl, _, ⟨rfl, hs⟩, b3, c3, rfl, _, hvs, b4, c4, rfl, _, ⟨ev, nv, rfl, he, hn, hc⟩, b5, c5, rfl, _, hli, rfl⟩
  obtain ⟨v3, e3, rfl, v31, v32⟩ := hvs.view
  obtain ⟨v5, e5, rfl, v51, v52⟩ := hli.view
  obtain ⟨rfl, hr⟩ := all2_int v52
  exact ⟨⟨x, s, vs, m, li⟩, ⟨v3, ev, nv, v5, rfl, ⟨e3, v31, v32⟩, he, hn, v51, hc, hs, hr⟩, by simp only [szSt, szMt, szVs_eq, szInts]; omega⟩
theorem inSts : In enc Try.prog W held 22 1 (fun l => szL szSt l + 1) (RSl 7 RSt) := In.slice Try.underlying22 (by kernel_rfl) (by decide) RSt.mono inSt

def RSc : Rd (List Stp) := fun h a l => ∃ lv, a = [lv] ∧ SV h lv l ∧ lv.leaf = true
theorem inSc : In enc Try.prog W held 24 1 (szL szSt) RSc := by
  have I := In.struct (enc := enc) (W := W) (held := held) (P := Try.prog) (t := 24) (tot := 1) Try.underlying24 rfl (by kernel_rfl)
    (InF.cons (off := 0) (n := 1) (by kernel_rfl) (RSl.mono RSt.mono) inSts InF.nil)
  refine I.conv ?_
  rintro h a ⟨l, u⟩ ⟨b1, c1, rfl, _, hl, rfl⟩
  obtain ⟨v, e, rfl, v1, v2⟩ := hl.view
  exact ⟨l, ⟨v, rfl, ⟨e, v1, v2⟩, v1.leaf⟩, by dsimp only; omega⟩
end
end Go.Proofs.Ytbamgdknkhhikaa
