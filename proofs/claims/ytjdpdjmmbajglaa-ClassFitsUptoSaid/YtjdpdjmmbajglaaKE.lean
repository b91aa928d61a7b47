/-
  The plain law of subs: those of a class, with a class more that extends nothing.
-/
import Derived.Test.YtjdpdjmmbajglaaKD
namespace Go.Proofs.Ytjdpdjmmbajglaa
open Go.Ab
set_option linter.unusedSimpArgs false
set_option linter.unusedVariables false

def zz : Str := [90, 122, 57]
def clsZ : Cls := ⟨zz, [], []⟩

theorem Good.noName {l : List Cls} (G : Good l) : idx [] (names l) = none := by
  cases h : idx [] (names l) with
  | none => rfl
  | some i =>
    have := idx_mem h
    simp only [names, List.mem_map] at this
    obtain ⟨d, hd, hd2⟩ := this
    have := (G.2 d hd).1
    rw [hd2, isName_nil] at this; cases this

theorem idx_some_of_mem {s : Str} : ∀ {l : List Str}, s ∈ l → (idx s l).isSome = true
  | [], h => by cases h
  | c :: l, h => by
    simp only [idx]
    by_cases e : c = s
    · simp [e]
    · rw [if_neg e]
      have : s ∈ l := by
        rcases List.mem_cons.1 h with h | h
        · exact absurd h.symm e
        · exact h
      have := idx_some_of_mem this
      cases hx : idx s l with
      | none => rw [hx] at this; cases this
      | some i => rfl

theorem idx_none_of {s : Str} {l : List Str} (h : (idx s l).isSome = false) : s ∉ l := by
  intro hm; rw [idx_some_of_mem hm] at h; cases h

theorem idx_app_some {s : Str} {l m : List Str} (h : (idx s l).isSome = true) : (idx s (l ++ m)).isSome = true := by
  rw [idx_append]
  cases hx : idx s l with
  | none => rw [hx] at h; cases h
  | some i => rfl

theorem fldOk_app {all more : List Str} {f : Fld} (h : fldOk all f = true) : fldOk (all ++ more) f = true := by
  simp only [fldOk, Bool.and_eq_true, Bool.or_eq_true] at h ⊢
  obtain ⟨h1, h2⟩ := h
  exact ⟨h1, h2.imp id idx_app_some⟩

theorem goF_app {all more : List Str} : ∀ (fs pre : List Fld), goF all pre fs = true → goF (all ++ more) pre fs = true
  | [], _, h => h
  | f :: fs, pre, h => by
    simp only [goF, Bool.and_eq_true] at h ⊢
    exact ⟨⟨fldOk_app h.1.1, h.1.2⟩, goF_app fs _ h.2⟩

theorem fitsB_app {t : List Cls} {c : Cls} {all more : List Str} (h : fitsB t c all = true) : fitsB t c (all ++ more) = true := by
  simp only [fitsB, Bool.and_eq_true] at h ⊢
  obtain ⟨⟨⟨h1, h2⟩, h3⟩, h4⟩ := h
  exact ⟨⟨⟨h1, h2⟩, goF_app _ _ h3⟩, h4⟩

theorem validGo_app {all more : List Str} {m : List Cls} : ∀ (l pre : List Cls), validGo all pre l = true → validGo (all ++ more) (pre ++ l) m = true → validGo (all ++ more) pre (l ++ m) = true
  | [], pre, _, h => by simpa using h
  | c :: l, pre, h, hm => by
    simp only [validGo, Bool.and_eq_true, List.cons_append] at h ⊢
    refine ⟨⟨h.1.1, fitsB_app h.1.2⟩, validGo_app l _ h.2 ?_⟩
    simpa using hm

theorem valid_z {l : List Cls} (hv : valid l = true) (G : Good l) (hz : (idx zz (names l)).isSome = false) (h64 : l.length < 64) : valid (l ++ [clsZ]) = true := by
  simp only [valid, Bool.and_eq_true, decide_eq_true_eq] at hv ⊢
  refine ⟨by simp; omega, ?_⟩
  have hn : names (l ++ [clsZ]) = names l ++ [zz] := by simp [names, clsZ]
  rw [hn]
  refine validGo_app l [] hv.2 ?_
  have hu : upF l [] = [] := by unfold upF; rw [chain_none G.noName]; rfl
  have hnm : isName zz = true := by decide
  simp only [validGo, List.nil_append, fitsB, clsZ, hz, hnm, hu, goF]
  simp

theorem chain_app {l m : List Cls} (A : Asc l) (B : Asc (l ++ m)) : ∀ (i : Nat) {s : Str}, idx s (names l) = some i → (∀ c ∈ l, idx c.super (names l) = none → idx c.super (names (l ++ m)) = none) → chain (l ++ m) s = chain l s := by
  intro i
  induction i using Nat.strongRecOn with
  | _ i ih =>
    intro s hs hsup
    obtain ⟨c, hc, _⟩ := idx_get hs
    have hs' : idx s (names (l ++ m)) = some i := by rw [names_append, idx_append, hs]
    have hc' : (l ++ m)[i]? = some c := by
      rw [List.getElem?_append_left (List.getElem?_eq_some_iff.1 hc).1]; exact hc
    rw [chain_some A hs hc, chain_some B hs' hc']
    congr 1
    cases hj : idx c.super (names l) with
    | none => rw [chain_none hj, chain_none (hsup c (List.mem_of_getElem? hc) hj)]
    | some j => exact ih j (A i c hc j hj) hj hsup

/-- From a class upwards: what is met on the way is followed by its own way. -/
theorem chain_from {l : List Cls} (A : Asc l) : ∀ (i : Nat) {s : Str}, idx s (names l) = some i → ∀ d ∈ chain l s, ∃ p, chain l s = p ++ chain l d.name := by
  intro i
  induction i using Nat.strongRecOn with
  | _ i ih =>
    intro s hs d hd
    obtain ⟨c, hc, hcn⟩ := idx_get hs
    have e := chain_some A hs hc
    rw [e] at hd
    rcases List.mem_cons.1 hd with rfl | hd
    · exact ⟨[], by rw [hcn]; rfl⟩
    · cases hj : idx c.super (names l) with
      | none => rw [chain_none hj] at hd; cases hd
      | some j =>
        obtain ⟨p, hp⟩ := ih j (A i c hc j hj) hj d hd
        exact ⟨c :: p, by rw [e, hp]; rfl⟩

def isB (l : List Cls) (s of : Str) : Bool := (chain l s).any fun c => decide (c.name = of)

theorem isB_some {l : List Cls} {s of : Str} (h : isB l s of = true) : (idx s (names l)).isSome = true := by
  unfold isB at h
  cases hx : idx s (names l) with
  | none => rw [chain_none hx] at h; cases h
  | some i => rfl

theorem isB_self {l : List Cls} (A : Asc l) {s : Str} (h : (idx s (names l)).isSome = true) : isB l s s = true := by
  cases hx : idx s (names l) with
  | none => rw [hx] at h; cases h
  | some i =>
    obtain ⟨c, hc, hcn⟩ := idx_get hx
    unfold isB
    rw [chain_some A hx hc]
    simp [hcn]

theorem isB_trans {l : List Cls} (A : Asc l) {a b c : Str} (h1 : isB l a b = true) (h2 : isB l b c = true) : isB l a c = true := by
  have hs := isB_some h1
  unfold isB at h1 h2 ⊢
  rw [List.any_eq_true] at h1 h2 ⊢
  obtain ⟨d, hd, hdn⟩ := h1
  obtain ⟨e, he, hen⟩ := h2
  simp at hdn
  cases hx : idx a (names l) with
  | none => rw [hx] at hs; cases hs
  | some i =>
    obtain ⟨p, hp⟩ := chain_from A i hx d hd
    refine ⟨e, ?_, hen⟩
    rw [hp, hdn]
    exact List.mem_append_right _ he

theorem mem_subs {l : List Cls} {s w : Str} : w ∈ subsOf l s ↔ ∃ c ∈ l, isB l c.name s = true ∧ c.name = w := by
  simp [subsOf, isB, and_assoc]

theorem subs_len (l : List Cls) (s : Str) : (subsOf l s).length ≤ l.length := by
  unfold subsOf
  rw [List.length_map]
  exact List.length_filter_le _ _

/-- What the law of subs says of a table and of one with a class more. -/
structure SubsLaw (l m : List Cls) : Prop where
  has : ∀ s, (idx s (names l)).isSome = true → (idx s (names m)).isSome = true
  zed : (idx zz (names m)).isSome = true
  same : ∀ s, (idx s (names l)).isSome = true → subsOf m s = subsOf l s
  self : ∀ s, (idx s (names l)).isSome = true → s ∈ subsOf l s
  is : ∀ s w, w ∈ subsOf l s → isB l w s = true
  not : ∀ s w, w ∈ subsOf l s → isB m zz w = false
  below : ∀ s w, w ∈ subsOf l s → ∀ v ∈ subsOf l w, v ∈ subsOf l s
  alone : subsOf m zz = [zz]

theorem subsLaw {l : List Cls} (G : Good l) (G2 : Good (l ++ [clsZ])) (hz : (idx zz (names l)).isSome = false) : SubsLaw l (l ++ [clsZ]) := by
  have A := G.asc
  have B := G2.asc
  have hn : names (l ++ [clsZ]) = names l ++ [zz] := by simp [names, clsZ]
  have hzn := idx_none_of hz
  have hx0 : idx zz (names l) = none := by
    cases hx : idx zz (names l) with
    | none => rfl
    | some i => rw [hx] at hz; cases hz
  have hzi : idx zz (names (l ++ [clsZ])) = some l.length := by
    rw [hn, idx_append, hx0, names_length]
    simp [idx]
  have hsup : ∀ c ∈ l, idx c.super (names l) = none → idx c.super (names (l ++ [clsZ])) = none := by
    intro c hc hi
    obtain ⟨i, hi2⟩ := List.getElem?_of_mem hc
    rcases G.1 i c hi2 with h | ⟨j, _, h⟩
    · rw [h]; exact G2.noName
    · rw [hi] at h; cases h
  have hch : ∀ s, (idx s (names l)).isSome = true → chain (l ++ [clsZ]) s = chain l s := by
    intro s hs
    cases hx : idx s (names l) with
    | none => rw [hx] at hs; cases hs
    | some i => exact chain_app A B i hx hsup
  have hcz : chain (l ++ [clsZ]) zz = [clsZ] := by
    have hc : (l ++ [clsZ])[l.length]? = some clsZ := by simp
    rw [chain_some B hzi hc]
    show clsZ :: chain (l ++ [clsZ]) [] = _
    rw [chain_none G2.noName]
  have hmem : ∀ c ∈ l, (idx c.name (names l)).isSome = true := fun c hc => idx_some_of_mem (List.mem_map_of_mem hc)
  have hsub : ∀ s, subsOf (l ++ [clsZ]) s = subsOf l s ++ (if s = zz then [zz] else []) := by
    intro s
    unfold subsOf
    rw [List.filter_append, List.map_append]
    congr 1
    · congr 1
      refine List.filter_congr fun c hc => ?_
      rw [hch _ (hmem c hc)]
    · have : chain (l ++ [clsZ]) clsZ.name = [clsZ] := hcz
      simp only [List.filter_cons, List.filter_nil, this, List.any_cons, List.any_nil, Bool.or_false]
      have hz2 : clsZ.name = zz := rfl
      rw [hz2]
      by_cases h : s = zz
      · subst h; simp [clsZ]
      · have h' : ¬ zz = s := fun e => h e.symm
        simp [h, h']
  have hzs : subsOf l zz = [] := by
    refine List.eq_nil_iff_forall_not_mem.2 fun w hw => ?_
    obtain ⟨c, hc, h1, _⟩ := mem_subs.1 hw
    unfold isB at h1
    rw [List.any_eq_true] at h1
    obtain ⟨d, hd, hdn⟩ := h1
    cases hx : idx c.name (names l) with
    | none => rw [chain_none hx] at hd; cases hd
    | some i =>
      have := chain_mem A i hx d hd
      simp at hdn
      exact hzn (by rw [← hdn]; exact List.mem_map_of_mem this)
  refine ⟨?_, ?_, ?_, ?_, ?_, ?_, ?_, ?_⟩
  · intro s hs; rw [hn]; exact idx_app_some hs
  · rw [hzi]; rfl
  · intro s hs
    have : s ≠ zz := by intro e; rw [e, hz] at hs; cases hs
    rw [hsub, if_neg this, List.append_nil]
  · intro s hs
    cases hx : idx s (names l) with
    | none => rw [hx] at hs; cases hs
    | some i =>
      obtain ⟨c, hc, hcn⟩ := idx_get hx
      exact mem_subs.2 ⟨c, List.mem_of_getElem? hc, by rw [hcn]; exact isB_self A hs, hcn⟩
  · intro s w hw
    obtain ⟨c, _, h1, rfl⟩ := mem_subs.1 hw
    exact h1
  · intro s w hw
    obtain ⟨c, hc, h1, rfl⟩ := mem_subs.1 hw
    unfold isB
    rw [hcz]
    have : ¬ zz = c.name := fun e => hzn (by rw [e]; exact List.mem_map_of_mem hc)
    simpa [clsZ] using this
  · intro s w hw v hv
    obtain ⟨c, hc, h1, rfl⟩ := mem_subs.1 hw
    obtain ⟨d, hd, h2, rfl⟩ := mem_subs.1 hv
    exact mem_subs.2 ⟨d, hd, isB_trans A h2 h1, rfl⟩
  · rw [hsub, hzs, if_pos rfl]; rfl
end Go.Proofs.Ytjdpdjmmbajglaa
