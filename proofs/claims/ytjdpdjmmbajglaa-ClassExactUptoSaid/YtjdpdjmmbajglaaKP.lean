/-
  The plain law: the document's tables are the program's.
-/
import Derived.Test.YtjdpdjmmbajglaaKO
namespace Go.Proofs.Ytjdpdjmmbajglaa
open Go.Ab
set_option linter.unusedSimpArgs false
set_option linter.unusedVariables false

theorem fieldsOf_none {l : List Cls} {s : Str} (h : idx s (names l) = none) : fieldsOf l s = [] := by unfold fieldsOf; rw [chain_none h]; rfl

theorem fieldsOf_take {l : List Cls} (G : Good l) {i : Nat} {c : Cls} (hc : l[i]? = some c) : fieldsOf (l.take i) c.super = fieldsOf l c.super := by
  unfold fieldsOf; rw [chain_take G hc]

theorem refF_step {l : List Cls} {k : Nat} {s : Str} {i : Nat} {c : Cls} (hs : idx s (names l) = some i) (hc : l[i]? = some c) : refF (k + 1) l s = (if c.super = [] then [] else refF k (l.take i) c.super) ++ c.fields := by
  conv => lhs; unfold refF
  simp only [hs, hc]

theorem refF_eq : ∀ (i : Nat) {l : List Cls} {s : Str} {k : Nat}, Good l → idx s (names l) = some i → i < k → refF k l s = fieldsOf l s := by
  intro i
  induction i using Nat.strongRecOn with
  | _ i ih =>
    intro l s k G hs hk
    obtain ⟨k, rfl⟩ : ∃ j, k = j + 1 := ⟨k - 1, by omega⟩
    obtain ⟨c, hc, hcn⟩ := idx_get hs
    rw [refF_step hs hc, fields_step G.asc hs hc]
    congr 1
    rcases G.1 i c hc with h | ⟨j, h1, h2⟩
    · rw [if_pos h, h, fieldsOf_none G.noName]
    · have hne : c.super ≠ [] := fun e => by rw [e, G.noName] at h2; cases h2
      rw [if_neg hne, ih j h1 (G.take i) (idx_take h2 h1) (by omega), fieldsOf_take G hc]

theorem refF_all {l : List Cls} (G : Good l) (s : Str) : refF (l.length + 1) l s = fieldsOf l s := by
  cases hs : idx s (names l) with
  | none => rw [fieldsOf_none hs]; simp only [refF, hs]
  | some i =>
    have := (idx_lt hs).1
    rw [names_length] at this
    exact refF_eq i G hs (by omega)

theorem good_of : ∀ {all : List Str} (l pre : List Cls), Good pre → validGo all pre l = true → Good (pre ++ l)
  | _, [], pre, G, _ => by simpa using G
  | all, c :: l, pre, G, h => by
    simp only [validGo, Bool.and_eq_true, decide_eq_true_eq] at h
    have := good_of l (pre ++ [c]) (G.next h.1.2 h.1.1) h.2
    simpa using this

theorem Good.nil : Good [] := ⟨fun i c h => by simp at h, fun c h => by cases h⟩

theorem valid_good {l : List Cls} (hv : valid l = true) : Good l := by
  simp only [valid, Bool.and_eq_true] at hv
  simpa using good_of l [] Good.nil hv.2

theorem goF_all {all : List Str} : ∀ (fs prev : List Fld), goF all prev fs = true → ∀ f ∈ fs, fldOk all f = true
  | [], _, _, f, hf => by cases hf
  | g :: fs, prev, h, f, hf => by
    simp only [goF, Bool.and_eq_true] at h
    rcases List.mem_cons.1 hf with rfl | hf
    · exact h.1.1
    · exact goF_all fs _ h.2 f hf

theorem fields_fldOk {l : List Cls} (hv : valid l = true) {s : Str} : ∀ f ∈ fieldsOf l s, fldOk (names l) f = true := by
  intro f hf
  have G := valid_good hv
  unfold fieldsOf at hf
  rw [List.mem_flatMap] at hf
  obtain ⟨c, hc, hfc⟩ := hf
  have hc' : c ∈ chain l s := List.mem_reverse.1 hc
  cases hs : idx s (names l) with
  | none => rw [chain_none hs] at hc'; cases hc'
  | some i =>
    obtain ⟨k, hk⟩ := List.getElem?_of_mem (chain_mem G.asc i hs c hc')
    have h1 := (valid_at hv hk).1
    simp only [fitsB, Bool.and_eq_true] at h1
    exact goF_all _ _ h1.1.2 f hfc

theorem fOk_of {all fn : List Str} {k : Nat} {f : Fld} (h : fldOk all f = true) (hk : idx f.name fn = some k) : fOk all fn k f = true := by
  simp only [fldOk, Bool.and_eq_true, decide_eq_true_eq, beq_iff_eq, Bool.or_eq_true, Bool.not_eq_true'] at h
  obtain ⟨⟨⟨⟨h1, h2⟩, h3⟩, h4⟩, h5⟩ := h
  simp only [fOk, h1, hk, decide_true, Bool.true_and, decide_eq_true h2, decide_eq_true h3]
  by_cases e : f.ty = 5
  · rcases h5 with h5 | h5
    · rw [decide_eq_false_iff_not] at h5; exact absurd e h5
    · rw [if_pos e]
      cases hx : idx f.cls all with
      | none => rw [hx] at h5; cases h5
      | some x => rfl
  · rw [if_neg e]
    rw [decide_eq_false e] at h4
    have : decide (f.cls = []) = true := by
      cases hd : decide (f.cls = []) with
      | true => rfl
      | false => rw [hd] at h4; cases h4
    rw [this]; rfl

theorem fGo_of {all fn : List Str} : ∀ (fs : List Fld) (k : Nat), (∀ (i : Nat) f, fs[i]? = some f → fOk all fn (k + i) f = true) → fGo all fn k fs = true
  | [], _, _ => rfl
  | f :: fs, k, h => by
    rw [fGo, show fOk all fn k f = true from h 0 f rfl, Bool.true_and]
    refine fGo_of fs (k + 1) (fun i g hi => ?_)
    have := h (i + 1) g (by simpa using hi)
    rw [show k + 1 + i = k + (i + 1) from by omega]; exact this

theorem fGo_at {all fn : List Str} : ∀ (fs : List Fld) (k : Nat), fGo all fn k fs = true → ∀ (i : Nat) f, fs[i]? = some f → fOk all fn (k + i) f = true
  | [], _, _, i, f, hi => by simp at hi
  | g :: fs, k, h, i, f, hi => by
    simp only [fGo, Bool.and_eq_true] at h
    cases i with
    | zero => simp at hi; subst hi; exact h.1
    | succ i =>
      have := fGo_at fs (k + 1) h.2 i f (by simpa using hi)
      rw [show k + (i + 1) = k + 1 + i from by omega]; exact this

theorem mayGo_of {l : List Cls} : ∀ (r : List Cls) (k : Nat), (∀ (i : Nat) c, r[i]? = some c → clsOk l (k + i) c = true) → mayGo l k r = true
  | [], _, _ => rfl
  | c :: r, k, h => by
    rw [mayGo, show clsOk l k c = true from h 0 c rfl, Bool.true_and]
    refine mayGo_of r (k + 1) (fun i g hi => ?_)
    have := h (i + 1) g (by simpa using hi)
    rw [show k + 1 + i = k + (i + 1) from by omega]; exact this

theorem mayGo_at {l : List Cls} : ∀ (r : List Cls) (k : Nat), mayGo l k r = true → ∀ (i : Nat) c, r[i]? = some c → clsOk l (k + i) c = true
  | [], _, _, i, f, hi => by simp at hi
  | g :: r, k, h, i, c, hi => by
    simp only [mayGo, Bool.and_eq_true] at h
    cases i with
    | zero => simp at hi; subst hi; exact h.1
    | succ i =>
      have := mayGo_at r (k + 1) h.2 i c (by simpa using hi)
      rw [show k + (i + 1) = k + 1 + i from by omega]; exact this

theorem may_of_valid {l : List Cls} (hv : valid l = true) : mayB l = true := by
  have G := valid_good hv
  have h64 : l.length ≤ 64 := by simp only [valid, Bool.and_eq_true, decide_eq_true_eq] at hv; exact hv.1
  unfold mayB
  rw [decide_eq_true h64, Bool.true_and]
  refine mayGo_of l 0 (fun i c hc => ?_)
  rw [Nat.zero_add]
  obtain ⟨hf, h62⟩ := valid_at hv hc
  simp only [fitsB, Bool.and_eq_true] at hf
  have hx := uniq hv hc
  obtain ⟨hnd, hF⟩ := fields_ok hv G i hx
  unfold clsOk
  rw [refF_all G, hf.1.1.1.1, decide_eq_true hx, hf.1.1.2, decide_eq_true h62, decide_eq_true hF]
  simp only [Bool.true_and]
  refine fGo_of _ 0 (fun k f hk => ?_)
  rw [Nat.zero_add]
  exact fOk_of (fields_fldOk hv f (List.mem_of_getElem? hk)) (idx_nodup hnd (by simp [fnames, hk]))

theorem fldOk_of {all fn : List Str} {k : Nat} {f : Fld} (h0 : idx [] all = none) (h : fOk all fn k f = true) : fldOk all f = true := by
  simp only [fOk, Bool.and_eq_true, decide_eq_true_eq, Bool.not_eq_true'] at h
  obtain ⟨⟨⟨⟨h1, h2⟩, h3⟩, h4⟩, h5⟩ := h
  simp only [fldOk, h1, decide_eq_true h3, decide_eq_true h4, Bool.true_and]
  by_cases e : f.ty = 5
  · rw [if_pos e] at h5
    have hne : f.cls ≠ [] := fun hh => by rw [hh, h0] at h5; cases h5
    have hs : (idx f.cls all).isSome = true := by
      cases hx : idx f.cls all with
      | none => rw [hx] at h5; cases h5
      | some x => rfl
    rw [decide_eq_true e, decide_eq_false hne, hs]; rfl
  · rw [if_neg e] at h5
    have hd : f.cls = [] := by simpa using h5
    rw [decide_eq_false e, hd]; rfl

theorem goF_of {all fn : List Str} (h0 : idx [] all = none) : ∀ (fs U prev : List Fld), (∀ n, n ∈ fnames prev ↔ n ∈ fnames U) → fn = fnames (U ++ fs) → fGo all fn U.length fs = true → goF all prev fs = true
  | [], _, _, _, _, _ => rfl
  | f :: fs, U, prev, hp, hfn, h => by
    simp only [fGo, Bool.and_eq_true] at h
    have hk : idx f.name fn = some U.length := by
      have := h.1
      simp only [fOk, Bool.and_eq_true, decide_eq_true_eq] at this
      exact this.1.1.1.2
    have hnot : f.name ∉ fnames U := by
      intro hm
      have hs := idx_some_of_mem hm
      cases hx : idx f.name (fnames U) with
      | none => rw [hx] at hs; cases hs
      | some j =>
        have e : fn = fnames U ++ fnames (f :: fs) := by rw [hfn]; simp [fnames]
        rw [e, idx_append, hx] at hk
        have := (idx_lt hx).1
        simp only at hk
        injection hk with hk
        have hl : (fnames U).length = U.length := by simp [fnames]
        omega
    have hc : cnt f.name prev = 0 := by
      unfold cnt
      rw [List.length_eq_zero_iff, List.filter_eq_nil_iff]
      intro g hg hgn
      simp at hgn
      exact hnot ((hp _).1 (by rw [← hgn]; exact List.mem_map_of_mem hg))
    rw [goF, fldOk_of h0 h.1, decide_eq_true hc]
    simp only [Bool.true_and]
    refine goF_of (fn := fn) h0 fs (U ++ [f]) (prev ++ [f]) (fun n => ?_) (by rw [hfn]; simp) (by simpa using h.2)
    have := hp n
    simp only [fnames, List.map_append, List.mem_append] at this ⊢
    rw [this]

theorem fGo_app {all fn : List Str} : ∀ (a b : List Fld) (k : Nat), fGo all fn k (a ++ b) = true → fGo all fn (k + a.length) b = true
  | [], b, k, h => by simpa using h
  | f :: a, b, k, h => by
    simp only [List.cons_append, fGo, Bool.and_eq_true] at h
    have := fGo_app a b (k + 1) h.2
    simp only [List.length_cons]
    rw [show k + (a.length + 1) = k + 1 + a.length from by omega]; exact this

theorem idx_of_take {l : List Cls} {s : Str} {i j : Nat} (h : idx s (names (l.take i)) = some j) : idx s (names l) = some j ∧ j < i := by
  have e : names l = names (l.take i) ++ names (l.drop i) := by rw [← names_append, List.take_append_drop]
  have hj := (idx_lt h).1
  rw [names_length] at hj
  simp at hj
  exact ⟨by rw [e, idx_append, h], by omega⟩

theorem valid_of_may {l : List Cls} (hm : mayB l = true) : valid l = true := by
  simp only [mayB, Bool.and_eq_true, decide_eq_true_eq] at hm
  obtain ⟨h64, hm⟩ := hm
  have hcls : ∀ (i : Nat) c, l[i]? = some c → clsOk l i c = true := fun i c hc => by
    have := mayGo_at l 0 hm i c hc
    rwa [Nat.zero_add] at this
  have h0 : idx [] (names l) = none := by
    cases hx : idx [] (names l) with
    | none => rfl
    | some i =>
      obtain ⟨c, hc, hcn⟩ := idx_get hx
      have := hcls i c hc
      simp only [clsOk, Bool.and_eq_true, hcn, isName_nil] at this
      exact absurd this.1.1.1.1 (by decide)
  have key : ∀ (m i : Nat), m = l.length - i → i ≤ l.length → Good (l.take i) → validGo (names l) (l.take i) (l.drop i) = true := by
    intro m
    induction m with
    | zero =>
      intro i hmi hi _
      rw [List.drop_of_length_le (by omega)]; rfl
    | succ m ih =>
      intro i hmi hi G
      have hlt : i < l.length := by omega
      rw [List.drop_eq_getElem_cons hlt]
      have hc := List.getElem?_eq_getElem hlt
      have ht : l.take (i + 1) = l.take i ++ [l[i]] := take_next hlt
      generalize l[i] = c at *
      have hk := hcls i c hc
      unfold clsOk at hk
      simp only [Bool.and_eq_true, decide_eq_true_eq] at hk
      obtain ⟨⟨⟨⟨a1, a2⟩, a3⟩, a4⟩, a5, a6⟩ := hk
      have hF : refF (l.length + 1) l c.name = fieldsOf (l.take i) c.super ++ c.fields := by
        rw [refF_step a2 hc]
        congr 1
        by_cases hs : c.super = []
        · rw [if_pos hs, hs, fieldsOf_none G.noName]
        · rw [if_neg hs]
          rw [decide_eq_false hs, Bool.false_or] at a3
          cases hx : idx c.super (names (l.take i)) with
          | none => rw [hx] at a3; cases a3
          | some j =>
            have := (idx_of_take hx).2
            exact refF_eq j G hx (by omega)
      rw [hF] at a5 a6
      have hfit : fitsB (l.take i) c (names l) = true := by
        unfold fitsB
        have hn : (idx c.name (names (l.take i))).isSome = false := by
          cases hx : idx c.name (names (l.take i)) with
          | none => rfl
          | some j =>
            obtain ⟨b1, b2⟩ := idx_of_take hx
            rw [a2] at b1; cases b1; omega
        rw [a1, hn, a3]
        simp only [Bool.not_false, Bool.true_and, Bool.and_eq_true, decide_eq_true_eq]
        refine ⟨?_, by rw [← fields_len, ← List.length_append]; exact a5⟩
        refine goF_of (fn := fnames (fieldsOf (l.take i) c.super ++ c.fields)) h0 c.fields (fieldsOf (l.take i) c.super) _ (fun n => fields_mem.symm) rfl ?_
        have := fGo_app _ _ 0 a6
        rwa [Nat.zero_add] at this
      rw [validGo, decide_eq_true a4, hfit, ← ht]
      simp only [Bool.true_and]
      refine ih (i + 1) (by omega) hlt ?_
      rw [ht]
      exact G.next hfit a4
  unfold valid
  rw [decide_eq_true h64, Bool.true_and]
  have := key l.length 0 (by omega) (Nat.zero_le _) (by simpa using Good.nil)
  simpa using this

theorem may_valid (l : List Cls) : mayB l = valid l := by
  cases h : valid l with
  | true => exact may_of_valid h
  | false =>
    cases hm : mayB l with
    | false => rfl
    | true => rw [valid_of_may hm] at h; cases h
end Go.Proofs.Ytjdpdjmmbajglaa
