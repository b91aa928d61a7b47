/-
  The plain law of order: names once, fields once, masks that share nothing.
-/
import Derived.Test.YtjdpdjmmbajglaaKE
namespace Go.Proofs.Ytjdpdjmmbajglaa
open Go.Ab
set_option linter.unusedSimpArgs false
set_option linter.unusedVariables false

theorem validGo_at {all : List Str} : ∀ (l pre : List Cls), validGo all pre l = true → ∀ (i : Nat) c, l[i]? = some c → fitsB (pre ++ l.take i) c all = true ∧ c.fields.length ≤ 62
  | [], _, _, i, c, h => by simp at h
  | d :: l, pre, hv, i, c, h => by
    simp only [validGo, Bool.and_eq_true, decide_eq_true_eq] at hv
    cases i with
    | zero => simp at h; subst h; simpa using ⟨hv.1.2, hv.1.1⟩
    | succ i =>
      simp at h
      have := validGo_at l _ hv.2 i c h
      simpa using this

theorem valid_at {l : List Cls} (hv : valid l = true) {i : Nat} {c : Cls} (hc : l[i]? = some c) : fitsB (l.take i) c (names l) = true ∧ c.fields.length ≤ 62 := by
  simp only [valid, Bool.and_eq_true] at hv
  simpa using validGo_at l [] hv.2 i c hc

theorem uniq {l : List Cls} (hv : valid l = true) {i : Nat} {c : Cls} (hc : l[i]? = some c) : idx c.name (names l) = some i := by
  have hf := (valid_at hv hc).1
  simp only [fitsB, Bool.and_eq_true, Bool.not_eq_true'] at hf
  have hn := hf.1.1.1.2
  have hlt := (List.getElem?_eq_some_iff.1 hc).1
  have e : l = l.take i ++ c :: l.drop (i + 1) := by
    have h1 := (List.getElem?_eq_some_iff.1 hc).2
    rw [← h1, ← List.drop_eq_getElem_cons hlt, List.take_append_drop]
  have e2 : names l = names (l.take i) ++ names (c :: l.drop (i + 1)) := by rw [← names_append, ← e]
  rw [e2, idx_append]
  cases hx : idx c.name (names (l.take i)) with
  | some j => rw [hx] at hn; cases hn
  | none =>
    have hl : (names (l.take i)).length = i := by rw [names_length]; simp; omega
    simp [names, idx]
    omega

theorem idx_take {l : List Cls} {s : Str} {i j : Nat} (h : idx s (names l) = some j) (hj : j < i) : idx s (names (l.take i)) = some j := by
  have e : names l = names (l.take i) ++ names (l.drop i) := by rw [← names_append, List.take_append_drop]
  rw [e, idx_append] at h
  cases hx : idx s (names (l.take i)) with
  | some k => rw [hx] at h; exact h
  | none =>
    rw [hx] at h
    simp only at h
    cases hy : idx s (names (l.drop i)) with
    | none => rw [hy] at h; cases h
    | some k =>
      rw [hy] at h
      simp at h
      rw [names_length] at h
      have hd := (idx_lt hy).1
      rw [names_length] at hd
      simp at hd h
      omega

theorem Good.take {l : List Cls} (G : Good l) (i : Nat) : Good (l.take i) := by
  refine ⟨fun k c hc => ?_, fun c hc => G.2 c (List.mem_of_mem_take hc)⟩
  have hk : k < i := by
    have := (List.getElem?_eq_some_iff.1 hc).1
    simp at this; omega
  rw [List.getElem?_take] at hc
  simp only [hk, if_true] at hc
  rcases G.1 k c hc with h | ⟨j, h1, h2⟩
  · exact .inl h
  · exact .inr ⟨j, h1, idx_take h2 (by omega)⟩

theorem chain_take {l : List Cls} (G : Good l) {i : Nat} {c : Cls} (hc : l[i]? = some c) : chain (l.take i) c.super = chain l c.super := by
  have Gt := G.take i
  rcases G.1 i c hc with h | ⟨j, h1, h2⟩
  · rw [h, chain_none G.noName, chain_none Gt.noName]
  · have e : l.take i ++ l.drop i = l := List.take_append_drop i l
    have B : Asc (l.take i ++ l.drop i) := by rw [e]; exact G.asc
    have := chain_app (m := l.drop i) Gt.asc B j (idx_take h2 h1) (fun d hd hn => ?_)
    · rw [e] at this; exact this.symm
    · rw [e]
      obtain ⟨k, hk⟩ := List.getElem?_of_mem hd
      rcases Gt.1 k d hk with h | ⟨q, _, hq⟩
      · rw [h]; exact G.noName
      · rw [hn] at hq; cases hq

theorem goF_nodup {all : List Str} : ∀ (fs prev : List Fld), goF all prev fs = true → (fnames fs).Nodup ∧ ∀ n ∈ fnames fs, n ∉ fnames prev
  | [], _, _ => ⟨List.nodup_nil, fun n h => by cases h⟩
  | f :: fs, prev, h => by
    simp only [goF, Bool.and_eq_true, decide_eq_true_eq] at h
    obtain ⟨i1, i2⟩ := goF_nodup fs _ h.2
    have hn : f.name ∉ fnames prev := by
      intro hm
      simp only [fnames, List.mem_map] at hm
      obtain ⟨g, hg, hgn⟩ := hm
      have h0 := h.1.2
      unfold cnt at h0
      rw [List.length_eq_zero_iff, List.filter_eq_nil_iff] at h0
      exact h0 g hg (by simpa using hgn)
    refine ⟨?_, fun n hm => ?_⟩
    · show (f.name :: fnames fs).Nodup
      refine List.nodup_cons.2 ⟨fun hm => i2 _ hm (by simp [fnames]), i1⟩
    · have hm' : n = f.name ∨ n ∈ fnames fs := by simpa [fnames] using hm
      rcases hm' with rfl | hm'
      · exact hn
      · intro hp
        refine i2 n hm' ?_
        simp only [fnames, List.map_append, List.mem_append] at hp ⊢
        exact .inl hp

theorem fields_step {l : List Cls} (A : Asc l) {s : Str} {i : Nat} {c : Cls} (hs : idx s (names l) = some i) (hc : l[i]? = some c) : fieldsOf l s = fieldsOf l c.super ++ c.fields := by
  unfold fieldsOf
  rw [chain_some A hs hc]
  simp

theorem flat_len {α β : Type} (f : α → List β) : ∀ (l : List α), (l.reverse.flatMap f).length = (l.flatMap f).length
  | [] => rfl
  | x :: l => by
    rw [List.reverse_cons, List.flatMap_append, List.length_append, flat_len f l]
    simp; omega

theorem fields_mem {l : List Cls} {s n : Str} : n ∈ fnames (fieldsOf l s) ↔ n ∈ fnames (upF l s) := by
  simp [fnames, fieldsOf, upF]

theorem fields_len {l : List Cls} {s : Str} : (fieldsOf l s).length = (upF l s).length := flat_len _ _

theorem fields_ok {l : List Cls} (hv : valid l = true) (G : Good l) : ∀ (i : Nat) {s : Str}, idx s (names l) = some i → (fnames (fieldsOf l s)).Nodup ∧ (fieldsOf l s).length ≤ 62 := by
  intro i
  induction i using Nat.strongRecOn with
  | _ i ih =>
    intro s hs
    obtain ⟨c, hc, hcn⟩ := idx_get hs
    have hf := (valid_at hv hc).1
    simp only [fitsB, Bool.and_eq_true, decide_eq_true_eq] at hf
    have hg := hf.1.2
    have h62 := hf.2
    have hup : upF (l.take i) c.super = upF l c.super := by unfold upF; rw [chain_take G hc]
    rw [hup] at hg h62
    obtain ⟨g1, g2⟩ := goF_nodup _ _ hg
    rw [fields_step G.asc hs hc]
    have hfst : (fnames (fieldsOf l c.super)).Nodup := by
      cases hj : idx c.super (names l) with
      | none => unfold fieldsOf; rw [chain_none hj]; exact List.nodup_nil
      | some j => exact (ih j (G.asc i c hc j hj) hj).1
    refine ⟨?_, by rw [List.length_append, fields_len]; exact h62⟩
    have e : fnames (fieldsOf l c.super ++ c.fields) = fnames (fieldsOf l c.super) ++ fnames c.fields := by simp [fnames]
    rw [e]
    refine List.nodup_append.2 ⟨hfst, g1, fun a ha b hb hab => ?_⟩
    subst hab
    exact g2 a hb (fields_mem.1 ha)

/-! ### Masks -/
def lows (k : Nat) : Int := ((2 ^ k - 1 : Nat) : Int)
def andU (a b : Int) : Int := IntKind.u64.wrap ((BitVec.ofInt 64 a &&& BitVec.ofInt 64 b).toNat : Nat)

theorem masks : ∀ k : Fin 63, orU 0 (shl1 k.val) = shl1 k.val ∧ orU (lows k.val) (shl1 k.val) = lows (k.val + 1) ∧ andU (lows k.val) (shl1 k.val) = 0 ∧ shl1 k.val ≠ 0 := by decide +kernel

theorem idx_nodup : ∀ {l : List Str} {k : Nat} {s : Str}, l.Nodup → l[k]? = some s → idx s l = some k
  | [], k, s, _, h => by simp at h
  | c :: l, 0, s, _, h => by simp at h; subst h; simp [idx]
  | c :: l, k + 1, s, hn, h => by
    simp at h
    have hn' := List.nodup_cons.1 hn
    have : ¬ c = s := fun e => hn'.1 (by rw [e]; exact List.mem_of_getElem? h)
    simp only [idx, if_neg this, idx_nodup hn'.2 h]
    rfl

theorem maskGo_take {fn : List Str} (hn : fn.Nodup) (h62 : fn.length ≤ 62) : ∀ (m k : Nat), m = fn.length - k → k ≤ fn.length → maskGo fn (fn.drop k) (lows k) = some (lows fn.length)
  | 0, k, hm, hk => by
    have e : k = fn.length := by omega
    subst e
    rw [List.drop_length]; rfl
  | m + 1, k, hm, hk => by
    have hlt : k < fn.length := by omega
    rw [List.drop_eq_getElem_cons hlt]
    simp only [maskGo, idx_nodup hn (List.getElem?_eq_getElem hlt)]
    rw [(masks ⟨k, by omega⟩).2.1]
    exact maskGo_take hn h62 m (k + 1) (by omega) (by omega)

theorem maskOf_one {l : List Cls} {s : Str} {i k : Nat} {w : Str} (hs : idx s (names l) = some i) (hn : (fnames (fieldsOf l s)).Nodup) (h62 : (fieldsOf l s).length ≤ 62) (hk : (fnames (fieldsOf l s))[k]? = some w) : maskOf l s [w] = (shl1 k, 0) := by
  have hlt := (List.getElem?_eq_some_iff.1 hk).1
  have : (fnames (fieldsOf l s)).length = (fieldsOf l s).length := by simp [fnames]
  simp only [maskOf, hs, maskGo, idx_nodup hn hk]
  rw [(masks ⟨k, by omega⟩).1]

theorem maskOf_all {l : List Cls} {s : Str} {i : Nat} (hs : idx s (names l) = some i) (hn : (fnames (fieldsOf l s)).Nodup) (h62 : (fieldsOf l s).length ≤ 62) : maskOf l s (fnames (fieldsOf l s)) = (lows (fieldsOf l s).length, 0) := by
  have hl : (fnames (fieldsOf l s)).length = (fieldsOf l s).length := by simp [fnames]
  have := maskGo_take hn (by omega) _ 0 rfl (Nat.zero_le _)
  rw [List.drop_zero, hl] at this
  have h0 : lows 0 = 0 := rfl
  rw [h0] at this
  simp only [maskOf, hs, this]

/-! ### What is what -/
theorem is_super {l : List Cls} (G : Good l) {i : Nat} {c : Cls} (hv : valid l = true) (hc : l[i]? = some c) (hs : c.super ≠ []) : ∃ j, j < i ∧ idx c.super (names l) = some j ∧ isB l c.name c.super = true ∧ isB l c.super c.name = false := by
  have hi := uniq hv hc
  rcases G.1 i c hc with h | ⟨j, h1, h2⟩
  · exact absurd h hs
  · refine ⟨j, h1, h2, ?_, ?_⟩
    · obtain ⟨d, hd, hdn⟩ := idx_get h2
      unfold isB
      rw [chain_some G.asc hi hc, chain_some G.asc h2 hd]
      simp [hdn]
    · cases hb : isB l c.super c.name with
      | false => rfl
      | true =>
        exfalso
        have key : ∀ (j : Nat) {s : Str}, idx s (names l) = some j → ∀ d ∈ chain l s, ∃ q, q ≤ j ∧ idx d.name (names l) = some q := by
          intro j
          induction j using Nat.strongRecOn with
          | _ j ih =>
            intro s hsj d hd
            obtain ⟨e, he, hen⟩ := idx_get hsj
            rw [chain_some G.asc hsj he] at hd
            rcases List.mem_cons.1 hd with rfl | hd
            · exact ⟨j, Nat.le_refl _, uniq hv he⟩
            · cases hq : idx e.super (names l) with
              | none => rw [chain_none hq] at hd; cases hd
              | some q =>
                have hlt := G.asc j e he q hq
                obtain ⟨r, hr, hr2⟩ := ih q hlt hq d hd
                exact ⟨r, by omega, hr2⟩
        unfold isB at hb
        rw [List.any_eq_true] at hb
        obtain ⟨d, hd, hdn⟩ := hb
        simp at hdn
        obtain ⟨q, hq, hq2⟩ := key j h2 d hd
        rw [hdn, hi] at hq2
        cases hq2
        omega
end Go.Proofs.Ytjdpdjmmbajglaa
