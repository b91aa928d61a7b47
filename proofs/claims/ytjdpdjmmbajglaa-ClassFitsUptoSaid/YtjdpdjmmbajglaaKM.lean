/-
  The document's own answer: a class's fields; what extends what.
-/
import Derived.Test.YtjdpdjmmbajglaaKJ
namespace Go.Proofs.Ytjdpdjmmbajglaa
open Go.Ab
set_option linter.unusedSimpArgs false
set_option linter.unusedVariables false

def refF : Nat → List Cls → Str → List Fld
  | 0, _, _ => []
  | k + 1, l, s => match idx s (names l) with
    | none => []
    | some i => match l[i]? with
      | none => []
      | some c => (if c.super = [] then [] else refF k (l.take i) c.super) ++ c.fields

theorem refF_len : ∀ (k : Nat) (l : List Cls) (s : Str), (refF k l s).length ≤ load l
  | 0, _, _ => Nat.zero_le _
  | k + 1, l, s => by
    simp only [refF]
    cases hs : idx s (names l) with
    | none => exact Nat.zero_le _
    | some i =>
      simp only
      cases hc : l[i]? with
      | none => exact Nat.zero_le _
      | some c =>
        simp only [List.length_append]
        have hlt := (List.getElem?_eq_some_iff.1 hc).1
        have hcc := (List.getElem?_eq_some_iff.1 hc).2
        have h1 : load (l.take (i + 1)) = load (l.take i) + (1 + c.fields.length) := by
          rw [take_next hlt, load_append, hcc]; simp [load]
        have h2 := load_take l (i + 1)
        have h3 : (if c.super = [] then [] else refF k (l.take i) c.super).length ≤ load (l.take i) := by
          by_cases h : c.super = []
          · rw [if_pos h]; exact Nat.zero_le _
          · rw [if_neg h]; exact refF_len k _ _
        omega

theorem CV.front {h : AHeap} {v : AV} {l : List Cls} (C : CV h v l) {i : Nat} (hi : i ≤ l.length) : ∃ v', sliceV h 3 v none (some (.int .i64 (i : Int))) none = some v' ∧ CV h v' (l.take i) := by
  obtain ⟨es, V, A⟩ := C
  obtain ⟨v', h1, h2⟩ := V.front (j := .i64) (b := i) (by rw [A.length]; exact hi)
  exact ⟨v', h1, _, h2, A.take i⟩

theorem c34 : ∀ (d n : Nat) {h : AHeap} {v : AV} {l : List Cls} {s : Str} {K : Kont}, l.length ≤ d → d + 2 < n → n < lim → h.Ok → CV h v l → load l ≤ 100000 →
    (∀ h' u, Ext h h' → h'.Ok → Own h.sz h' 3 u ((refF (d + 1) l s).map encF) → K u h' = true) → callN E (n + 1) (.func 34) [v, .str s] h K = true := by
  intro d
  induction d with
  | zero =>
    intro n h v l s K hl hn hL ho C hld k
    have hnil : l = [] := List.length_eq_zero_iff.1 (by omega)
    subst hnil
    apply d34
    unfold s34
    obtain ⟨es, V, A, N⟩ := C.named
    obtain ⟨n, rfl⟩ : ∃ j, n = j + 1 := ⟨n - 1, by omega⟩
    refine c33 V N (by simp [names]; omega) (by simp [names]; unfold lim; omega) ?_
    rw [binA_lss, optB_some, condB_t (by rfl)]
    exact k h _ (Ext.refl _) ho (Own.nil _ _ _)
  | succ d ih =>
    intro n h v l s K hl hn hL ho C hld k
    apply d34
    unfold s34
    obtain ⟨es, V, A, N⟩ := C.named
    obtain ⟨n, rfl⟩ : ∃ j, n = j + 1 := ⟨n - 1, by omega⟩
    refine c33 V N (by rw [names_length]; omega) (by rw [names_length]; omega) ?_
    rw [binA_lss, optB_some]
    cases hs : idx s (names l) with
    | none =>
      rw [condB_t (by rfl)]
      refine k h _ (Ext.refl _) ho ?_
      have : refF (d + 1 + 1) l s = [] := by simp only [refF, hs]
      rw [this]; exact Own.nil _ _ _
    | some i =>
      obtain ⟨c, hc, hcn⟩ := idx_get hs
      have hlt := (List.getElem?_eq_some_iff.1 hc).1
      have hcc := (List.getElem?_eq_some_iff.1 hc).2
      have hr : refF (d + 1 + 1) l s = (if c.super = [] then [] else refF (d + 1) (l.take i) c.super) ++ c.fields := by
        conv => lhs; unfold refF
        simp only [hs, hc]
      have hlen := refF_len (d + 1 + 1) l s
      rw [hr, List.length_append] at hlen
      rw [hr] at k
      obtain ⟨id, g, j, f, p1, p2, p3, p4, p5, p6⟩ := C.at hc
      have hfi : fint (some i) = (i : Int) := rfl
      rw [hfi, condB_f (decide_eq_false (by omega)), p1, optB_some, fadrA_ptr, optB_some, Nat.zero_add, p4, optB_some, binA_sneq, optB_some]
      have fin : ∀ (h1 : AHeap) (u : AV) (pre : List Fld), Ext h h1 → h1.Ok → Own h.sz h1 3 u (pre.map encF) → pre.length + c.fields.length ≤ load l → (∀ h' u, Ext h h' → h'.Ok → Own h.sz h' 3 u ((pre ++ c.fields).map encF) → K u h' = true) → p34_20 (callN E (n + 1)) (n + 1) v (.int .i64 (i : Int)) u h1 K = true := by
        intro h1 u pre e1 o1 O hb kk
        obtain ⟨id1, g1, j1, f1, r1, r2, r3, r4, r5, r6⟩ := (C.ext e1).at hc
        unfold p34_20
        rw [r1, optB_some, fadrA_ptr, optB_some, Nat.zero_add, r5, optB_some]
        obtain ⟨v', h2, a1, a2, a3, a4, a5, a6, a7⟩ := O.app (bytes := 40) (by decide) e1.1 o1 ho e1 (Nat.le_refl _) r6.src (by simp only [List.length_map]; unfold most; omega) (by simp only [List.length_map]; unfold most; omega)
        rw [a1, optP_some]
        exact kk h2 v' a4 a3 (by rw [List.map_append]; exact a2)
      by_cases hsup : c.super = []
      · rw [if_pos hsup] at k hlen
        rw [condB_f (by simp [hsup])]
        exact fin h .nilSlc [] (Ext.refl _) ho (Own.nil _ _ _) hlen k
      · rw [if_neg hsup] at k hlen
        obtain ⟨v7, f1, f2⟩ := C.front (i := i) (by omega)
        rw [condB_t (by simp [hsup]), f1, optB_some, optB_some, fadrA_ptr, optB_some, Nat.zero_add, p4, optB_some]
        refine ih n (by simp; omega) (by omega) (by omega) ho f2 (by have := load_take l i; omega) ?_
        intro h1 u e1 o1 O
        exact fin h1 u _ e1 o1 O hlen k

/-- The answer goes upwards, as the program does. -/
theorem l15 {n : Nat} {h : AHeap} {v : AV} {l : List Cls} {of : Str} {K : Kont} (C : CV h v l) (A : Asc l) (hl : l.length < n) (hl2 : l.length < lim) :
    ∀ (m : Nat) (s : Str), (chain l s).length < m → K (.bool (isB l s of)) h = true → l15_14 (callN E (n + 1)) (n + 1) m v (.str of) (.int .i64 (fint (idx s (names l)))) h K = true := by
  intro m
  induction m with
  | zero => intro s hm; omega
  | succ m ih =>
    intro s hm k
    rw [l15_14_s]
    unfold b15_14
    rw [binA_geq, optB_some]
    cases hs : idx s (names l) with
    | none =>
      rw [condB_f (by rfl)]
      have : isB l s of = false := by unfold isB; rw [chain_none hs]; rfl
      rw [this] at k; exact k
    | some i =>
      obtain ⟨c, hc, hcn⟩ := idx_get hs
      have hfi : fint (some i) = (i : Int) := rfl
      obtain ⟨id, g, j, f, p1, p2, p3, p4, p5, p6⟩ := C.at hc
      rw [chain_some A hs hc] at hm
      have hb : isB l s of = (decide (c.name = of) || isB l c.super of) := by
        unfold isB; rw [chain_some A hs hc]; rfl
      rw [hfi, condB_t (decide_eq_true (by omega)), p1, optB_some, fadrA_ptr, optB_some, Nat.zero_add, p3, optB_some, binA_seql, optB_some]
      by_cases hn : c.name = of
      · rw [condB_t (by simp [hn])]
        rw [hb, decide_eq_true hn, Bool.true_or] at k; exact k
      · rw [condB_f (by simp [hn]), optB_some, fadrA_ptr, optB_some, Nat.zero_add, p4, optB_some]
        obtain ⟨es, V, A2, N⟩ := C.named
        refine c33 V N (by rw [names_length]; omega) (by rw [names_length]; omega) ?_
        refine ih c.super (by simp at hm; omega) ?_
        rw [hb, decide_eq_false hn, Bool.false_or] at k; exact k

theorem isB_none {l : List Cls} (A : Asc l) {s of : Str} (h : idx of (names l) = none) : isB l s of = false := by
  cases hb : isB l s of with
  | false => rfl
  | true =>
    exfalso
    have hs := isB_some hb
    unfold isB at hb
    rw [List.any_eq_true] at hb
    obtain ⟨d, hd, hdn⟩ := hb
    simp at hdn
    cases hx : idx s (names l) with
    | none => rw [hx] at hs; cases hs
    | some i =>
      have := idx_some_of_mem (List.mem_map_of_mem (f := Cls.name) (chain_mem A i hx d hd))
      rw [hdn] at this
      have h' : idx of (List.map Cls.name l) = none := h
      rw [h'] at this; cases this

theorem c15 {n : Nat} {h : AHeap} {v : AV} {l : List Cls} {s of : Str} {K : Kont} (C : CV h v l) (A : Asc l) (hl : l.length + 2 < n) (hl2 : l.length < lim) (k : K (.bool (isB l s of)) h = true) : callN E (n + 2) (.func 15) [v, .str s, .str of] h K = true := by
  apply d15
  unfold s15
  obtain ⟨es, V, A2, N⟩ := C.named
  refine c33 V N (by rw [names_length]; omega) (by rw [names_length]; omega) ?_
  rw [binA_lss, optB_some]
  cases hof : idx of (names l) with
  | none =>
    rw [condB_t (by rfl)]
    rw [isB_none A hof] at k; exact k
  | some i =>
    have hfi : fint (some i) = (i : Int) := rfl
    rw [hfi, condB_f (decide_eq_false (by omega))]
    unfold p15_10
    refine c33 V N (by rw [names_length]; omega) (by rw [names_length]; omega) ?_
    refine l15 C A (by omega) hl2 (n + 1) s ?_ k
    cases hx : idx s (names l) with
    | none => rw [chain_none hx]; simp
    | some j =>
      have h1 := chain_length A j hx
      have h2 := (idx_lt hx).1
      rw [names_length] at h2
      omega
end Go.Proofs.Ytjdpdjmmbajglaa
