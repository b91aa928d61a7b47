/-
  Fields, compared.
-/
import Derived.Test.YtjdpdjmmbajglaaKJ
namespace Go.Proofs.Ytjdpdjmmbajglaa
open Go.Ab
set_option linter.unusedSimpArgs false
set_option linter.unusedVariables false

instance : DecidableEq Fld := fun a b =>
  if h : a.name = b.name ∧ a.ty = b.ty ∧ a.cls = b.cls then isTrue (by cases a; cases b; simp at h; obtain ⟨h1, h2, h3⟩ := h; subst h1; subst h2; subst h3; rfl)
  else isFalse (by intro e; subst e; exact h ⟨rfl, rfl, rfl⟩)

theorem eq_fld (h : AHeap) (f g : Fld) : eqV h true (.agg [.str, .int, .str]) (.agg (encF f)) (.agg (encF g)) = some (.bool (!decide (f = g))) := by
  have e : eqA h (.agg [.str, .int, .str]) (.agg (encF f)) (.agg (encF g)) = leavesEq (encF f) (encF g) := rfl
  have e2 : leavesEq (encF f) (encF g) = some (decide (f = g)) := by
    simp only [encF, leavesEq, leafEq, leqb_dec, ieqb_dec, Nat.beq_refl, cond_true]
    by_cases h1 : f.name = g.name
    · by_cases h2 : f.ty = g.ty
      · by_cases h3 : f.cls = g.cls
        · have : f = g := by cases f; cases g; simp at h1 h2 h3; subst h1; subst h2; subst h3; rfl
          simp [this]
        · have : ¬ f = g := fun e => h3 (by rw [e])
          simp [h1, h2, h3, this]
      · have : ¬ f = g := fun e => h2 (by rw [e])
        simp [h1, h2, this]
    · have : ¬ f = g := fun e => h1 (by rw [e])
      simp [h1, this]
  unfold eqV
  rw [e, e2]
  rfl

theorem l17 {n : Nat} {h : AHeap} {a b : AV} {A B : List Fld} {K : Kont} (VA : View h 3 a (A.map encF)) (VB : View h 3 b (B.map encF)) (hlen : A.length = B.length) (hl : A.length < lim) (k : K (.bool (decide (A = B))) h = true) : ∀ (m i : Nat), i ≤ A.length → A.length - i < m → A.take i = B.take i →
    l17_14 (callN E n) n m a b (.int .i64 (i : Int)) h K = true := by
  intro m
  induction m with
  | zero => intro i _ hm; omega
  | succ m ih =>
    intro i hi hm he
    rw [l17_14_s]
    unfold b17_14
    rw [VA.len, optB_some, List.length_map, binA_lss, optB_some]
    by_cases hlt : i < A.length
    · obtain ⟨i1, g1, j1, p1, p2⟩ := VA.at (i := i) (e := encF A[i]) (by simp [hlt])
      obtain ⟨i2, g2, j2, q1, q2⟩ := VB.at (i := i) (e := encF (B[i]'(by omega))) (by simp [hlen ▸ hlt])
      have p3 : loadA h true 3 (.ptr i1 g1 j1 0) = some (.agg (encF A[i])) := by rw [p2]; rfl
      have q3 : loadA h true 3 (.ptr i2 g2 j2 0) = some (.agg (encF (B[i]'(by omega)))) := by rw [q2]; rfl
      rw [condB_t (by simpa using hlt), p1, optB_some, p3, optB_some, q1, optB_some, q3, optB_some, eq_fld, optB_some]
      by_cases hs : A[i] = B[i]'(by omega)
      · rw [condB_f (by simpa using hs), inc64 (by omega), optB_some]
        refine ih (i + 1) (by omega) (by omega) ?_
        rw [List.take_add_one, List.take_add_one, he, List.getElem?_eq_getElem hlt, List.getElem?_eq_getElem (hlen ▸ hlt), hs]
      · rw [condB_t (by simpa using hs)]
        have : ¬ A = B := by
          intro e; subst e; exact hs rfl
        rw [decide_eq_false this] at k; exact k
    · rw [condB_f (by simpa using hlt)]
      rw [List.take_of_length_le (by omega), List.take_of_length_le (by omega)] at he
      rw [decide_eq_true he] at k; exact k

theorem c17 {n : Nat} {h : AHeap} {a b : AV} {A B : List Fld} {K : Kont} (VA : View h 3 a (A.map encF)) (VB : View h 3 b (B.map encF)) (hl : A.length < lim) (hn : A.length < n) (k : K (.bool (decide (A = B))) h = true) : callN E (n + 1) (.func 17) [a, b] h K = true := by
  apply d17
  unfold s17
  rw [VA.len, optB_some, VB.len, optB_some, binA_neq, optB_some, List.length_map, List.length_map]
  by_cases hlen : A.length = B.length
  · rw [condB_f (by simp; omega)]
    unfold p17_10
    exact l17 VA VB hlen hl k n 0 (by omega) (by omega) rfl
  · rw [condB_t (by simp; omega)]
    have : ¬ A = B := by intro e; subst e; exact hlen rfl
    rw [decide_eq_false this] at k; exact k
end Go.Proofs.Ytjdpdjmmbajglaa
