/-
  The document's answer: blanks.
-/
import Derived.Test.YtajjclkdggoobaaN1
import Derived.Test.YtajjclkdggoobaaL3
namespace Go.Proofs.Ytajjclkdggoobaa
open Go.Ab
set_option linter.unusedSimpArgs false
set_option linter.unusedVariables false

theorem l23r {n i0 T : Nat} {h : AHeap} {s : Str} {B4 : AV → AV → AHeap → Bool} {K : Kont} (hL : s.length + 2 < lim)
    (kB : ∀ j, i0 ≤ j → j ≤ s.length → (pk s j = 10 ∨ j = s.length) → j + skip false (s.drop j) = T → B4 (.str s) (.int .i64 (j : Int)) h = true) :
    ∀ (m i : Nat), i0 ≤ i → i ≤ s.length → s.length - i < m → i + skip true (s.drop i) = T → l23_21 (callN E n) n B4 m (.str s) (.int .i64 (i : Int)) h K = true := by
  intro m
  induction m with
  | zero => intro i _ _ hm; omega
  | succ m ih =>
    intro i h0 hi hm hs
    unfold l23_21 b23_21
    rw [o_slen, o_lss]
    by_cases hlt : i < s.length
    · rw [show decide ((i : Int) < (s.length : Int)) = true from decide_eq_true (by omega)]
      have e10 : binA .neq (.int .u8 (pk s i : Int)) (AV.int .u8 10) = some (.bool (!decide (pk s i = 10))) := neb 10 _
      rw [g_tt, o_some, g_tt, o_some, g_tt, o_of (idxs_pk hlt), g_tt, o_of e10, k_t]
      have hd := drop_pk hlt
      have hs' : i + (if pk s i = 10 then skip false (s.drop (i + 1)) + 1 else skip true (s.drop (i + 1)) + 1) = T := by rw [hd] at hs; exact hs
      by_cases hc : pk s i = 10
      · rw [if_pos hc] at hs'
        rw [decide_eq_true hc]
        show (condB (.bool false) _ _) = true
        rw [condB_false]
        have hb : blankB (pk s i) = true := by rw [hc]; rfl
        have := skip_at hlt
        rw [if_pos hb] at this
        exact kB i h0 hi (.inl hc) (by omega)
      · rw [if_neg hc] at hs'
        rw [decide_eq_false hc]
        show (condB (.bool true) _ _) = true
        rw [condB_true, o_of (inc64 (show i < lim by omega))]
        exact ih (i + 1) (by omega) (by omega) (by omega) (by omega)
    · rw [show decide ((i : Int) < (s.length : Int)) = false from decide_eq_false (by omega)]
      rw [g_ft, g_ft, g_ft, g_ft, k_f, condB_false]
      refine kB i h0 hi (.inr (by omega)) ?_
      rw [List.drop_of_length_le (by omega)] at hs ⊢
      exact hs

theorem l23 {n : Nat} {h : AHeap} {s : Str} {K : Kont} (hL : s.length + 2 < lim) (hn : s.length < n) :
    ∀ (m i : Nat), i ≤ s.length → s.length - i < m → K (.int .i64 ((i + skip false (s.drop i) : Nat) : Int)) h = true → l23_4 (callN E n) n m (.str s) (.int .i64 (i : Int)) h K = true := by
  intro m
  induction m with
  | zero => intro i _ hm; omega
  | succ m ih =>
    intro i hi hm k
    unfold l23_4 b23_4
    rw [o_slen, o_lss]
    by_cases hlt : i < s.length
    · rw [condB_t (decide_eq_true (by omega))]
      unfold p23_11
      have e32 : binA .eql (.int .u8 (pk s i : Int)) (AV.int .u8 32) = some (.bool (decide (pk s i = 32))) := eqb 32 _
      have e9 : binA .eql (.int .u8 (pk s i : Int)) (AV.int .u8 9) = some (.bool (decide (pk s i = 9))) := eqb 9 _
      have e13 : binA .eql (.int .u8 (pk s i : Int)) (AV.int .u8 13) = some (.bool (decide (pk s i = 13))) := eqb 13 _
      have e10 : binA .eql (.int .u8 (pk s i : Int)) (AV.int .u8 10) = some (.bool (decide (pk s i = 10))) := eqb 10 _
      have e47 : binA .eql (.int .u8 (pk s i : Int)) (AV.int .u8 47) = some (.bool (decide (pk s i = 47))) := eqb 47 _
      have hsk := skip_at hlt
      have blank : blankB (pk s i) = true → (optB (binA .add (.int .i64 (i : Int)) (AV.int .i64 1)) fun v20 => l23_4 (callN E n) n m (.str s) v20 h K) = true := by
        intro hb
        rw [if_pos hb] at hsk
        rw [o_of (inc64 (show i < lim by omega))]
        exact ih (i + 1) (by omega) (by omega) (by rw [show i + 1 + skip false (s.drop (i + 1)) = i + skip false (s.drop i) by omega]; exact k)
      rw [o_of (idxs_pk hlt), o_of e32]
      cases c1 : decide (pk s i = 32) with
      | true =>
        rw [g_tf, g_tf, g_tf, g_tf, k_t, g_tf, g_tf, g_tf, g_tf, k_t, g_tf, g_tf, g_tf, g_tf, k_t, condB_true]
        exact blank (by simp [blankB, c1])
      | false =>
        rw [g_ff, o_some, g_ff, o_some, g_ff, o_of (idxs_pk hlt), g_ff, o_of e9, k_f]
        cases c2 : decide (pk s i = 9) with
        | true =>
          rw [g_tf, g_tf, g_tf, g_tf, k_t, g_tf, g_tf, g_tf, g_tf, k_t, condB_true]
          exact blank (by simp [blankB, c2])
        | false =>
          rw [g_ff, o_some, g_ff, o_some, g_ff, o_of (idxs_pk hlt), g_ff, o_of e13, k_f]
          cases c3 : decide (pk s i = 13) with
          | true =>
            rw [g_tf, g_tf, g_tf, g_tf, k_t, condB_true]
            exact blank (by simp [blankB, c3])
          | false =>
            rw [g_ff, o_some, g_ff, o_some, g_ff, o_of (idxs_pk hlt), g_ff, o_of e10, k_f]
            cases c4 : decide (pk s i = 10) with
            | true =>
              rw [condB_true]
              exact blank (by simp [blankB, c4])
            | false =>
              have hb : ¬ blankB (pk s i) = true := by simp [blankB, c1, c2, c3, c4]
              rw [if_neg hb] at hsk
              rw [condB_false, o_of (idxs_pk hlt), o_of e47]
              have n1 : binA .add (.int .i64 (i : Int)) (AV.int .i64 1) = some (.int .i64 ((i + 1 : Nat) : Int)) := lit64 1 (by omega)
              have stop : skip false (s.drop i) = 0 → K (.int .i64 (i : Int)) h = true := by
                intro e
                rw [e, Nat.add_zero] at k
                exact k
              by_cases h1 : pk s i = 47
              · rw [decide_eq_true h1, g_tt, o_some, g_tt, o_of n1, g_tt, o_some, g_tt, o_slen, g_tt, o_lss]
                by_cases h2 : i + 1 < s.length
                · rw [show decide (((i + 1 : Nat) : Int) < (s.length : Int)) = true from decide_eq_true (by omega), k_t, g_tt, o_some, g_tt, o_some, g_tt, o_of n1, g_tt, o_of (idxs_pk h2)]
                  have e47' : binA .eql (.int .u8 (pk s (i + 1) : Int)) (AV.int .u8 47) = some (.bool (decide (pk s (i + 1) = 47))) := eqb 47 _
                  rw [g_tt, o_of e47', k_t]
                  by_cases h3 : pk s (i + 1) = 47
                  · rw [if_pos ⟨h1, h3⟩] at hsk
                    rw [condB_t (decide_eq_true h3)]
                    refine l23r (T := i + skip false (s.drop i)) (i0 := i) hL (fun j hj1 hj2 hj3 hj4 => ?_) n i (Nat.le_refl _) hi (by omega) (by omega)
                    have hne : i ≠ j := by
                      rintro rfl
                      rcases hj3 with hj3 | hj3 <;> omega
                    exact ih j hj2 (by omega) (by rw [hj4]; exact k)
                  · rw [if_neg (fun e => h3 e.2)] at hsk
                    rw [condB_f (decide_eq_false h3)]
                    exact stop hsk
                · have := pk_ge (s := s) (i := i + 1) (by omega)
                  rw [if_neg (by omega)] at hsk
                  rw [show decide (((i + 1 : Nat) : Int) < (s.length : Int)) = false from decide_eq_false (by omega), k_t, g_ft, g_ft, g_ft, g_ft, g_ft, k_f, condB_false]
                  exact stop hsk
              · rw [if_neg (fun e => h1 e.1)] at hsk
                rw [decide_eq_false h1, g_ft, g_ft, g_ft, g_ft, g_ft, k_f, g_ft, g_ft, g_ft, g_ft, g_ft, k_f, condB_false]
                exact stop hsk
    · rw [condB_f (decide_eq_false (by omega))]
      rw [List.drop_of_length_le (by omega)] at k
      exact k

theorem c23 {n a : Nat} {s : Str} {h : AHeap} {K : Kont} (hL : s.length + 2 < lim) (hn : s.length < n) (ha : a ≤ s.length) (k : K (.int .i64 ((a + skip false (s.drop a) : Nat) : Int)) h = true) : callN E (n + 1) (.func 23) [.str s, .int .i64 (a : Int)] h K = true := by
  apply d23
  unfold s23
  exact l23 hL hn n a ha (by omega) k
end Go.Proofs.Ytajjclkdggoobaa
