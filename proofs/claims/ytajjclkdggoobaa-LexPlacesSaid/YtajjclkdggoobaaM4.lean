/-
  LexPlaces, walked.
-/
import Derived.Test.YtajjclkdggoobaaM3
namespace Go.Proofs.Ytajjclkdggoobaa
open Go.Ab
set_option linter.unusedSimpArgs false
set_option linter.unusedVariables false

theorem skip_mono {s : Str} {i : Nat} (h : i < s.length) (hi : skip false (s.drop i) = s.length - i) : (blankB (pk s i) = true ∧ skip false (s.drop (i + 1)) = s.length - (i + 1)) ∨ (blankB (pk s i) = false ∧ pk s i = 47 ∧ pk s (i + 1) = 47 ∧ i + 1 < s.length ∧ skip true (s.drop i) = s.length - i) := by
  rw [skip_at h] at hi
  by_cases hb : blankB (pk s i) = true
  · rw [if_pos hb] at hi
    exact .inl ⟨hb, by omega⟩
  · rw [if_neg hb] at hi
    by_cases hc : pk s i = 47 ∧ pk s (i + 1) = 47
    · rw [if_pos hc] at hi
      refine .inr ⟨by simpa using hb, hc.1, hc.2, ?_, hi⟩
      rcases Nat.lt_or_ge (i + 1) s.length with hh | hh
      · exact hh
      · have := pk_ge hh
        omega
    · rw [if_neg hc] at hi; omega

theorem l15r' {n i0 : Nat} {h : AHeap} {s : Str} {B6 : AV → AV → AHeap → Bool} {K : Kont} (hL : s.length + 2 < lim)
    (kB : ∀ j, i0 ≤ j → j ≤ s.length → skip false (s.drop (j + 1)) = s.length - (j + 1) → p15_39 (callN E n) n B6 (.str s) (.int .i64 (j : Int)) h K = true) :
    ∀ (m i : Nat), i0 ≤ i → i ≤ s.length → s.length - i < m → skip true (s.drop i) = s.length - i → l15_21 (callN E n) n B6 m (.str s) (.int .i64 (i : Int)) h K = true := by
  intro m
  induction m with
  | zero => intro i _ _ hm; omega
  | succ m ih =>
    intro i h0 hi hm hs
    unfold l15_21 b15_21
    rw [o_slen, o_lss]
    by_cases hlt : i < s.length
    · rw [show decide ((i : Int) < (s.length : Int)) = true from decide_eq_true (by omega)]
      have e10 : binA .neq (.int .u8 (pk s i : Int)) (AV.int .u8 10) = some (.bool (!decide (pk s i = 10))) := neb 10 _
      rw [g_tt, o_some, g_tt, o_some, g_tt, o_of (idxs_pk hlt), g_tt, o_of e10, k_t]
      have hd := drop_pk hlt
      rw [hd] at hs
      have hs' : (if pk s i = 10 then skip false (s.drop (i + 1)) + 1 else skip true (s.drop (i + 1)) + 1) = s.length - i := hs
      by_cases hc : pk s i = 10
      · rw [if_pos hc] at hs'
        rw [decide_eq_true hc]
        show (condB (.bool false) _ _) = true
        rw [condB_false]
        exact kB i h0 hi (by omega)
      · rw [if_neg hc] at hs'
        rw [decide_eq_false hc]
        show (condB (.bool true) _ _) = true
        rw [condB_true, o_of (inc64 (show i < lim by omega))]
        exact ih (i + 1) (by omega) (by omega) (by omega) (by omega)
    · rw [show decide ((i : Int) < (s.length : Int)) = false from decide_eq_false (by omega)]
      rw [g_ft, g_ft, g_ft, g_ft, k_f, condB_false]
      exact kB i h0 hi (by rw [List.drop_of_length_le (by omega)]; simp only [skip]; omega)

theorem l15 {n : Nat} {h : AHeap} {s : Str} {K : Kont} (hL : s.length + 2 < lim) (hn : s.length < n) (k : K (.bool true) h = true) :
    ∀ (m i : Nat), i ≤ s.length + 1 → s.length + 1 - i < m → skip false (s.drop i) = s.length - i → l15_6 (callN E n) n m (.str s) (.int .i64 (i : Int)) h K = true := by
  intro m
  induction m with
  | zero => intro i _ hm; omega
  | succ m ih =>
    intro i hi hm hs
    unfold l15_6 b15_6
    rw [o_slen, o_lss]
    by_cases hlt : i < s.length
    · rw [condB_t (decide_eq_true (by omega))]
      unfold p15_13
      have e47 : binA .eql (.int .u8 (pk s i : Int)) (AV.int .u8 47) = some (.bool (decide (pk s i = 47))) := eqb 47 _
      have nx : ∀ j, i ≤ j → j ≤ s.length → skip false (s.drop (j + 1)) = s.length - (j + 1) → p15_39 (callN E n) n (fun x0 x3 h => l15_6 (callN E n) n m x0 x3 h K) (.str s) (.int .i64 (j : Int)) h K = true := by
        intro j hij hj hs'
        unfold p15_39
        rw [o_of (inc64 (show j < lim by omega))]
        exact ih (j + 1) (by omega) (by omega) hs'
      rw [o_of (idxs_pk hlt), o_of e47]
      rcases skip_mono hlt hs with ⟨hb, hs'⟩ | ⟨hb, h1, h2, h3, h4⟩
      · have hc : pk s i ≠ 47 := by intro e; rw [e] at hb; cases hb
        rw [decide_eq_false hc, g_ft, g_ft, g_ft, g_ft, g_ft, k_f, g_ft, g_ft, g_ft, g_ft, g_ft, k_f, condB_false]
        unfold p15_32
        have e32 : binA .neq (.int .u8 (pk s i : Int)) (AV.int .u8 32) = some (.bool (!decide (pk s i = 32))) := neb 32 _
        have e9 : binA .neq (.int .u8 (pk s i : Int)) (AV.int .u8 9) = some (.bool (!decide (pk s i = 9))) := neb 9 _
        have e13 : binA .neq (.int .u8 (pk s i : Int)) (AV.int .u8 13) = some (.bool (!decide (pk s i = 13))) := neb 13 _
        have e10 : binA .neq (.int .u8 (pk s i : Int)) (AV.int .u8 10) = some (.bool (!decide (pk s i = 10))) := neb 10 _
        rw [o_of (idxs_pk hlt), o_of e32]
        have fin := nx i (Nat.le_refl _) (by omega) hs'
        cases c1 : decide (pk s i = 32) with
        | true =>
          rw [show (!true) = false from rfl, g_ft, g_ft, g_ft, g_ft, k_f, g_ft, g_ft, g_ft, g_ft, k_f, g_ft, g_ft, g_ft, g_ft, k_f, condB_false]
          exact fin
        | false =>
          rw [show (!false) = true from rfl, g_tt, o_some, g_tt, o_some, g_tt, o_of (idxs_pk hlt), g_tt, o_of e9, k_t]
          cases c2 : decide (pk s i = 9) with
          | true =>
            rw [show (!true) = false from rfl, g_ft, g_ft, g_ft, g_ft, k_f, g_ft, g_ft, g_ft, g_ft, k_f, condB_false]
            exact fin
          | false =>
            rw [show (!false) = true from rfl, g_tt, o_some, g_tt, o_some, g_tt, o_of (idxs_pk hlt), g_tt, o_of e13, k_t]
            cases c3 : decide (pk s i = 13) with
            | true =>
              rw [show (!true) = false from rfl, g_ft, g_ft, g_ft, g_ft, k_f, condB_false]
              exact fin
            | false =>
              rw [show (!false) = true from rfl, g_tt, o_some, g_tt, o_some, g_tt, o_of (idxs_pk hlt), g_tt, o_of e10, k_t]
              have c4 : decide (pk s i = 10) = true := by
                simp only [blankB, c1, c2, c3, Bool.false_or] at hb
                exact hb
              rw [c4]
              show (condB (.bool false) _ _) = true
              rw [condB_false]
              exact fin
      · have n1 : binA .add (.int .i64 (i : Int)) (AV.int .i64 1) = some (.int .i64 ((i + 1 : Nat) : Int)) := lit64 1 (by omega)
        have e47' : binA .eql (.int .u8 (pk s (i + 1) : Int)) (AV.int .u8 47) = some (.bool true) := by rw [h2]; rfl
        rw [decide_eq_true h1, g_tt, o_some, g_tt, o_of n1, g_tt, o_some, g_tt, o_slen, g_tt, o_lss, show decide (((i + 1 : Nat) : Int) < (s.length : Int)) = true from decide_eq_true (by omega), k_t,
          g_tt, o_some, g_tt, o_some, g_tt, o_of n1, g_tt, o_of (idxs_pk h3), g_tt, o_of e47', k_t, condB_true]
        exact l15r' hL (fun j hij hj hs' => nx j hij hj hs') n i (Nat.le_refl _) (by omega) (by omega) h4
    · rw [condB_f (decide_eq_false (by omega))]
      exact k
end Go.Proofs.Ytajjclkdggoobaa
