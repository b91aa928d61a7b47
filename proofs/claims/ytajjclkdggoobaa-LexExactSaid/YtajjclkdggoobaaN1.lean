/-
  The document's answer: a text among texts, keywords, words, blanks.
-/
import Derived.Test.YtajjclkdggoobaaL8
namespace Go.Proofs.Ytajjclkdggoobaa
open Go.Ab
set_option linter.unusedSimpArgs false
set_option linter.unusedVariables false

theorem l18 {n : Nat} {h : AHeap} {v : AV} {s : Str} {l : List Str} {K : Kont} (W : View h 1 v (l.map fun t => [.str t])) (hl : l.length < 1000)
    (kS : ∀ i : Nat, keyB s l = true → K (.int .i64 (i : Int)) h = true) (kN : keyB s l = false → K (.int .i64 (-1)) h = true) :
    ∀ (m i : Nat), i ≤ l.length → l.length - i < m → keyB s (l.take i) = false → l18_6 (callN E n) n m v (.str s) (.int .i64 (i : Int)) h K = true := by
  have hlim : 3000 < lim := by decide
  intro m
  induction m with
  | zero => intro i _ hm; omega
  | succ m ih =>
    intro i hi hm hk
    unfold l18_6 b18_6
    rw [o_of W.len, o_lss, List.length_map]
    by_cases hlt : i < l.length
    · rw [condB_t (decide_eq_true (by omega))]
      have ht : l[i]? = some (l[i]'hlt) := List.getElem?_eq_getElem hlt
      obtain ⟨id, g, j, p1, p2⟩ := W.at (i := i) (e := [.str (l[i]'hlt)]) (by rw [List.getElem?_map, ht]; rfl)
      have hmem := List.getElem_mem hlt
      have htake : l.take (i + 1) = l.take i ++ [l[i]'hlt] := by rw [List.take_add_one, ht]; rfl
      generalize l[i]'hlt = t at *
      have p3 : loadA h false 1 (.ptr id g j 0) = some (.str t) := by rw [p2]; rfl
      rw [o_of (p1 _), o_of p3, o_of (binA_seql t s)]
      by_cases e : t = s
      · rw [condB_t (decide_eq_true e)]
        exact kS i (by simp only [keyB, List.any_eq_true]; exact ⟨t, hmem, decide_eq_true e.symm⟩)
      · rw [condB_f (decide_eq_false e), o_of (inc64 (show i < lim by omega))]
        refine ih (i + 1) (by omega) (by omega) ?_
        rw [htake]
        simp only [keyB, List.any_append, List.any_cons, List.any_nil, Bool.or_false] at hk ⊢
        rw [hk, decide_eq_false (fun q => e q.symm)]; rfl
    · rw [condB_f (decide_eq_false (by omega))]
      rw [List.take_of_length_le (by omega)] at hk
      exact kN hk

theorem c18 {n : Nat} {h : AHeap} {v : AV} {s : Str} {l : List Str} {K : Kont} (W : View h 1 v (l.map fun t => [.str t])) (hl : l.length < 1000) (hn : 1000 < n)
    (k : ∀ z : Int, (decide (0 ≤ z) = keyB s l) → K (.int .i64 z) h = true) : callN E (n + 1) (.func 18) [v, .str s] h K = true := by
  apply d18
  unfold s18
  refine l18 W hl (fun i hk => k i (by rw [hk]; exact decide_eq_true (by omega))) (fun hk => k (-1) (by rw [hk]; exact decide_eq_false (by omega))) n 0 (by omega) (by omega) rfl

theorem c11 {n : Nat} {h : AHeap} {s : Str} {K : Kont} (ho : h.Ok) (hn : 1000 < n) (k : ∀ h', Ext h h' → h'.Ok → K (.bool (keyB s keys)) h' = true) : callN E (n + 2) (.func 11) [.str s] h K = true := by
  apply d11
  unfold s11
  obtain ⟨v, g1, W⟩ := bslice_view (h := h) (n := 38) (sz := 1) (z := [AV.str []]) (ps := [(0, (AV.str [99, 108, 97, 115, 115])), (1, (AV.str [101, 120, 116, 101, 110, 100, 115])), (2, (AV.str [114, 117, 108, 101])), (3, (AV.str [113, 117, 101, 114, 121])), (4, (AV.str [119, 104, 101, 110])), (5, (AV.str [116, 104, 101, 110])), (6, (AV.str [101, 110, 100])), (7, (AV.str [115, 97, 108, 105, 101, 110, 99, 101])), (8, (AV.str [103, 114, 111, 117, 112])), (9, (AV.str [102, 108, 111, 119])), (10, (AV.str [110, 111, 108, 111, 111, 112])), (11, (AV.str [108, 111, 99, 107])), (12, (AV.str [110, 111, 116])), (13, (AV.str [101, 120, 105, 115, 116, 115])), (14, (AV.str [102, 111, 114, 97, 108, 108])), (15, (AV.str [111, 114])), (16, (AV.str [102, 114, 111, 109])), (17, (AV.str [101, 118, 97, 108])), (18, (AV.str [97, 99, 99])), (19, (AV.str [111, 118, 101, 114])), (20, (AV.str [105, 110, 115, 101, 114, 116])), (21, (AV.str [108, 111, 103, 105, 99, 97, 108])), (22, (AV.str [117, 112, 100, 97, 116, 101])), (23, (AV.str [100, 101, 108, 101, 116, 101])), (24, (AV.str [102, 111, 99, 117, 115])), (25, (AV.str [112, 114, 105, 110, 116])), (26, (AV.str [104, 97, 108, 116])), (27, (AV.str [116, 114, 117, 101])), (28, (AV.str [102, 97, 108, 115, 101])), (29, (AV.str [110, 117, 108, 108])), (30, (AV.str [115, 105, 122, 101])), (31, (AV.str [104, 97, 115])), (32, (AV.str [105, 110, 116])), (33, (AV.str [98, 111, 111, 108])), (34, (AV.str [116, 101, 120, 116])), (35, (AV.str [108, 105, 115, 116])), (36, (AV.str [97, 110, 121])), (37, (AV.str [114, 101, 102]))]) (es := keys.map fun t => [.str t]) rfl (by decide) (by decide) rfl rfl rfl
  rw [p_of g1]
  have e := ext_newRow ho (keys.map fun t => [AV.str t]) 1
  have o := ok_newRow ho (keys.map fun t => [AV.str t]) 1
  refine c18 W (by decide) hn fun z hz => ?_
  rw [o_geq, hz]
  exact k _ e o

/-! ### Words -/
theorem c31 {n a : Nat} {s : Str} {h : AHeap} {K : Kont} (hL : s.length < lim) (hn : s.length + 3 < n) (ha : a ≤ s.length) (k : K (.int .i64 ((a + wlen (s.drop a) : Nat) : Int)) h = true) : callN E (n + 2) (.func 31) [.str s, .int .i64 (a : Int)] h K = true := by
  apply d31
  unfold s31
  rw [o_slen, o_geq]
  rw [wlen_drop] at k
  have loop : ∀ (m i : Nat), i ≤ s.length → s.length - i < m → K (.int .i64 ((i + ((s.drop i).takeWhile wordB).length : Nat) : Int)) h = true → l31_12 (callN E (n + 1)) (n + 1) m (.str s) (.int .i64 (i : Int)) h K = true := by
    intro m
    induction m with
    | zero => intro i _ hm; omega
    | succ m ih =>
      intro i hi hm k
      unfold l31_12 b31_12
      rw [o_slen, o_lss]
      by_cases hlt : i < s.length
      · rw [show decide ((i : Int) < (s.length : Int)) = true from decide_eq_true (by omega), g_tt, o_some, g_tt, o_some, g_tt, o_of (idxs_pk hlt), gc_tt]
        refine c30 ?_
        rw [drop_pk hlt, List.takeWhile_cons] at k
        have go : ∀ w : Bool, w = wordB (pk s i) → (condB (.bool w) (optB (binA .add (.int .i64 (i : Int)) (AV.int .i64 1)) fun v28 => l31_12 (callN E (n + 1)) (n + 1) m (.str s) v28 h K) (K (.int .i64 (i : Int)) h)) = true := by
          intro w hw
          rw [← hw] at k
          cases w with
          | true =>
            rw [condB_true, o_of (inc64 (show i < lim by omega))]
            refine ih (i + 1) (by omega) (by omega) ?_
            rw [if_pos rfl, List.length_cons] at k
            rw [show i + 1 + ((s.drop (i + 1)).takeWhile wordB).length = i + (((s.drop (i + 1)).takeWhile wordB).length + 1) by omega]
            exact k
          | false =>
            rw [condB_false]
            simpa using k
        show (optB (grdO _ (some (.bool (letterB (pk s i))))) _) = true
        rw [g_tt, o_some]
        cases hl : letterB (pk s i) with
        | true =>
          rw [g_tf, g_tf, g_tf, gc_tf, g_tt, k_t, g_tt, o_some, g_tf, g_tf, g_tf, g_tf, g_tt, k_t, k_t]
          exact go true (by simp [wordB, hl])
        | false =>
          rw [g_ff, o_some, g_ff, o_some, g_ff, o_of (idxs_pk hlt), gc_ff]
          refine c32 ?_
          show (optB (grdO _ (pickV _ _ (.bool (digitB (pk s i))))) _) = true
          rw [g_tt, k_f, g_tt, o_some]
          have e95 : binA .eql (.int .u8 (pk s i : Int)) (AV.int .u8 95) = some (.bool (decide (pk s i = 95))) := eqb 95 _
          cases hd : digitB (pk s i) with
          | true =>
            rw [g_tf, g_tf, g_tf, g_tf, g_tt, k_t, k_t]
            exact go true (by simp [wordB, hd])
          | false =>
            rw [g_ff, o_some, g_ff, o_some, g_ff, o_of (idxs_pk hlt), g_ff, o_of e95, g_tt, k_f, k_t]
            exact go _ (by simp [wordB, hl, hd])
      · rw [show decide ((i : Int) < (s.length : Int)) = false from decide_eq_false (by omega)]
        rw [List.drop_of_length_le (by omega)] at k
        rw [g_ft, g_ft, g_ft, gc_ft, g_ft]
        rw [show wantV (.tup []) false = false from rfl]
        simp only [grdO_false, grdC_false, optB_some, wantV_tup, wantV_true, pickV_false, condB_false]
        simpa using k
  by_cases hlt : a < s.length
  · rw [show decide ((s.length : Int) ≤ (a : Int)) = false from decide_eq_false (by omega), g_ff, o_some, g_ff, o_some, g_ff, o_of (idxs_pk hlt), gc_ff]
    refine c30 ?_
    show (optB (grdO _ (notA (.bool (letterB (pk s a))))) _) = true
    rw [g_ff, o_not, k_f]
    cases hl : letterB (pk s a) with
    | true =>
      rw [hl, if_pos rfl] at k
      show (condB (.bool false) _ _) = true
      rw [condB_false]
      unfold p31_10
      exact loop (n + 1) a ha (by omega) k
    | false =>
      rw [hl] at k
      show (condB (.bool true) _ _) = true
      rw [condB_true]
      simpa using k
  · rw [show decide ((s.length : Int) ≤ (a : Int)) = true from decide_eq_true (by omega), g_tf, g_tf, g_tf, gc_tf, g_tf, k_t, condB_true]
    rw [pk_ge (by omega)] at k
    exact k
end Go.Proofs.Ytajjclkdggoobaa
