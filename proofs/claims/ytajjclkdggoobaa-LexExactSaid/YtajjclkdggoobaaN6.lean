/-
  The document's answer: a lexeme, walked.
-/
import Derived.Test.YtajjclkdggoobaaN5
namespace Go.Proofs.Ytajjclkdggoobaa
open Go.Ab
set_option linter.unusedSimpArgs false
set_option linter.unusedVariables false

theorem bidx_any (c : Nat) : ∀ l : Str, (bidx c l).isSome = l.any fun b => decide (c = b)
  | [] => rfl
  | b :: l => by
    simp only [bidx, List.any_cons]
    by_cases e : b = c
    · rw [if_pos e, decide_eq_true e.symm]; rfl
    · rw [if_neg e, decide_eq_false (fun q => e q.symm), Bool.false_or, ← bidx_any c l]
      cases bidx c l <;> rfl
theorem keyB_one (c : Nat) : keyB [c] (singles.map fun b => [b]) = (bidx c singles).isSome := by
  rw [bidx_any]
  simp only [keyB, List.any_map]
  congr 1
  funext b
  simp only [Function.comp]
  simp
theorem keyB_two (x y : Nat) (r : Str) : (twos.any fun t => t.isPrefixOf (x :: y :: r)) = keyB [x, y] twos := by
  simp only [twos, keyB, List.any_cons, List.any_nil, List.isPrefixOf, Bool.and_true, Bool.or_false]
  have e : ∀ a b : Nat, ((a == x) && (b == y)) = decide ([x, y] = [a, b]) := by
    intro a b
    rw [Bool.eq_iff_iff]
    simp only [Bool.and_eq_true, beq_iff_eq, decide_eq_true_eq, List.cons.injEq, and_true]
    constructor
    · rintro ⟨rfl, rfl⟩; exact ⟨rfl, rfl⟩
    · rintro ⟨rfl, rfl⟩; exact ⟨rfl, rfl⟩
  simp only [e]
theorem twos_one (x : Nat) : (twos.any fun t => t.isPrefixOf [x]) = false := by
  simp [twos, List.isPrefixOf]

theorem markL_at {s : Str} {a : Nat} (h : a < s.length) : markL (s.drop a) = if (decide (a + 1 < s.length) && keyB [pk s a, pk s (a + 1)] twos) = true then 2 else if keyB [pk s a] (singles.map fun b => [b]) = true then 1 else 0 := by
  rw [keyB_one]
  unfold markL
  rw [drop_pk h]
  by_cases h1 : a + 1 < s.length
  · rw [drop_pk h1, keyB_two, decide_eq_true h1, Bool.true_and]
  · rw [List.drop_of_length_le (by omega), twos_one, decide_eq_false h1, Bool.false_and]
theorem take_one {s : Str} {a : Nat} (h : a < s.length) : (s.take (a + 1)).drop a = [pk s a] := by
  rw [← List.take_drop] at *
  rw [drop_pk h]; rfl
theorem take_two {s : Str} {a : Nat} (h : a + 1 < s.length) : (s.take (a + 2)).drop a = [pk s a, pk s (a + 1)] := by
  have h0 : a < s.length := by omega
  have := List.take_drop (i := 2) (j := a) (l := s)
  rw [← this, drop_pk h0, drop_pk h]; rfl
theorem slice_at {s : Str} {j k : IntKind} {a m : Nat} (hb : a + m ≤ s.length) : sliceSV (.str s) (some (.int j (a : Int))) (some (.int k ((a + m : Nat) : Int))) = some (.str ((s.drop a).take m)) := by
  rw [slice_both (by omega) hb, List.take_drop]

/-- What the document says of the lexeme that begins here. -/
structure One (n : Nat) (s : Str) (a : Nat) (h0 : AHeap) (K : Kont) : Prop where
  kS : ∀ kd t m h', nextS (s.drop a) = some (kd, t, m) → Ext h0 h' → h'.Ok → K (.agg (encL ⟨kd, t, a, a + m⟩)) h' = true
  kN : nextS (s.drop a) = none → ∀ (kd : Nat) t (e : Int) h', e ≤ a → Ext h0 h' → h'.Ok → K (.agg [.int .i64 (kd : Int), .str t, .int .i64 (a : Int), .int .i64 e]) h' = true

theorem c24 {n a : Nat} {s : Str} {h : AHeap} {K : Kont} (ho : h.Ok) (hL : 2 * s.length + 4 < most) (hb : ∀ b ∈ s, b < 256) (ha : a < s.length) (hn : s.length + 1010 < n)
    (k : One n s a h K) : callN E (n + 3) (.func 24) [.str s, .int .i64 (a : Int)] h K = true := by
  have hlim : most < lim := by decide
  have hN := next_at ha
  apply d24
  unfold s24
  have A2 : allocV h [AV.int .i64 0, .str [], .int .i64 0, .int .i64 0] = some (.ptr h.sz 0 0 0, Ab.newRow h [[AV.int .i64 0, .str [], .int .i64 0, .int .i64 0]] 4) := alloc_eq (by decide) rfl
  rw [p_of A2]
  have E2 := ext_newRow ho [[AV.int .i64 0, .str [], .int .i64 0, .int .i64 0]] 4
  have o2 := ok_newRow ho [[AV.int .i64 0, .str [], .int .i64 0, .int .i64 0]] 4
  have V2 := var_new h [AV.int .i64 0, .str [], .int .i64 0, .int .i64 0]
  simp only [List.length_cons, List.length_nil, Nat.zero_add] at V2
  have hz2 : h.sz < (Ab.newRow h [[AV.int .i64 0, .str [], .int .i64 0, .int .i64 0]] 4).sz := V2.lt o2
  generalize (Ab.newRow h [[AV.int .i64 0, .str [], .int .i64 0, .int .i64 0]] 4) = h2 at *
  -- how it ends
  have fin : ∀ (h' : AHeap) (kd m : Nat) (t : Str), Ext h2 h' → h'.Ok → nextS (s.drop a) = some (kd, t, m) →
      (optP (unit (storeA h' 4 (.ptr h.sz 0 0 0) (.agg [.int .i64 (kd : Int), .str t, .int .i64 (a : Int), .int .i64 ((a + m : Nat) : Int)]))) fun _ g => optR (resV g [(.ptr h.sz 0 0 0, some (true, 4))]) g K) = true := by
    intro h' kd m t e' o' hr
    refine Eq.trans (fin24 (a := .int .i64 (kd : Int)) (b := .str t) (c := .int .i64 (a : Int)) (d := .int .i64 ((a + m : Nat) : Int)) (K := K) (V2.ext e') rfl rfl rfl rfl rfl) ?_
    exact k.kS kd t m _ hr (ext_put (E2.trans e') ho (Nat.le_refl _) _) (o'.put (Nat.lt_of_lt_of_le hz2 e'.1) _)
  have finN : ∀ (h' : AHeap) (kd : Nat) (t : Str) (e : Int), e ≤ a → Ext h2 h' → h'.Ok → nextS (s.drop a) = none →
      (optP (unit (storeA h' 4 (.ptr h.sz 0 0 0) (.agg [.int .i64 (kd : Int), .str t, .int .i64 (a : Int), .int .i64 e]))) fun _ g => optR (resV g [(.ptr h.sz 0 0 0, some (true, 4))]) g K) = true := by
    intro h' kd t e he e' o' hr
    refine Eq.trans (fin24 (a := .int .i64 (kd : Int)) (b := .str t) (c := .int .i64 (a : Int)) (d := .int .i64 e) (K := K) (V2.ext e') rfl rfl rfl rfl rfl) ?_
    exact k.kN hr kd t e _ he (ext_put (E2.trans e') ho (Nat.le_refl _) _) (o'.put (Nat.lt_of_lt_of_le hz2 e'.1) _)
  have n1 : binA .add (.int .i64 (a : Int)) (AV.int .i64 1) = some (.int .i64 ((a + 1 : Nat) : Int)) := lit64 1 (by omega)
  have n2 : binA .add (.int .i64 (a : Int)) (AV.int .i64 2) = some (.int .i64 ((a + 2 : Nat) : Int)) := lit64 2 (by omega)
  have hw0 := wlen_le (s.drop a)
  have hw1 := wlen_le (s.drop (a + 1))
  have hd0 := take_le (p := digitB) (s.drop a)
  have hm0 := mark_le (s.drop a)
  simp only [List.length_drop] at hw0 hw1 hd0 hm0
  rw [o_of (idxs_pk ha)]
  refine c30 ?_
  -- the last parts
  have p41 : ¬ letterB (pk s a) = true → ¬ digitB (pk s a) = true → (pk s a = 36 → ¬ 0 < wlen (s.drop (a + 1))) → p24_41 (callN E (n + 2)) (n + 2) (.str s) (.int .i64 (a : Int)) (.ptr h.sz 0 0 0) (.int .u8 (pk s a : Int)) h2 K = true := by
    intro c1 c2 c3
    unfold p24_41
    rw [if_neg c1] at hN
    have e34 : binA .eql (.int .u8 (pk s a : Int)) (AV.int .u8 34) = some (.bool (decide (pk s a = 34))) := eqb 34 _
    rw [o_of e34]
    by_cases h1 : pk s a = 34
    · rw [condB_t (decide_eq_true h1)]
      rw [if_neg (by omega), if_neg c2, if_pos h1] at hN
      refine c33 (n := n + 1) o2 hL hb (by omega) (by omega) fun h' e' o' => ?_
      cases hq : quo (s.drop (a + 1)) with
      | none =>
        rw [hq] at hN
        show (optB _ _) = true
        rw [show refQ [] (a + 1) none = .tup [.str [], .int .i64 (-1)] from rfl, o_ext0, o_ext1]
        rw [o_of (show buildV [AV.int .i64 0, .str [], .int .i64 0, .int .i64 0] [(0, 1, AV.int .i64 3), (1, 1, AV.str []), (2, 1, .int .i64 (a : Int)), (3, 1, .int .i64 (-1))] = some (.agg [.int .i64 ((3 : Nat) : Int), .str [], .int .i64 (a : Int), .int .i64 (-1)]) from rfl)]
        exact finN h' 3 [] (-1) (by omega) e' o' hN
      | some r =>
        rw [hq] at hN
        show (optB _ _) = true
        rw [show refQ [] (a + 1) (some r) = .tup [.str r.1, .int .i64 ((a + 1 + r.2 : Nat) : Int)] from rfl, o_ext0, o_ext1]
        rw [show a + 1 + r.2 = a + (r.2 + 1) by omega]
        rw [o_of (show buildV [AV.int .i64 0, .str [], .int .i64 0, .int .i64 0] [(0, 1, AV.int .i64 3), (1, 1, AV.str r.1), (2, 1, .int .i64 (a : Int)), (3, 1, .int .i64 ((a + (r.2 + 1) : Nat) : Int))] = some (.agg [.int .i64 ((3 : Nat) : Int), .str r.1, .int .i64 (a : Int), .int .i64 ((a + (r.2 + 1) : Nat) : Int)]) from rfl)]
        exact fin h' 3 _ _ e' o' hN
    · rw [condB_f (decide_eq_false h1)]
      have hmk : nextS (s.drop a) = if 0 < markL (s.drop a) then some (4, (s.drop a).take (markL (s.drop a)), markL (s.drop a)) else none := by
        by_cases hd : pk s a = 36
        · rw [if_pos hd, if_neg (c3 hd)] at hN
          rw [hN]
          have : markL (s.drop a) = 0 := by
            rw [markL_at ha, hd]
            have q1 : ∀ y, keyB [36, y] twos = false := by intro y; simp [keyB, twos]
            rw [q1, Bool.and_false]; rfl
          rw [if_neg (by omega)]
        · rw [if_neg hd, if_neg c2, if_neg h1] at hN
          exact hN
      -- one byte
      have single : (decide (a + 1 < s.length) && keyB [pk s a, pk s (a + 1)] twos) = false → ∀ h3, Ext h2 h3 → h3.Ok →
        (optP (bsliceV h3 20 1 [AV.str []] [(0, (AV.str [40])), (1, (AV.str [41])), (2, (AV.str [91])), (3, (AV.str [93])), (4, (AV.str [123])), (5, (AV.str [125])), (6, (AV.str [44])), (7, (AV.str [46])), (8, (AV.str [58])), (9, (AV.str [59])), (10, (AV.str [63])), (11, (AV.str [60])), (12, (AV.str [62])), (13, (AV.str [61])), (14, (AV.str [43])), (15, (AV.str [45])), (16, (AV.str [42])), (17, (AV.str [47])), (18, (AV.str [37])), (19, (AV.str [33]))]) fun v61 h_1 => optB (binA .add (.int .i64 (a : Int)) (AV.int .i64 1)) fun v62 => optB (sliceSV (.str s) (some (.int .i64 (a : Int))) (some v62)) fun v63 => callN E (n + 2) (.func 18) [v61, v63] h_1 fun v64 h_2 => optB (binA .geq v64 (AV.int .i64 0)) fun v65 => condB v65 (optB (binA .add (.int .i64 (a : Int)) (AV.int .i64 1)) fun v66 => optB (sliceSV (.str s) (some (.int .i64 (a : Int))) (some v66)) fun v67 => optB (binA .add (.int .i64 (a : Int)) (AV.int .i64 1)) fun v68 => optB (buildV [AV.int .i64 0, .str [], .int .i64 0, .int .i64 0] [(0, 1, AV.int .i64 4), (1, 1, v67), (2, 1, .int .i64 (a : Int)), (3, 1, v68)]) fun v69 => optP (unit (storeA h_2 4 (.ptr h.sz 0 0 0) v69)) fun _ h_3 => optR (resV h_3 [(.ptr h.sz 0 0 0, some (true, 4))]) h_3 K) (optB (buildV [AV.int .i64 0, .str [], .int .i64 0, .int .i64 0] [(2, 1, .int .i64 (a : Int)), (3, 1, .int .i64 (a : Int))]) fun v71 => optP (unit (storeA h_2 4 (.ptr h.sz 0 0 0) v71)) fun _ h_3 => optR (resV h_3 [(.ptr h.sz 0 0 0, some (true, 4))]) h_3 K)) = true := by
        intro h2f h3 e3 o3
        have em := markL_at ha
        rw [h2f, if_neg (by decide)] at em
        obtain ⟨v, g1, W⟩ := bslice_view (h := h3) (n := 20) (sz := 1) (z := [AV.str []]) (ps := [(0, (AV.str [40])), (1, (AV.str [41])), (2, (AV.str [91])), (3, (AV.str [93])), (4, (AV.str [123])), (5, (AV.str [125])), (6, (AV.str [44])), (7, (AV.str [46])), (8, (AV.str [58])), (9, (AV.str [59])), (10, (AV.str [63])), (11, (AV.str [60])), (12, (AV.str [62])), (13, (AV.str [61])), (14, (AV.str [43])), (15, (AV.str [45])), (16, (AV.str [42])), (17, (AV.str [47])), (18, (AV.str [37])), (19, (AV.str [33]))]) (es := (singles.map fun b => [b]).map fun t => [.str t]) rfl (by decide) (by decide) rfl rfl rfl
        rw [p_of g1]
        have e4 := ext_newRow o3 ((singles.map fun b => [b]).map fun t => [AV.str t]) 1
        have o4 := ok_newRow o3 ((singles.map fun b => [b]).map fun t => [AV.str t]) 1
        generalize (Ab.newRow h3 ((singles.map fun b => [b]).map fun t => [AV.str t]) 1) = h4 at *
        rw [o_of n1, o_of (slice_at (m := 1) (by omega))]
        have t1 : (s.drop a).take 1 = [pk s a] := by rw [drop_pk ha]; rfl
        refine c18 (n := n + 1) W (by decide) (by omega) fun z hz => ?_
        show (optB _ _) = true
        rw [o_geq, hz, t1]
        cases hk : keyB [pk s a] (singles.map fun b => [b]) with
        | true =>
          rw [hk, if_pos rfl] at em
          rw [em, if_pos (by decide)] at hmk
          rw [condB_true, o_of n1, o_of (slice_at (m := 1) (by omega)), o_of n1]
          rw [o_of (show buildV [AV.int .i64 0, .str [], .int .i64 0, .int .i64 0] [(0, 1, AV.int .i64 4), (1, 1, AV.str ((s.drop a).take 1)), (2, 1, .int .i64 (a : Int)), (3, 1, .int .i64 ((a + 1 : Nat) : Int))] = some (.agg [.int .i64 ((4 : Nat) : Int), .str ((s.drop a).take 1), .int .i64 (a : Int), .int .i64 ((a + 1 : Nat) : Int)]) from rfl)]
          exact fin h4 4 1 _ (e3.trans e4) o4 hmk
        | false =>
          rw [hk, if_neg (by decide)] at em
          rw [em, if_neg (by decide)] at hmk
          rw [condB_false]
          rw [o_of (show buildV [AV.int .i64 0, .str [], .int .i64 0, .int .i64 0] [(2, 1, .int .i64 (a : Int)), (3, 1, .int .i64 (a : Int))] = some (.agg [.int .i64 ((0 : Nat) : Int), .str [], .int .i64 (a : Int), .int .i64 (a : Int)]) from rfl)]
          exact finN h4 0 [] a (Int.le_refl _) (e3.trans e4) o4 hmk
      rw [o_of n1, o_slen, o_lss]
      by_cases h2' : a + 1 < s.length
      · rw [show decide (((a + 1 : Nat) : Int) < (s.length : Int)) = true from decide_eq_true (by omega), gp_tt]
        obtain ⟨v, g1, W⟩ := bslice_view (h := h2) (n := 6) (sz := 1) (z := [AV.str []]) (ps := [(0, (AV.str [61, 61])), (1, (AV.str [33, 61])), (2, (AV.str [60, 61])), (3, (AV.str [62, 61])), (4, (AV.str [38, 38])), (5, (AV.str [124, 124]))]) (es := twos.map fun t => [.str t]) rfl (by decide) (by decide) rfl rfl rfl
        rw [p_of g1]
        have e3 := ext_newRow o2 (twos.map fun t => [AV.str t]) 1
        have o3 := ok_newRow o2 (twos.map fun t => [AV.str t]) 1
        generalize (Ab.newRow h2 (twos.map fun t => [AV.str t]) 1) = h3 at *
        rw [g_tt, o_some, g_tt, o_some, g_tt, o_some, g_tt, o_of n2, g_tt, o_of (slice_at (m := 2) (by omega)), gc_tt]
        have t2 : (s.drop a).take 2 = [pk s a, pk s (a + 1)] := by rw [drop_pk ha, drop_pk h2']; rfl
        refine c18 (n := n + 1) W (by decide) (by omega) fun z hz => ?_
        show (optB _ _) = true
        rw [g_tt, o_geq, k_t, hz, t2]
        cases hk : keyB [pk s a, pk s (a + 1)] twos with
        | true =>
          have em := markL_at ha
          rw [hk, decide_eq_true h2', if_pos (by decide)] at em
          rw [em, if_pos (by decide)] at hmk
          rw [condB_true, o_of n2, o_of (slice_at (m := 2) (by omega)), o_of n2]
          rw [o_of (show buildV [AV.int .i64 0, .str [], .int .i64 0, .int .i64 0] [(0, 1, AV.int .i64 4), (1, 1, AV.str ((s.drop a).take 2)), (2, 1, .int .i64 (a : Int)), (3, 1, .int .i64 ((a + 2 : Nat) : Int))] = some (.agg [.int .i64 ((4 : Nat) : Int), .str ((s.drop a).take 2), .int .i64 (a : Int), .int .i64 ((a + 2 : Nat) : Int)]) from rfl)]
          exact fin h3 4 2 _ e3 o3 hmk
        | false =>
          rw [condB_false]
          exact single (by rw [hk, Bool.and_false]) h3 e3 o3
      · rw [show decide (((a + 1 : Nat) : Int) < (s.length : Int)) = false from decide_eq_false (by omega), gp_ft]
        rw [g_ft, g_ft, g_ft, g_ft, g_ft, gc_ft, g_ft, k_f, condB_false]
        exact single (by rw [decide_eq_false h2', Bool.false_and]) h2 (Ext.refl _) o2
  have p20 : ¬ letterB (pk s a) = true → (pk s a = 36 → ¬ 0 < wlen (s.drop (a + 1))) → p24_20 (callN E (n + 2)) (n + 2) (.str s) (.int .i64 (a : Int)) (.ptr h.sz 0 0 0) (.int .u8 (pk s a : Int)) h2 K = true := by
    intro c1 c3
    unfold p24_20
    refine c32 ?_
    show (condB _ _ _) = true
    cases hd : digitB (pk s a) with
    | false =>
      rw [condB_false]
      exact p41 c1 (by rw [hd]; decide) c3
    | true =>
      rw [condB_true]
      have c4 : pk s a ≠ 36 := fun q => by rw [q] at hd; exact absurd hd (by decide)
      rw [if_neg c1, if_neg c4, if_pos hd] at hN
      refine l24 (n := n + 1) (by omega) (fun j hj => ?_) (n + 2) a (Nat.le_refl _) (by omega) (by omega) rfl
      unfold p24_37
      rw [hj, o_of (slice_at (by omega))]
      rw [o_of (show buildV [AV.int .i64 0, .str [], .int .i64 0, .int .i64 0] [(0, 1, AV.int .i64 2), (1, 1, AV.str ((s.drop a).take ((s.drop a).takeWhile digitB).length)), (2, 1, .int .i64 (a : Int)), (3, 1, .int .i64 ((a + ((s.drop a).takeWhile digitB).length : Nat) : Int))] = some (.agg [.int .i64 ((2 : Nat) : Int), .str ((s.drop a).take ((s.drop a).takeWhile digitB).length), .int .i64 (a : Int), .int .i64 ((a + ((s.drop a).takeWhile digitB).length : Nat) : Int)]) from rfl)]
      exact fin h2 2 _ _ (Ext.refl _) o2 hN
  show (condB _ _ _) = true
  by_cases h1 : letterB (pk s a) = true
  · rw [if_pos h1] at hN
    rw [condB_t h1]
    refine c31 (n := n) (by omega) (by omega) (by omega) ?_
    rw [o_of (slice_at (by omega))]
    refine c31 (n := n) (by omega) (by omega) (by omega) ?_
    rw [o_of (show buildV [AV.int .i64 0, .str [], .int .i64 0, .int .i64 0] [(0, 1, AV.int .i64 0), (1, 1, AV.str ((s.drop a).take (wlen (s.drop a)))), (2, 1, .int .i64 (a : Int)), (3, 1, .int .i64 ((a + wlen (s.drop a) : Nat) : Int))] = some (.agg [.int .i64 ((0 : Nat) : Int), .str ((s.drop a).take (wlen (s.drop a))), .int .i64 (a : Int), .int .i64 ((a + wlen (s.drop a) : Nat) : Int)]) from rfl)]
    exact fin h2 0 _ _ (Ext.refl _) o2 hN
  · rw [condB_f (by simpa using h1)]
    unfold p24_12
    have e36 : binA .eql (.int .u8 (pk s a : Int)) (AV.int .u8 36) = some (.bool (decide (pk s a = 36))) := eqb 36 _
    rw [o_of e36]
    by_cases h3 : pk s a = 36
    · rw [decide_eq_true h3, g_tt, o_some, g_tt, o_some, g_tt, o_of n1, gc_tt]
      refine c31 (n := n) (by omega) (by omega) (by omega) ?_
      show (optB _ _) = true
      rw [g_tt, o_some, g_tt, o_of n1, g_tt, o_gtr, k_t]
      by_cases h4 : 0 < wlen (s.drop (a + 1))
      · rw [if_neg h1, if_pos h3, if_pos h4] at hN
        rw [condB_t (decide_eq_true (by omega)), o_of n1, o_of n1, o_of n1]
        refine c31 (n := n) (by omega) (by omega) (by omega) ?_
        rw [o_of (slice_at (by omega))]
        refine c31 (n := n) (by omega) (by omega) (by omega) ?_
        rw [show a + 1 + wlen (s.drop (a + 1)) = a + (wlen (s.drop (a + 1)) + 1) by omega]
        rw [o_of (show buildV [AV.int .i64 0, .str [], .int .i64 0, .int .i64 0] [(0, 1, AV.int .i64 1), (1, 1, AV.str ((s.drop (a + 1)).take (wlen (s.drop (a + 1))))), (2, 1, .int .i64 (a : Int)), (3, 1, .int .i64 ((a + (wlen (s.drop (a + 1)) + 1) : Nat) : Int))] = some (.agg [.int .i64 ((1 : Nat) : Int), .str ((s.drop (a + 1)).take (wlen (s.drop (a + 1)))), .int .i64 (a : Int), .int .i64 ((a + (wlen (s.drop (a + 1)) + 1) : Nat) : Int)]) from rfl)]
        exact fin h2 1 _ _ (Ext.refl _) o2 hN
      · rw [condB_f (decide_eq_false (by omega))]
        exact p20 h1 fun _ => h4
    · rw [decide_eq_false h3, g_ft, g_ft, g_ft, gc_ft, g_ft, g_ft, g_ft, k_f, condB_false]
      exact p20 h1 fun q => absurd q h3
end Go.Proofs.Ytajjclkdggoobaa
