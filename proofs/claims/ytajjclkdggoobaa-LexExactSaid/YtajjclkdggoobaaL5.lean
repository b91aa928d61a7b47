/-
  A lexeme.
-/
import Derived.Test.YtajjclkdggoobaaL4
namespace Go.Proofs.Ytajjclkdggoobaa
open Go.Ab
set_option linter.unusedSimpArgs false
set_option linter.unusedVariables false

/-- The lexeme that begins here: kind, what it says, how long. -/
def nextS : Str → Option (Nat × Str × Nat)
  | [] => none
  | c :: l => if letterB c = true then some (0, (c :: l).take (wlen (c :: l)), wlen (c :: l))
    else if c = 36 then (if 0 < wlen l then some (1, l.take (wlen l), wlen l + 1) else none)
    else if digitB c = true then some (2, (c :: l).take ((c :: l).takeWhile digitB).length, ((c :: l).takeWhile digitB).length)
    else if c = 34 then (quo l).map fun r => (3, r.1, r.2 + 1)
    else if 0 < markL (c :: l) then some (4, (c :: l).take (markL (c :: l)), markL (c :: l)) else none

theorem next_at {s : Str} {a : Nat} (h : a < s.length) : nextS (s.drop a) = if letterB (pk s a) = true then some (0, (s.drop a).take (wlen (s.drop a)), wlen (s.drop a))
    else if pk s a = 36 then (if 0 < wlen (s.drop (a + 1)) then some (1, (s.drop (a + 1)).take (wlen (s.drop (a + 1))), wlen (s.drop (a + 1)) + 1) else none)
    else if digitB (pk s a) = true then some (2, (s.drop a).take ((s.drop a).takeWhile digitB).length, ((s.drop a).takeWhile digitB).length)
    else if pk s a = 34 then (quo (s.drop (a + 1))).map fun r => (3, r.1, r.2 + 1)
    else if 0 < markL (s.drop a) then some (4, (s.drop a).take (markL (s.drop a)), markL (s.drop a)) else none := by
  rw [drop_pk h]; rfl

theorem take_le {p : Nat → Bool} : ∀ (l : Str), (l.takeWhile p).length ≤ l.length
  | [] => by simp
  | c :: l => by
    rw [List.takeWhile_cons]
    split
    · have := take_le (p := p) l
      simp only [List.length_cons]; omega
    · simp
theorem wlen_le (l : Str) : wlen l ≤ l.length := by
  cases l with
  | nil => simp [wlen]
  | cons c l => simp only [wlen]; split
                · exact take_le _
                · omega
theorem mark_le (l : Str) : markL l ≤ l.length := by
  unfold markL
  split
  · rename_i h
    obtain ⟨t, ht, hp⟩ := List.any_eq_true.1 h
    have h1 := (List.isPrefixOf_iff_prefix.1 hp).length_le
    have h2 : t.length = 2 := by
      have : ∀ t ∈ twos, t.length = 2 := by decide
      exact this t ht
    omega
  · cases l with
    | nil => simp
    | cons c l => simp only [List.length_cons]; split <;> omega

theorem next_le {l : Str} {kd m : Nat} {t : Str} (h : nextS l = some (kd, t, m)) : 0 < m ∧ m ≤ l.length := by
  cases l with
  | nil => cases h
  | cons c l =>
    have e1 := wlen_le (c :: l)
    have e2 := wlen_le l
    have e3 := mark_le (c :: l)
    have e4 := take_le (p := digitB) (c :: l)
    simp only [nextS] at h
    split at h
    · rename_i hc
      cases h
      refine ⟨?_, e1⟩
      have hw : wordB c = true := by simp [wordB, hc]
      simp only [wlen, hc, if_true]
      rw [List.takeWhile_cons, hw]; simp
    · split at h
      · split at h
        · cases h; simp only [List.length_cons]; omega
        · cases h
      · split at h
        · rename_i hc
          cases h
          refine ⟨?_, e4⟩
          rw [List.takeWhile_cons, hc]; simp
        · split at h
          · cases hq : quo l with
            | none => rw [hq] at h; cases h
            | some r =>
              rw [hq] at h
              obtain ⟨t', m'⟩ := r
              have := quo_le l t' m' hq
              cases h
              simp only [List.length_cons]; omega
          · split at h
            · cases h; omega
            · cases h

theorem fin29 {h : AHeap} {id : Nat} {c : List AV} {a b v : AV} {K : Kont} (V : Var h id c) (hc : c.length = 4) (ha : a.leaf = true) (hb : b.leaf = true) :
    (optP (unit (storeA h 4 (.ptr id 0 0 0) (.agg [a, b, .int .i64 0, .int .i64 0]))) fun _ h => optR (resV h [(.ptr id 0 0 0, some (true, 4)), (v, none)]) h K)
      = K (.tup [.agg [a, b, .int .i64 0, .int .i64 0], v]) (h.put id (.row (VRow [a, b, .int .i64 0, .int .i64 0]))) := by
  have hl : allLeaf (AV.agg [a, b, .int .i64 0, .int .i64 0]).cells = true := by
    show (bif a.leaf then (bif b.leaf then _ else false) else false) = true
    rw [ha, hb]; rfl
  have hy : lay c 0 (AV.agg [a, b, .int .i64 0, .int .i64 0]).cells = [a, b, .int .i64 0, .int .i64 0] := by
    match c, hc with
    | [_, _, _, _], _ => rfl
  have hs := V.store (n := 4) (off := 0) (v := .agg [a, b, .int .i64 0, .int .i64 0]) rfl (by omega) hl
  rw [hy] at hs
  rw [u_of hs]
  have V' := var_put (h := h) id [a, b, .int .i64 0, .int .i64 0]
  simp only [resV, V'.load]
  rfl

theorem c29 {n x a : Nat} {s : Str} {bad : Bool} {h : AHeap} {K : Kont} (V : LX h x s a bad) (ho : h.Ok) (hL : 2 * s.length + 4 < most) (hb : ∀ b ∈ s, b < 256) (ha : a < s.length) (hn : s.length < n) (hn6 : 6 ≤ n)
    (kS : ∀ kd t m h', nextS (s.drop a) = some (kd, t, m) → Ext h h' → h'.Ok → K (.tup [.agg [.int .i64 (kd : Int), .str t, .int .i64 0, .int .i64 0], .int .i64 (m : Int)]) h' = true)
    (kN : nextS (s.drop a) = none → ∀ (kd : Nat) t h', Ext h h' → h'.Ok → K (.tup [.agg [.int .i64 (kd : Int), .str t, .int .i64 0, .int .i64 0], .int .i64 0]) h' = true) : callN E (n + 5) (.func 29) [.ptr x 0 0 0] h K = true := by
  have hlim : most < lim := by decide
  apply d29
  unfold s29
  have A1 : boxA h 1 (.ptr x 0 0 0) = some (.ptr h.sz 0 0 0, Ab.newRow h [[AV.ptr x 0 0 0]] 1) := box_eq (n := 1) rfl (by decide) rfl
  have A2 : allocV (Ab.newRow h [[AV.ptr x 0 0 0]] 1) [AV.int .i64 0, .str [], .int .i64 0, .int .i64 0] = some (.ptr (h.sz + 1) 0 0 0, Ab.newRow (Ab.newRow h [[AV.ptr x 0 0 0]] 1) [[AV.int .i64 0, .str [], .int .i64 0, .int .i64 0]] 4) := alloc_eq (by decide) rfl
  rw [p_of A1, p_of A2]
  have e1 := ext_newRow ho [[AV.ptr x 0 0 0]] 1
  have o1 := ok_newRow ho [[AV.ptr x 0 0 0]] 1
  have V1 := var_new h [AV.ptr x 0 0 0]
  have e2 := ext_newRow o1 [[AV.int .i64 0, .str [], .int .i64 0, .int .i64 0]] 4
  have o2 := ok_newRow o1 [[AV.int .i64 0, .str [], .int .i64 0, .int .i64 0]] 4
  have V2 := var_new (Ab.newRow h [[AV.ptr x 0 0 0]] 1) [AV.int .i64 0, .str [], .int .i64 0, .int .i64 0]
  have V1' := V1.ext e2
  have E2 := e1.trans e2
  have VX : LX (Ab.newRow (Ab.newRow h [[AV.ptr x 0 0 0]] 1) [[AV.int .i64 0, .str [], .int .i64 0, .int .i64 0]] 4) x s a bad := Var.ext V E2
  simp only [List.length_cons, List.length_nil, Nat.zero_add, newRow_sz] at V1' V2
  generalize (Ab.newRow (Ab.newRow h [[AV.ptr x 0 0 0]] 1) [[AV.int .i64 0, .str [], .int .i64 0, .int .i64 0]] 4) = h2 at *
  have P0 : loadA h2 false 1 (.ptr h.sz 0 0 0) = some (.ptr x 0 0 0) := by rw [V1'.load]; rfl
  have hz2 : h.sz + 1 < h2.sz := V2.lt o2
  have fin : ∀ (h' : AHeap) (kd m : Nat) (t : Str), Ext h2 h' → h'.Ok → (nextS (s.drop a) = some (kd, t, m) ∨ (nextS (s.drop a) = none ∧ m = 0)) →
      (optP (unit (storeA h' 4 (.ptr (h.sz + 1) 0 0 0) (.agg [.int .i64 (kd : Int), .str t, .int .i64 0, .int .i64 0]))) fun _ h'' => optR (resV h'' [(.ptr (h.sz + 1) 0 0 0, some (true, 4)), (.int .i64 (m : Int), none)]) h'' K) = true := by
    intro h' kd m t e' o' hr
    rw [fin29 (V2.ext e') rfl rfl rfl]
    have e3 : Ext h (h'.put (h.sz + 1) (.row (VRow [.int .i64 (kd : Int), .str t, .int .i64 0, .int .i64 0]))) := ext_put (E2.trans e') ho (by omega) _
    have o3 : (h'.put (h.sz + 1) (.row (VRow [.int .i64 (kd : Int), .str t, .int .i64 0, .int .i64 0]))).Ok := o'.put (Nat.lt_of_lt_of_le hz2 e'.1) _
    rcases hr with hr | ⟨hr, rfl⟩
    · exact kS _ _ _ _ hr e3 o3
    · exact kN hr _ _ _ e3 o3
  have part : ∀ (h' : AHeap) (f m : Nat) (K' : Kont), Ext h2 h' → a + f + m ≤ s.length → K' (.str ((s.drop (a + f)).take m)) h' = true → callV (callN E (n + 4)) (.fn (.func 37) [] [.ptr h.sz 0 0 0]) [.int .i64 (f : Int), .int .i64 (m : Int)] h' K' = true := by
    intro h' f m K' e' hm hk
    exact c37 (Var.ext VX e') (V1'.ext e') (by omega) hm hk
  have hN := next_at ha
  have hlen : (s.drop a).length = s.length - a := by simp
  have hlen1 : (s.drop (a + 1)).length = s.length - (a + 1) := by simp
  rw [o_some, o_of P0]
  refine c36 (k := 0) VX (by omega) (Nat.le_of_lt ha) ?_
  refine c38 ?_
  show (condB _ _ _) = true
  rw [Nat.add_zero]
  by_cases h1 : letterB (pk s a) = true
  · rw [if_pos h1] at hN
    rw [condB_t h1, o_of P0]
    refine c39 (f := 0) VX (by omega) (by omega) (by omega) (Nat.le_of_lt ha) ?_
    have hw := wlen_le (s.drop a)
    refine part h2 0 _ _ (Ext.refl _) (by rw [Nat.add_zero]; omega) ?_
    rw [o_of (show buildV [AV.int .i64 0, .str [], .int .i64 0, .int .i64 0] [(0, 1, AV.int .i64 0), (1, 1, AV.str ((s.drop (a + 0)).take (wlen (s.drop (a + 0)))))] = some (.agg [.int .i64 ((0 : Nat) : Int), .str ((s.drop (a + 0)).take (wlen (s.drop (a + 0)))), .int .i64 0, .int .i64 0]) from rfl)]
    exact fin h2 0 _ _ (Ext.refl _) o2 (.inl hN)
  · rw [if_neg h1] at hN
    rw [condB_f (by simpa using h1)]
    have e36 : binA .eql (.int .u8 (pk s a : Int)) (AV.int .u8 36) = some (.bool (decide (pk s a = 36))) := eqb 36 _
    rw [o_of e36]
    by_cases h3 : pk s a = 36
    · rw [if_pos h3] at hN
      rw [condB_t (decide_eq_true h3), o_of P0]
      refine c39 (f := 1) VX (by omega) (by omega) (by omega) (Nat.le_of_lt ha) ?_
      have hw := wlen_le (s.drop (a + 1))
      show (optB _ _) = true
      rw [o_gtr]
      by_cases h4 : 0 < wlen (s.drop (a + 1))
      · rw [if_pos h4] at hN
        rw [condB_t (decide_eq_true (by omega))]
        refine part h2 1 _ _ (Ext.refl _) (by omega) ?_
        rw [o_of (show buildV [AV.int .i64 0, .str [], .int .i64 0, .int .i64 0] [(0, 1, AV.int .i64 1), (1, 1, AV.str ((s.drop (a + 1)).take (wlen (s.drop (a + 1)))))] = some (.agg [.int .i64 ((1 : Nat) : Int), .str ((s.drop (a + 1)).take (wlen (s.drop (a + 1)))), .int .i64 0, .int .i64 0]) from rfl)]
        have e1' : binA .add (.int .i64 (wlen (s.drop (a + 1)) : Int)) (AV.int .i64 1) = some (.int .i64 ((wlen (s.drop (a + 1)) + 1 : Nat) : Int)) := lit64 1 (by omega)
        rw [o_of e1']
        exact fin h2 1 _ _ (Ext.refl _) o2 (.inl hN)
      · rw [if_neg h4] at hN
        rw [condB_f (decide_eq_false (by omega))]
        rw [o_of (show loadA h2 true 4 (.ptr (h.sz + 1) 0 0 0) = some (.agg [.int .i64 ((0 : Nat) : Int), .str [], .int .i64 0, .int .i64 0]) by rw [V2.load]; rfl)]
        exact fin h2 0 0 [] (Ext.refl _) o2 (.inr ⟨hN, rfl⟩)
    · rw [if_neg h3] at hN
      rw [condB_f (decide_eq_false h3)]
      refine c40 ?_
      show (condB _ _ _) = true
      by_cases h5 : digitB (pk s a) = true
      · rw [if_pos h5] at hN
        rw [condB_t h5, o_of P0]
        have hw := take_le (p := digitB) (s.drop a)
        refine c41 (f := 0) (p := digitB) VX (by omega) (by omega) (Nat.le_of_lt ha) (fun b K' hk => c40 hk) ?_
        refine part h2 0 _ _ (Ext.refl _) (by rw [Nat.add_zero]; omega) ?_
        rw [o_of (show buildV [AV.int .i64 0, .str [], .int .i64 0, .int .i64 0] [(0, 1, AV.int .i64 2), (1, 1, AV.str ((s.drop (a + 0)).take ((s.drop (a + 0)).takeWhile digitB).length))] = some (.agg [.int .i64 ((2 : Nat) : Int), .str ((s.drop (a + 0)).take ((s.drop (a + 0)).takeWhile digitB).length), .int .i64 0, .int .i64 0]) from rfl)]
        exact fin h2 2 _ _ (Ext.refl _) o2 (.inl hN)
      · rw [if_neg h5] at hN
        rw [condB_f (by simpa using h5)]
        have e34 : binA .eql (.int .u8 (pk s a : Int)) (AV.int .u8 34) = some (.bool (decide (pk s a = 34))) := eqb 34 _
        rw [o_of e34]
        by_cases h6 : pk s a = 34
        · rw [if_pos h6] at hN
          rw [condB_t (decide_eq_true h6), o_of P0]
          refine c42 VX o2 hL hb (Nat.le_of_lt ha) hn fun h' e' o' => ?_
          cases hq : quo (s.drop (a + 1)) with
          | none =>
            rw [hq] at hN
            show (optB (extA 0 (quoR [] 1 none)) _) = true
            rw [show quoR [] 1 none = .tup [.str [], .int .i64 0] from rfl, o_ext0, o_ext1]
            rw [o_of (show buildV [AV.int .i64 0, .str [], .int .i64 0, .int .i64 0] [(0, 1, AV.int .i64 3), (1, 1, AV.str [])] = some (.agg [.int .i64 ((3 : Nat) : Int), .str [], .int .i64 0, .int .i64 0]) from rfl)]
            exact fin h' 3 0 [] e' o' (.inr ⟨hN, rfl⟩)
          | some r =>
            rw [hq] at hN
            show (optB (extA 0 (quoR [] 1 (some r))) _) = true
            rw [show quoR [] 1 (some r) = .tup [.str r.1, .int .i64 ((1 + r.2 : Nat) : Int)] from rfl, o_ext0, o_ext1, Nat.add_comm 1 r.2]
            rw [o_of (show buildV [AV.int .i64 0, .str [], .int .i64 0, .int .i64 0] [(0, 1, AV.int .i64 3), (1, 1, AV.str r.1)] = some (.agg [.int .i64 ((3 : Nat) : Int), .str r.1, .int .i64 0, .int .i64 0]) from rfl)]
            exact fin h' 3 _ _ e' o' (.inl hN)
        · rw [if_neg h6] at hN
          rw [condB_f (decide_eq_false h6), o_of P0]
          refine c43 VX o2 hb ha hn6 fun h' e' o' => ?_
          have hw := mark_le (s.drop a)
          refine part h' 0 _ _ e' (by rw [Nat.add_zero]; omega) ?_
          rw [o_of (show buildV [AV.int .i64 0, .str [], .int .i64 0, .int .i64 0] [(0, 1, AV.int .i64 4), (1, 1, AV.str ((s.drop (a + 0)).take (markL (s.drop a))))] = some (.agg [.int .i64 ((4 : Nat) : Int), .str ((s.drop (a + 0)).take (markL (s.drop a))), .int .i64 0, .int .i64 0]) from rfl)]
          by_cases h7 : 0 < markL (s.drop a)
          · rw [if_pos h7] at hN
            exact fin h' 4 _ _ e' o' (.inl hN)
          · rw [if_neg h7] at hN
            exact fin h' 4 _ _ e' o' (.inr ⟨hN, by omega⟩)
end Go.Proofs.Ytajjclkdggoobaa
