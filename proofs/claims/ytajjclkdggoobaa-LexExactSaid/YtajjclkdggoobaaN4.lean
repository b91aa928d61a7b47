/-
  The document's answer: how a text is written.
-/
import Derived.Test.YtajjclkdggoobaaN3
namespace Go.Proofs.Ytajjclkdggoobaa
open Go.Ab
set_option linter.unusedSimpArgs false
set_option linter.unusedVariables false

theorem qb_two (b : Nat) (h : b = 34 ∨ b = 92) : qByte b = [92, b] := by
  rcases h with rfl | rfl <;> rfl
theorem qb_one (b : Nat) (h1 : b ≠ 34) (h2 : b ≠ 92) (h3 : b ≠ 10) (h4 : b ≠ 9) : qByte b = [b] := by
  simp only [qByte, bidx, if_neg (fun e => h1 (Eq.symm e) : ¬ 34 = b), if_neg (fun e => h2 (Eq.symm e) : ¬ 92 = b), if_neg (fun e => h3 (Eq.symm e) : ¬ 10 = b), if_neg (fun e => h4 (Eq.symm e) : ¬ 9 = b)]
  rfl

/-- A slice that was written out: full, its own. -/
def ExS (h : AHeap) (v : AV) (s : Str) : Prop := ∃ id r, v = .slc id 0 0 s.length s.length true ∧ h.row id = some r ∧ r.m = 0 ∧ r.sz = 1 ∧ r.es = encB s

theorem exs_app {h h0 : AHeap} {v u : AV} {s new : Str} (X : ExS h v s) (ho : h.Ok) (k0 : h0.Ok) (e0 : Ext h0 h) (hu : source h 1 u = some (encB new)) (hn : new ≠ []) (hl : s.length + new.length ≤ most) :
    ∃ v' h', appbA h 5 v u = some (v', h') ∧ Own h0.sz h' 1 v' (encB (s ++ new)) ∧ h'.Ok ∧ Ext h0 h' := by
  obtain ⟨id, r, rfl, h1, h2, h3, h4⟩ := X
  have hln : (encB new).length = new.length := by simp [encB]
  have hls : (encB s).length = s.length := by simp [encB]
  have hen : encB s ++ encB new = encB (s ++ new) := by simp [encB]
  have hle : (encB (s ++ new)).length = s.length + new.length := by simp [encB]
  have hpos : 0 < new.length := List.length_pos_iff.2 hn
  refine ⟨.slc h.sz 0 0 (s.length + new.length) (s.length + new.length) false, Ab.newRow h (encB (s ++ new)) 1 (some 5), ?_, .inr ⟨h.sz, { es := encB (s ++ new), sz := 1, g := 0, m := 0, rw := true, ty := some 5 }, e0.1, by rw [hle], by rw [AHeap.row_some]; exact get_push_same _ _, rfl, Nat.le_refl _, rfl, rfl⟩, ho.push _, e0.trans (ext_push ho _)⟩
  have hz : Nat.beq 1 0 = false := rfl
  simp only [appbA, appendA, hz, cond_false, hu]
  match henc : encB new, hln with
  | [], hln => simp only [List.length_nil] at hln; omega
  | y :: ys, hln =>
    rw [henc] at hen
    simp only [appendNew, h1]
    have q1 : (Nat.ble ((s.length + (y :: ys).length) * 1) most && Nat.ble (s.length + (y :: ys).length) most && Nat.beq r.sz 1) = true := by
      rw [hln, nble_true.2 (show (s.length + new.length) * 1 ≤ most by omega), nble_true.2 hl, nbeq_true.2 h3]; rfl
    have q2 : Nat.ble (s.length + (y :: ys).length) s.length = false := by
      cases hh : Nat.ble (s.length + (y :: ys).length) s.length with
      | false => rfl
      | true => have := nble_true.1 hh; omega
    have q3 : Nat.ble r.m 0 = true := nble_true.2 (by omega)
    have q4 : (r.es.drop 0).take s.length = encB s := by rw [List.drop_zero, h4, List.take_of_length_le (by omega)]
    have q5 : Nat.beq (encB s).length s.length = true := nbeq_true.2 hls
    rw [q1, cond_true, q2, cond_false, cond_true, q3, cond_true, q4, q5, cond_true, hen, hln]

theorem l13 {n : Nat} {s : Str} {h0 : AHeap} {K : Kont} (ho0 : h0.Ok) (hL : 2 * s.length + 4 < most) (hb : ∀ b ∈ s, b < 256) :
    ∀ (m i : Nat) (acc : Str) (v : AV) (h : AHeap), h.Ok → Ext h0 h → (Own h0.sz h 1 v (encB acc) ∨ ExS h v acc) → (∀ c ∈ acc, c < 256) → acc.length ≤ 2 * i + 1 → i ≤ s.length → s.length - i < m →
      (∀ h', Ext h0 h' → h'.Ok → K (.str (acc ++ (s.drop i).flatMap qByte ++ [34])) h' = true) → l13_8 (callN E n) n m (.str s) v (.int .i64 (i : Int)) h K = true := by
  have hlim : most < lim := by decide
  intro m
  induction m with
  | zero => intro i acc v h _ _ _ _ _ _ hm; omega
  | succ m ih =>
    intro i acc v h ho e0 O hac hacc hi hm k
    unfold l13_8 b13_8
    rw [o_slen, o_lss]
    have hsz := e0.1
    have app : ∀ (u : AV) (h1 : AHeap) (new : Str), Ext h h1 → h1.Ok → View h1 1 u (encB new) → new ≠ [] → new.length ≤ 2 → (∀ c ∈ new, c < 256) → ∃ v' h3, appbA h1 5 v u = some (v', h3) ∧ Own h0.sz h3 1 v' (encB (acc ++ new)) ∧ h3.Ok ∧ Ext h0 h3 ∧ (∀ c ∈ acc ++ new, c < 256) := by
      intro u h1 new e1 o1 W hne hn hbn
      have hen : encB acc ++ encB new = encB (acc ++ new) := by simp [encB]
      have : ∃ v' h3, appbA h1 5 v u = some (v', h3) ∧ Own h0.sz h3 1 v' (encB (acc ++ new)) ∧ h3.Ok ∧ Ext h0 h3 := by
        rcases O with O | X
        · obtain ⟨v', h3, a1, a2, a3, a4, _⟩ := (O.ext e1).appb (e := 5) (by have := e1.1; omega) o1 ho0 (e0.trans e1) (Nat.le_refl _) W.src (by simp only [encB, List.length_map]; omega)
          rw [hen] at a2
          exact ⟨v', h3, a1, a2, a3, a4⟩
        · obtain ⟨id, r, x1, x2, x3⟩ := X
          exact exs_app ⟨id, r, x1, e1.row x2, x3⟩ o1 ho0 (e0.trans e1) W.src hne (by omega)
      obtain ⟨v', h3, a1, a2, a3, a4⟩ := this
      refine ⟨v', h3, a1, a2, a3, a4, fun c hc => ?_⟩
      rcases List.mem_append.1 hc with hc | hc
      · exact hac c hc
      · exact hbn c hc
    by_cases hlt : i < s.length
    · rw [condB_t (decide_eq_true (by omega)), o_of (idxs_pk hlt)]
      rw [drop_pk hlt, List.flatMap_cons] at k
      have hpb := pk_byte hb i
      have hq2 := qByte_le (pk s i)
      have next : ∀ v' h3, h3.Ok → Ext h0 h3 → Own h0.sz h3 1 v' (encB (acc ++ qByte (pk s i))) → (∀ c ∈ acc ++ qByte (pk s i), c < 256) → p13_37 (callN E n) n (fun x0 x3 x4 h => l13_8 (callN E n) n m x0 x3 x4 h K) (.str s) v' (.int .i64 (i : Int)) h3 K = true := by
        intro v' h3 o3 e3 O3 hb3
        unfold p13_37
        rw [o_of (inc64 (show i < lim by omega))]
        refine ih (i + 1) _ v' h3 o3 e3 (.inl O3) hb3 (by rw [List.length_append]; omega) (by omega) (by omega) fun h' e' o' => ?_
        have := k h' e' o'
        rw [List.append_assoc acc]
        exact this
      have two : ∀ d : Nat, qByte (pk s i) = [92, d] → d < 256 → (optP (bsliceV h 2 1 [AV.int .u8 0] [(0, AV.int .u8 92), (1, .int .u8 (d : Int))]) fun v7 h => optP (appbA h 5 v v7) fun v8 h => p13_37 (callN E n) n (fun x0 x3 x4 h => l13_8 (callN E n) n m x0 x3 x4 h K) (.str s) v8 (.int .i64 (i : Int)) h K) = true := by
        intro d hd hd2
        obtain ⟨u, g1, W⟩ := bslice_view (h := h) (n := 2) (sz := 1) (z := [AV.int .u8 0]) (ps := [(0, AV.int .u8 92), (1, .int .u8 (d : Int))]) (es := encB [92, d]) rfl (by decide) (by decide) rfl rfl rfl
        rw [p_of g1]
        obtain ⟨v', h3, a1, a2, a3, a4, a5⟩ := app u _ [92, d] (ext_newRow ho _ _) (ok_newRow ho _ _) W (by simp) (by simp) (by
          intro c hc
          simp only [List.mem_cons, List.not_mem_nil, or_false] at hc
          omega)
        rw [p_of a1]
        exact next v' h3 a3 a4 (by rw [hd]; exact a2) (by rw [hd]; exact a5)
      have e10 : binA .eql (.int .u8 (pk s i : Int)) (AV.int .u8 10) = some (.bool (decide (pk s i = 10))) := eqb 10 _
      have e9 : binA .eql (.int .u8 (pk s i : Int)) (AV.int .u8 9) = some (.bool (decide (pk s i = 9))) := eqb 9 _
      have e34 : binA .eql (.int .u8 (pk s i : Int)) (AV.int .u8 34) = some (.bool (decide (pk s i = 34))) := eqb 34 _
      have e92 : binA .eql (.int .u8 (pk s i : Int)) (AV.int .u8 92) = some (.bool (decide (pk s i = 92))) := eqb 92 _
      have p26 : ∀ c : Bool, c = (decide (pk s i = 34) || decide (pk s i = 92)) → p13_26 (callN E n) n (fun x0 x3 x4 h => l13_8 (callN E n) n m x0 x3 x4 h K) (.str s) v (.int .i64 (i : Int)) (.int .u8 (pk s i : Int)) (.bool c) h K = true := by
        intro c hc
        unfold p13_26
        cases c with
        | true =>
          rw [condB_true, o_of (idxs_pk hlt)]
          have : pk s i = 34 ∨ pk s i = 92 := by
            rcases Bool.or_eq_true_iff.1 hc.symm with q | q
            · exact .inl (of_decide_eq_true q)
            · exact .inr (of_decide_eq_true q)
          exact two _ (qb_two _ this) hpb
        | false =>
          have q1 : pk s i ≠ 34 := fun q => by rw [q] at hc; simp at hc
          have q2 : pk s i ≠ 92 := fun q => by rw [q] at hc; simp at hc
          rw [condB_false, o_of e10]
          by_cases q3 : pk s i = 10
          · rw [condB_t (decide_eq_true q3)]
            exact two 110 (by rw [q3]; rfl) (by decide)
          · rw [condB_f (decide_eq_false q3), o_of e9]
            by_cases q4 : pk s i = 9
            · rw [condB_t (decide_eq_true q4)]
              exact two 116 (by rw [q4]; rfl) (by decide)
            · rw [condB_f (decide_eq_false q4), o_of (idxs_pk hlt)]
              have hq := qb_one _ q1 q2 q3 q4
              obtain ⟨u, g1, W⟩ := bslice_view (h := h) (n := 1) (sz := 1) (z := [AV.int .u8 0]) (ps := [(0, .int .u8 (pk s i : Int))]) (es := encB [pk s i]) rfl (by decide) (by decide) rfl rfl rfl
              rw [p_of g1]
              obtain ⟨v', h3, a1, a2, a3, a4, a5⟩ := app u _ [pk s i] (ext_newRow ho _ _) (ok_newRow ho _ _) W (by simp) (by simp) (by
                intro c hc
                simp only [List.mem_singleton] at hc
                omega)
              rw [p_of a1]
              exact next v' h3 a3 a4 (by rw [hq]; exact a2) (by rw [hq]; exact a5)
      rw [o_of e34]
      cases q1 : decide (pk s i = 34) with
      | true => rw [condB_true]; exact p26 true (by rw [q1]; rfl)
      | false => rw [condB_false, o_of e92]; exact p26 _ (by rw [q1]; rfl)
    · rw [condB_f (decide_eq_false (by omega))]
      rw [List.drop_of_length_le (by omega)] at k
      unfold p13_38
      obtain ⟨u, g1, W⟩ := bslice_view (h := h) (n := 1) (sz := 1) (z := [AV.int .u8 0]) (ps := [(0, AV.int .u8 34)]) (es := encB [34]) rfl (by decide) (by decide) rfl rfl rfl
      rw [p_of g1]
      obtain ⟨v', h3, a1, a2, a3, a4, a5⟩ := app u _ [34] (ext_newRow ho _ _) (ok_newRow ho _ _) W (by simp) (by simp) (by decide)
      rw [p_of a1, o_of (b2s_own a2 a5)]
      have := k h3 a4 a3
      rw [List.flatMap_nil, List.append_nil] at this
      exact this

theorem c13 {n : Nat} {s : Str} {h : AHeap} {K : Kont} (ho : h.Ok) (hL : 2 * s.length + 4 < most) (hb : ∀ b ∈ s, b < 256) (hn : s.length < n)
    (k : ∀ h', Ext h h' → h'.Ok → K (.str (quoteS s)) h' = true) : callN E (n + 1) (.func 13) [.str s] h K = true := by
  apply d13
  unfold s13
  have g2 : bsliceV h 1 1 [AV.int .u8 0] [(0, AV.int .u8 34)] = some (.slc h.sz 0 0 1 1 true, Ab.newRow h (encB [34]) 1) := rfl
  rw [p_of g2]
  refine l13 ho hL hb n 0 [34] _ _ (ok_newRow ho _ _) (ext_newRow ho _ _) (.inr ⟨h.sz, { es := encB [34], sz := 1, g := 0, m := 0, rw := true }, rfl, by rw [AHeap.row_some]; exact get_push_same _ _, rfl, rfl, rfl⟩) (by decide) (by simp) (by omega) (by omega) fun h' e' o' => ?_
  exact k h' e' o'
end Go.Proofs.Ytajjclkdggoobaa
