/-
  The document's answer: quoted texts.
-/
import Derived.Test.YtajjclkdggoobaaN2
import Derived.Test.YtajjclkdggoobaaL4
namespace Go.Proofs.Ytajjclkdggoobaa
open Go.Ab
set_option linter.unusedSimpArgs false
set_option linter.unusedVariables false

theorem b2s_own {b : Nat} {h : AHeap} {v : AV} {s : Str} (O : Own b h 1 v (encB s)) (hb : ∀ c ∈ s, c < 256) : b2sA h v = some (.str s) := by
  have hs := O.view.src
  rcases O with ⟨rfl, he⟩ | ⟨i, r, q1, rfl, _⟩
  · cases s with
    | nil => rfl
    | cons b s => simp [encB] at he
  · simp only [b2sA, hs, bytesOf_enc s hb]

/-- The answer of the document's 'quoted'. -/
def refQ (acc : Str) (i : Nat) : Option (Str × Nat) → AV
  | none => .tup [.str [], .int .i64 (-1)]
  | some r => .tup [.str (acc ++ r.1), .int .i64 ((i + r.2 : Nat) : Int)]

theorem l33 {n : Nat} {s : Str} {h0 : AHeap} {K : Kont} (ho0 : h0.Ok) (hL : 2 * s.length + 4 < most) (hb : ∀ b ∈ s, b < 256) :
    ∀ (m i : Nat) (acc : Str) (v : AV) (h : AHeap), h.Ok → Ext h0 h → Own h0.sz h 1 v (encB acc) → (∀ c ∈ acc, c < 256) → acc.length ≤ i → i ≤ s.length + 2 → s.length + 2 - i < m →
      (∀ h', Ext h0 h' → h'.Ok → K (refQ acc i (quo (s.drop i))) h' = true) → l33_8 (callN E n) n m (.str s) v (.int .i64 (i : Int)) h K = true := by
  have hlim : most < lim := by decide
  intro m
  induction m with
  | zero => intro i acc v h _ _ _ _ _ _ hm; omega
  | succ m ih =>
    intro i acc v h ho e0 O hac hacc hi hm k
    unfold l33_8 b33_8
    rw [o_slen, o_lss]
    by_cases hlt : i < s.length
    · rw [condB_t (decide_eq_true (by omega)), o_of (idxs_pk hlt)]
      rw [quo_step hlt] at k
      have e34 : ∀ j, binA .eql (.int .u8 (pk s j : Int)) (AV.int .u8 34) = some (.bool (decide (pk s j = 34))) := fun j => eqb 34 _
      have e92 : ∀ j, binA .eql (.int .u8 (pk s j : Int)) (AV.int .u8 92) = some (.bool (decide (pk s j = 92))) := fun j => eqb 92 _
      have e110 : ∀ j, binA .eql (.int .u8 (pk s j : Int)) (AV.int .u8 110) = some (.bool (decide (pk s j = 110))) := fun j => eqb 110 _
      have e116 : ∀ j, binA .eql (.int .u8 (pk s j : Int)) (AV.int .u8 116) = some (.bool (decide (pk s j = 116))) := fun j => eqb 116 _
      have e32 : binA .lss (.int .u8 (pk s i : Int)) (AV.int .u8 32) = some (.bool (decide (pk s i < 32))) := ltb 32 _
      -- one byte more
      have more : ∀ (j c : Nat), i ≤ j → j < s.length → c < 256 → (∀ h', Ext h0 h' → h'.Ok → K (refQ (acc ++ [c]) (j + 1) (quo (s.drop (j + 1)))) h' = true) →
          p33_72 (callN E n) n (fun x0 x6 x7 h => l33_8 (callN E n) n m x0 x6 x7 h K) (.str s) v (.int .i64 (j : Int)) (.int .u8 (c : Int)) h K = true := by
        intro j c hij hj hc kk
        unfold p33_72
        obtain ⟨u, g1, W⟩ := bslice_view (h := h) (n := 1) (sz := 1) (z := [AV.int .u8 0]) (ps := [(0, .int .u8 (c : Int))]) (es := [[.int .u8 (c : Int)]]) rfl (by decide) (by decide) rfl rfl rfl
        rw [p_of g1]
        have e1 := ext_newRow ho [[AV.int .u8 (c : Int)]] 1
        have o1 := ok_newRow ho [[AV.int .u8 (c : Int)]] 1
        have hsz := e0.1
        obtain ⟨v', h3, a1, a2, a3, a4, _⟩ := (O.ext e1).appb (e := 5) (by have := e1.1; omega) o1 ho0 (e0.trans e1) (Nat.le_refl _) W.src (by simp only [encB, List.length_map, List.length_cons, List.length_nil]; omega)
        rw [p_of a1, o_of (inc64 (show j < lim by omega))]
        have hen : encB acc ++ [[AV.int .u8 (c : Int)]] = encB (acc ++ [c]) := by simp [encB]
        rw [hen] at a2
        refine ih (j + 1) (acc ++ [c]) v' h3 a3 a4 a2 (fun d hd => ?_) (by simp; omega) (by omega) (by omega) kk
        rcases List.mem_append.1 hd with hd | hd
        · exact hac d hd
        · simp only [List.mem_singleton] at hd; omega
      have cont : ∀ (c i' : Nat) (q : Option (Str × Nat)) (d : Nat), i' = i + d → (∀ h', Ext h0 h' → h'.Ok → K (refQ acc i (q.map fun r => (c :: r.1, r.2 + d))) h' = true) → ∀ h', Ext h0 h' → h'.Ok → K (refQ (acc ++ [c]) i' q) h' = true := by
        intro c i' q d hi' kk h' e' o'
        have := kk h' e' o'
        cases q with
        | none => exact this
        | some r =>
          simp only [refQ, Option.map] at this ⊢
          rw [List.append_assoc, hi', show i + d + r.2 = i + (r.2 + d) by omega]
          exact this
      rw [o_of (e34 i)]
      by_cases h1 : pk s i = 34
      · rw [if_pos h1] at k
        have n1 : binA .add (.int .i64 (i : Int)) (AV.int .i64 1) = some (.int .i64 ((i + 1 : Nat) : Int)) := lit64 1 (by omega)
        rw [condB_t (decide_eq_true h1), o_of (b2s_own O hac), o_of n1]
        have := k h e0 ho
        simp only [refQ, List.append_nil] at this
        exact this
      · rw [if_neg h1] at k
        rw [condB_f (decide_eq_false h1), o_of e32]
        by_cases h3 : pk s i < 32
        · rw [condB_t (decide_eq_true h3)]
          rw [if_neg (by omega), if_pos h3] at k
          exact k h e0 ho
        · rw [condB_f (decide_eq_false h3), o_of (e92 i)]
          by_cases h2 : pk s i = 92
          · rw [if_pos h2] at k
            have n1 : binA .add (.int .i64 (i : Int)) (AV.int .i64 1) = some (.int .i64 ((i + 1 : Nat) : Int)) := lit64 1 (by omega)
            rw [condB_t (decide_eq_true h2), o_of n1, o_slen, o_geq]
            by_cases h4 : i + 1 < s.length
            · rw [condB_f (decide_eq_false (by omega)), o_of (idxs_pk h4), o_of (e34 (i + 1))]
              have p58 : ∀ c : Bool, c = (decide (pk s (i + 1) = 34) || decide (pk s (i + 1) = 92)) → p33_58 (callN E n) n (fun x0 x6 x7 h => l33_8 (callN E n) n m x0 x6 x7 h K) (.str s) v (.int .i64 ((i + 1 : Nat) : Int)) (.int .u8 (pk s (i + 1) : Int)) (.bool c) h K = true := by
                intro c hc
                unfold p33_58
                cases c with
                | true =>
                  rw [condB_true, o_of (idxs_pk h4)]
                  have he : esc (pk s (i + 1)) = some (pk s (i + 1)) := by
                    unfold esc
                    by_cases q1 : pk s (i + 1) = 34
                    · rw [if_pos q1, q1]
                    · rw [if_neg q1]
                      have q2 : pk s (i + 1) = 92 := by
                        rw [decide_eq_false q1, Bool.false_or] at hc
                        exact of_decide_eq_true hc.symm
                      rw [if_pos q2, q2]
                  rw [he] at k
                  exact more (i + 1) _ (by omega) h4 (pk_byte hb _) (cont _ _ _ 2 rfl k)
                | false =>
                  have q1 : pk s (i + 1) ≠ 34 := fun q => by rw [q] at hc; simp at hc
                  have q2 : pk s (i + 1) ≠ 92 := fun q => by rw [q] at hc; simp at hc
                  have he : esc (pk s (i + 1)) = if pk s (i + 1) = 110 then some 10 else if pk s (i + 1) = 116 then some 9 else none := by
                    unfold esc; rw [if_neg q1, if_neg q2]
                  rw [he] at k
                  rw [condB_false, o_of (e110 (i + 1))]
                  by_cases q3 : pk s (i + 1) = 110
                  · rw [if_pos q3] at k
                    rw [condB_t (decide_eq_true q3)]
                    exact more (i + 1) 10 (by omega) h4 (by decide) (cont _ _ _ 2 rfl k)
                  · rw [if_neg q3] at k
                    rw [condB_f (decide_eq_false q3), o_of (e116 (i + 1))]
                    by_cases q4 : pk s (i + 1) = 116
                    · rw [if_pos q4] at k
                      rw [condB_t (decide_eq_true q4)]
                      exact more (i + 1) 9 (by omega) h4 (by decide) (cont _ _ _ 2 rfl k)
                    · rw [if_neg q4] at k
                      rw [condB_f (decide_eq_false q4)]
                      exact k h e0 ho
              cases q1 : decide (pk s (i + 1) = 34) with
              | true => rw [condB_true]; exact p58 true (by rw [q1]; rfl)
              | false => rw [condB_false, o_of (e92 (i + 1))]; exact p58 _ (by rw [q1]; rfl)
            · rw [condB_t (decide_eq_true (by omega))]
              rw [pk_ge (show s.length ≤ i + 1 by omega)] at k
              exact k h e0 ho
          · rw [if_neg h2, if_neg h3] at k
            rw [condB_f (decide_eq_false h2)]
            exact more i _ (Nat.le_refl _) hlt (pk_byte hb _) (cont _ _ _ 1 rfl k)
    · rw [condB_f (decide_eq_false (by omega))]
      rw [List.drop_of_length_le (by omega)] at k
      exact k h e0 ho

theorem c33 {n a : Nat} {s : Str} {h : AHeap} {K : Kont} (ho : h.Ok) (hL : 2 * s.length + 4 < most) (hb : ∀ b ∈ s, b < 256) (hn : s.length + 2 < n) (ha : a ≤ s.length)
    (k : ∀ h', Ext h h' → h'.Ok → K (refQ [] (a + 1) (quo (s.drop (a + 1)))) h' = true) : callN E (n + 1) (.func 33) [.str s, .int .i64 (a : Int)] h K = true := by
  have hlim : most < lim := by decide
  apply d33
  unfold s33
  have n1 : binA .add (.int .i64 (a : Int)) (AV.int .i64 1) = some (.int .i64 ((a + 1 : Nat) : Int)) := lit64 1 (by omega)
  rw [o_of n1]
  exact l33 ho hL hb n (a + 1) [] .nilSlc h ho (Ext.refl _) (Own.nil _ _ _) (fun _ h => by cases h) (by simp) (by omega) (by omega) k
end Go.Proofs.Ytajjclkdggoobaa
