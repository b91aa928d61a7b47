/-
  The document's answer: all lexemes of a text, walked.
-/
import Derived.Test.YtajjclkdggoobaaN6
namespace Go.Proofs.Ytajjclkdggoobaa
open Go.Ab
set_option linter.unusedSimpArgs false
set_option linter.unusedVariables false

def preL (acc : List Lx) : Except Nat (List Lx) → Except Nat (List Lx)
  | .ok l => .ok (acc ++ l)
  | .error e => .error e

theorem l17 {n : Nat} {s : Str} {h0 : AHeap} {K : Kont} (ho0 : h0.Ok) (hL : 2 * s.length + 4 < most) (hb : ∀ b ∈ s, b < 256) (hn : s.length + 1010 < n) :
    ∀ (m a f : Nat) (acc : List Lx) (v : AV) (h : AHeap), h.Ok → Ext h0 h → Own h0.sz h 4 v (acc.map encL) → a ≤ s.length → s.length - a < m → s.length - a < f → acc.length ≤ 4096 →
      (∀ u h', Ext h0 h' → h'.Ok → ansL h' u (preL acc (lexF f s a acc.length)) → K u h' = true) →
      l17_8 (callN E (n + 3)) (n + 3) m (.str s) v (.int .i64 ((a + skip false (s.drop a) : Nat) : Int)) h K = true := by
  have hlim : most < lim := by decide
  have hm : most = 1099511627776 := rfl
  intro m
  induction m with
  | zero => intro a f acc v h _ _ _ _ hm; omega
  | succ m ih =>
    intro a f acc v h ho e0 O ha hm' hf hacc k
    obtain ⟨f, rfl⟩ : ∃ j, f = j + 1 := ⟨f - 1, by omega⟩
    simp only [lexF] at k
    have hsk : a + skip false (s.drop a) ≤ s.length := by
      have := skip_le false (s.drop a)
      simp only [List.length_drop] at this
      omega
    have hab : a ≤ a + skip false (s.drop a) := Nat.le_add_right _ _
    generalize a + skip false (s.drop a) = b at *
    unfold l17_8 b17_8
    rw [o_slen, o_lss]
    by_cases hend : s.length ≤ b
    · rw [condB_f (decide_eq_false (by omega))]
      rw [if_pos hend] at k
      refine k _ h e0 ho ⟨v, rfl, ?_⟩
      rw [List.append_nil]
      exact O.view
    · have hbl : b < s.length := by omega
      rw [condB_t (decide_eq_true (by omega))]
      rw [if_neg hend] at k
      refine c24 (n := n) ho hL hb hbl hn ⟨?_, ?_⟩
      · intro kd t mm h2 hN e2 o2
        obtain ⟨hm0, hml⟩ := next_le hN
        simp only [List.length_drop] at hml
        simp only [hN] at k
        have hl : allLeaf (AV.agg (encL ⟨kd, t, b, b + mm⟩)).cells = true := rfl
        show (optP _ _) = true
        rw [alloc_set (n := 4) rfl (by decide) rfl rfl hl]
        have hc : (AV.agg (encL ⟨kd, t, b, b + mm⟩)).cells = encL ⟨kd, t, b, b + mm⟩ := rfl
        rw [hc]
        have e3 := ext_newRow o2 [encL ⟨kd, t, b, b + mm⟩] 4
        have o3 := ok_newRow o2 [encL ⟨kd, t, b, b + mm⟩] 4
        have V3 := var_new h2 (encL ⟨kd, t, b, b + mm⟩)
        simp only [show (encL ⟨kd, t, b, b + mm⟩).length = 4 from rfl] at V3
        generalize Ab.newRow h2 [encL ⟨kd, t, b, b + mm⟩] 4 = h3 at *
        have O3 := (O.ext e2).ext e3
        have hsz := e0.1
        have hsz2 := e2.1
        have hsz3 := e3.1
        have L3 : loadA h3 false 1 (.ptr h2.sz 0 0 3) = some (.int .i64 ((b + mm : Nat) : Int)) := by rw [V3.load]; rfl
        rw [o_fadr0, o_of L3, o_leq]
        rw [show decide (((b + mm : Nat) : Int) ≤ (b : Int)) = false from decide_eq_false (by omega)]
        rw [g_ff, o_some, g_ff, o_of O3.view.len, g_ff, o_eql, k_f, List.length_map]
        by_cases hfull : 4096 ≤ acc.length
        · rw [if_pos hfull] at k
          rw [condB_t (decide_eq_true (by omega))]
          exact k _ h3 ((e0.trans e2).trans e3) o3 rfl
        · rw [if_neg hfull] at k
          rw [condB_f (decide_eq_false (by omega))]
          have LA : loadA h3 true 4 (.ptr h2.sz 0 0 0) = some (.agg (encL ⟨kd, t, b, b + mm⟩)) := by rw [V3.load]; rfl
          rw [o_of LA]
          obtain ⟨u, g1, W⟩ := bslice_view (h := h3) (n := 1) (sz := 4) (z := [AV.int .i64 0, .str [], .int .i64 0, .int .i64 0]) (ps := [(0, .agg (encL ⟨kd, t, b, b + mm⟩))]) (es := [encL ⟨kd, t, b, b + mm⟩]) rfl (by decide) (by decide) rfl rfl rfl
          rw [p_of g1]
          have e4 := ext_newRow o3 [encL ⟨kd, t, b, b + mm⟩] 4
          have o4 := ok_newRow o3 [encL ⟨kd, t, b, b + mm⟩] 4
          have L4 : loadA (Ab.newRow h3 [encL ⟨kd, t, b, b + mm⟩] 4) false 1 (.ptr h2.sz 0 0 3) = some (.int .i64 ((b + mm : Nat) : Int)) := by rw [(V3.ext e4).load]; rfl
          have V4 := V3.ext e4
          have hsz4 := e4.1
          have O4 := O3.ext e4
          have E4 := ((e0.trans e2).trans e3).trans e4
          generalize Ab.newRow h3 [encL ⟨kd, t, b, b + mm⟩] 4 = h4 at *
          have hz2 : h2.sz < h4.sz := V4.lt o4
          obtain ⟨v', h5, a1, a2, a3, a4, a5, a6, _⟩ := O4.app (bytes := 40) (by decide) (by omega) o4 ho0 E4 (Nat.le_refl _) W.src (by simp only [List.length_map, List.length_cons, List.length_nil]; omega) (by simp only [List.length_map, List.length_cons, List.length_nil]; omega)
          rw [p_of a1]
          have L5 : loadA h5 false 1 (.ptr h2.sz 0 0 3) = some (.int .i64 ((b + mm : Nat) : Int)) := by
            have : Var h5 h2.sz (encL ⟨kd, t, b, b + mm⟩) := by
              have V' : h4.row h2.sz = some (VRow (encL ⟨kd, t, b, b + mm⟩)) := V4
              show h5.row h2.sz = _
              rw [AHeap.row_some] at V' ⊢
              refine a6 _ _ V' ?_
              intro id g st l c ex hv
              rcases O with ⟨rfl, _⟩ | ⟨i', r, q1, q2, q3, _⟩
              · cases hv
              · rw [q2] at hv; cases hv
                have q3' := q3
                rw [AHeap.row_some] at q3'
                have := ho.lt q3'
                omega
            rw [this.load]; rfl
          rw [o_fadr0, o_of L5]
          refine c23 (n := n + 2) (by omega) (by omega) (by omega) ?_
          have hen : acc.map encL ++ [encL ⟨kd, t, b, b + mm⟩] = (acc ++ [(⟨kd, t, b, b + mm⟩ : Lx)]).map encL := by rw [List.map_append]; rfl
          rw [hen] at a2
          refine ih (b + mm) f (acc ++ [(⟨kd, t, b, b + mm⟩ : Lx)]) v' h5 a3 a4 a2 (by omega) (by omega) (by omega) (by simp only [List.length_append, List.length_cons, List.length_nil]; omega) fun w h' e' o' hw => ?_
          refine k w h' e' o' ?_
          rw [List.length_append] at hw
          simp only [List.length_cons, List.length_nil, Nat.zero_add] at hw
          cases hr : lexF f s (b + mm) (acc.length + 1) with
          | error e => rw [hr] at hw; exact hw
          | ok l =>
            rw [hr] at hw
            simp only [preL, List.append_assoc, List.cons_append, List.nil_append] at hw ⊢
            exact hw
      · intro hN kd t e h2 he e2 o2
        simp only [hN] at k
        have hl : allLeaf (AV.agg [AV.int .i64 (kd : Int), .str t, .int .i64 (b : Int), .int .i64 e]).cells = true := rfl
        show (optP _ _) = true
        rw [alloc_set (n := 4) rfl (by decide) rfl rfl hl]
        have hc : (AV.agg [AV.int .i64 (kd : Int), .str t, .int .i64 (b : Int), .int .i64 e]).cells = [AV.int .i64 (kd : Int), .str t, .int .i64 (b : Int), .int .i64 e] := rfl
        rw [hc]
        have e3 := ext_newRow o2 [[AV.int .i64 (kd : Int), .str t, .int .i64 (b : Int), .int .i64 e]] 4
        have o3 := ok_newRow o2 [[AV.int .i64 (kd : Int), .str t, .int .i64 (b : Int), .int .i64 e]] 4
        have V3 := var_new h2 [AV.int .i64 (kd : Int), .str t, .int .i64 (b : Int), .int .i64 e]
        simp only [List.length_cons, List.length_nil, Nat.zero_add] at V3
        generalize Ab.newRow h2 [[AV.int .i64 (kd : Int), .str t, .int .i64 (b : Int), .int .i64 e]] 4 = h3 at *
        have L3 : loadA h3 false 1 (.ptr h2.sz 0 0 3) = some (.int .i64 e) := by rw [V3.load]; rfl
        rw [o_fadr0, o_of L3, o_leq]
        rw [show decide (e ≤ (b : Int)) = true from decide_eq_true he]
        rw [g_tf, g_tf, g_tf, k_t, condB_true]
        exact k _ h3 ((e0.trans e2).trans e3) o3 rfl

theorem c17 {n : Nat} {s : Str} {h : AHeap} {K : Kont} (ho : h.Ok) (hL : 2 * s.length + 4 < most) (hb : ∀ b ∈ s, b < 256) (hn : s.length + 1010 < n)
    (k : ∀ u h', Ext h h' → h'.Ok → ansL h' u (lexS s) → K u h' = true) : callN E (n + 4) (.func 17) [.str s] h K = true := by
  have hlim : most < lim := by decide
  apply d17
  unfold s17
  refine c23 (a := 0) (n := n + 2) (by omega) (by omega) (by omega) ?_
  refine l17 ho hL hb hn (n + 3) 0 (s.length + 1) [] .nilSlc h ho (Ext.refl _) (Own.nil _ _ _) (by omega) (by omega) (by omega) (by simp) fun u h' e' o' a => ?_
  refine k u h' e' o' ?_
  have : preL [] (lexF (s.length + 1) s 0 ([] : List Lx).length) = lexS s := by
    show preL [] (lexS s) = lexS s
    cases lexS s <;> rfl
  rw [this] at a
  exact a

theorem c9 {n : Nat} {s : Str} {h : AHeap} {K : Kont} (ho : h.Ok) (hb : ∀ b ∈ s, b < 256) (hn : s.length ≤ 65536 → s.length + 1010 < n)
    (k : ∀ v h', Ext h h' → h'.Ok → ans8 h' v s → K v h' = true) : callN E (n + 5) (.func 9) [.str s] h K = true := by
  have hm : most = 1099511627776 := rfl
  apply d9
  unfold s9
  rw [o_slen, o_gtr]
  by_cases hlt : 65536 < s.length
  · rw [condB_t (decide_eq_true (by omega))]
    exact k _ h (Ext.refl _) ho (by unfold ans8; rw [if_pos hlt])
  · rw [condB_f (decide_eq_false (by omega))]
    refine c17 ho (by omega) hb (hn (by omega)) fun v h' e' o' a => ?_
    obtain ⟨x, y, z, rfl⟩ := ans_tup a
    show (optB _ _) = true
    rw [o_ext0, o_ext1, o_ext2]
    exact k _ h' e' o' (by unfold ans8; rw [if_neg hlt]; exact a)
end Go.Proofs.Ytajjclkdggoobaa
