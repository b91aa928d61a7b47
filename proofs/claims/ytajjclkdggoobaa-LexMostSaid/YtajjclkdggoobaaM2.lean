/-
  LexJoins, walked.
-/
import Derived.Test.YtajjclkdggoobaaM1
namespace Go.Proofs.Ytajjclkdggoobaa
open Go.Ab
set_option linter.unusedSimpArgs false
set_option linter.unusedVariables false

theorem ans_small {h : AHeap} {v : AV} {s : Str} (a : ans8 h v s) (hs : s.length ≤ 65536) : ansL h v (lexS s) := by
  unfold ans8 at a
  rw [if_neg (by omega)] at a
  exact a

theorem sadd' {a b : Str} (h : a.length + b.length ≤ most) : binA .add (.str a) (.str b) = some (.str (a ++ b)) := by
  simp only [binA, strOp, nble_true.2 h, cond_true]
theorem o_nei (a b : Nat) (k : AV → Bool) : optB (binA .neq (.int .i64 (a : Int)) (.int .i64 (b : Int))) k = k (.bool (!decide (a = b))) := by
  rw [binA_neq, show decide ((a : Int) = (b : Int)) = decide (a = b) from decide_eq_decide.2 (by omega)]; rfl
theorem o_nes (a : Str) (k : AV → Bool) : optB (binA .neq (.str a) (.str a)) k = k (.bool false) := by
  rw [binA_sneq]; simp

/-- The second's lexemes are those behind the first's, moved. -/
theorem l68 {n : Nat} {h : AHeap} {s : Str} {x0 x3 u v w : AV} {la lb : List Lx} {B6 : AV → AV → AHeap → Bool} {K : Kont} (U : View h 4 u (la.map encL)) (V : View h 4 v (lb.map encL)) (W : View h 4 w ((la ++ lb.map (mvL (s.length + 1))).map encL))
    (hl : la.length + lb.length < 3000) (hs : s.length < 3000) (hy : ∀ y ∈ lb, y.beg < 3000) (k : p6_85 (callN E n) n B6 x0 x3 h K = true) :
    ∀ (m j : Nat), j ≤ lb.length → lb.length - j < m → l6_68 (callN E n) n B6 m x0 x3 (.str s) u v w (.int .i64 (j : Int)) h K = true := by
  have hlim : 10000 < lim := by decide
  intro m
  induction m with
  | zero => intro j _ hm; omega
  | succ m ih =>
    intro j hj hm
    unfold l6_68 b6_68
    rw [o_of V.len, o_lss, List.length_map]
    by_cases hlt : j < lb.length
    · rw [condB_t (decide_eq_true (by omega))]
      have hyj : lb[j]? = some (lb[j]'hlt) := List.getElem?_eq_getElem hlt
      have hmem := List.getElem_mem hlt
      generalize lb[j]'hlt = y at *
      obtain ⟨i1, g1, j1, p1, q1⟩ := V.at (i := j) (e := encL y) (by rw [List.getElem?_map, hyj]; rfl)
      obtain ⟨i2, g2, j2, p2, q2⟩ := W.at (i := la.length + j) (e := encL (mvL (s.length + 1) y)) (by
        rw [List.getElem?_map, List.getElem?_append_right (by omega), show la.length + j - la.length = j by omega, List.getElem?_map, hyj]; rfl)
      have hyb := hy y hmem
      have lu : lenA h 1 u = some (.int .i64 (la.length : Int)) := by rw [U.len, List.length_map]
      have a1 : loadA h false 1 (.ptr i2 g2 j2 2) = some (.int .i64 ((y.beg + (s.length + 1) : Nat) : Int)) := by rw [q2]; rfl
      have a2 : loadA h false 1 (.ptr i1 g1 j1 2) = some (.int .i64 (y.beg : Int)) := by rw [q1]; rfl
      have a3 : loadA h false 1 (.ptr i2 g2 j2 1) = some (.str y.text) := by rw [q2]; rfl
      have a4 : loadA h false 1 (.ptr i1 g1 j1 1) = some (.str y.text) := by rw [q1]; rfl
      have a5 : loadA h false 1 (.ptr i2 g2 j2 0) = some (.int .i64 (y.kind : Int)) := by rw [q2]; rfl
      have a6 : loadA h false 1 (.ptr i1 g1 j1 0) = some (.int .i64 (y.kind : Int)) := by rw [q1]; rfl
      have n1 : binA .add (.int .i64 (la.length : Int)) (.int .i64 (j : Int)) = some (.int .i64 ((la.length + j : Nat) : Int)) := nat64 (by omega)
      have n2 : binA .add (.int .i64 (y.beg : Int)) (.int .i64 (s.length : Int)) = some (.int .i64 ((y.beg + s.length : Nat) : Int)) := nat64 (by omega)
      have n3 : binA .add (.int .i64 ((y.beg + s.length : Nat) : Int)) (AV.int .i64 1) = some (.int .i64 ((y.beg + (s.length + 1) : Nat) : Int)) := lit64 1 (by omega)
      rw [o_of lu, o_of n1, o_of (p2 _), o_fadr0, o_of a1, o_of (p1 _), o_fadr0, o_of a2, o_slen, o_of n2, o_of n3, o_nei, decide_eq_true rfl]
      simp only [Bool.not_true]
      repeat first | rw [o_some] | rw [o_nilck] | rw [o_fadr0] | rw [o_slen] | rw [g_tt] | rw [g_ft] | rw [g_ff] | rw [g_tf] | rw [gc_tt] | rw [gc_ft] | rw [gc_ff] | rw [gc_tf] | rw [k_t] | rw [k_f] | rw [condB_true] | rw [condB_false] | rw [o_lss] | rw [o_geq] | rw [o_gtr] | rw [o_leq] | rw [o_not] | rw [o_ext0] | rw [o_ext1] | rw [gp_tt] | rw [gp_ft] | rw [gp_ff] | rw [gp_tf]
      rw [o_of lu]
      repeat first | rw [o_some] | rw [o_nilck] | rw [o_fadr0] | rw [o_slen] | rw [g_tt] | rw [g_ft] | rw [g_ff] | rw [g_tf] | rw [gc_tt] | rw [gc_ft] | rw [gc_ff] | rw [gc_tf] | rw [k_t] | rw [k_f] | rw [condB_true] | rw [condB_false] | rw [o_lss] | rw [o_geq] | rw [o_gtr] | rw [o_leq] | rw [o_not] | rw [o_ext0] | rw [o_ext1] | rw [gp_tt] | rw [gp_ft] | rw [gp_ff] | rw [gp_tf]
      rw [o_of n1]
      repeat first | rw [o_some] | rw [o_nilck] | rw [o_fadr0] | rw [o_slen] | rw [g_tt] | rw [g_ft] | rw [g_ff] | rw [g_tf] | rw [gc_tt] | rw [gc_ft] | rw [gc_ff] | rw [gc_tf] | rw [k_t] | rw [k_f] | rw [condB_true] | rw [condB_false] | rw [o_lss] | rw [o_geq] | rw [o_gtr] | rw [o_leq] | rw [o_not] | rw [o_ext0] | rw [o_ext1] | rw [gp_tt] | rw [gp_ft] | rw [gp_ff] | rw [gp_tf]
      rw [o_of (p2 _)]
      repeat first | rw [o_some] | rw [o_nilck] | rw [o_fadr0] | rw [o_slen] | rw [g_tt] | rw [g_ft] | rw [g_ff] | rw [g_tf] | rw [gc_tt] | rw [gc_ft] | rw [gc_ff] | rw [gc_tf] | rw [k_t] | rw [k_f] | rw [condB_true] | rw [condB_false] | rw [o_lss] | rw [o_geq] | rw [o_gtr] | rw [o_leq] | rw [o_not] | rw [o_ext0] | rw [o_ext1] | rw [gp_tt] | rw [gp_ft] | rw [gp_ff] | rw [gp_tf]
      rw [o_of a3]
      repeat first | rw [o_some] | rw [o_nilck] | rw [o_fadr0] | rw [o_slen] | rw [g_tt] | rw [g_ft] | rw [g_ff] | rw [g_tf] | rw [gc_tt] | rw [gc_ft] | rw [gc_ff] | rw [gc_tf] | rw [k_t] | rw [k_f] | rw [condB_true] | rw [condB_false] | rw [o_lss] | rw [o_geq] | rw [o_gtr] | rw [o_leq] | rw [o_not] | rw [o_ext0] | rw [o_ext1] | rw [gp_tt] | rw [gp_ft] | rw [gp_ff] | rw [gp_tf]
      rw [o_of (p1 _)]
      repeat first | rw [o_some] | rw [o_nilck] | rw [o_fadr0] | rw [o_slen] | rw [g_tt] | rw [g_ft] | rw [g_ff] | rw [g_tf] | rw [gc_tt] | rw [gc_ft] | rw [gc_ff] | rw [gc_tf] | rw [k_t] | rw [k_f] | rw [condB_true] | rw [condB_false] | rw [o_lss] | rw [o_geq] | rw [o_gtr] | rw [o_leq] | rw [o_not] | rw [o_ext0] | rw [o_ext1] | rw [gp_tt] | rw [gp_ft] | rw [gp_ff] | rw [gp_tf]
      rw [o_of a4]
      repeat first | rw [o_some] | rw [o_nilck] | rw [o_fadr0] | rw [o_slen] | rw [g_tt] | rw [g_ft] | rw [g_ff] | rw [g_tf] | rw [gc_tt] | rw [gc_ft] | rw [gc_ff] | rw [gc_tf] | rw [k_t] | rw [k_f] | rw [condB_true] | rw [condB_false] | rw [o_lss] | rw [o_geq] | rw [o_gtr] | rw [o_leq] | rw [o_not] | rw [o_ext0] | rw [o_ext1] | rw [gp_tt] | rw [gp_ft] | rw [gp_ff] | rw [gp_tf]
      rw [o_nes]
      repeat first | rw [o_some] | rw [o_nilck] | rw [o_fadr0] | rw [o_slen] | rw [g_tt] | rw [g_ft] | rw [g_ff] | rw [g_tf] | rw [gc_tt] | rw [gc_ft] | rw [gc_ff] | rw [gc_tf] | rw [k_t] | rw [k_f] | rw [condB_true] | rw [condB_false] | rw [o_lss] | rw [o_geq] | rw [o_gtr] | rw [o_leq] | rw [o_not] | rw [o_ext0] | rw [o_ext1] | rw [gp_tt] | rw [gp_ft] | rw [gp_ff] | rw [gp_tf]
      rw [o_of lu]
      repeat first | rw [o_some] | rw [o_nilck] | rw [o_fadr0] | rw [o_slen] | rw [g_tt] | rw [g_ft] | rw [g_ff] | rw [g_tf] | rw [gc_tt] | rw [gc_ft] | rw [gc_ff] | rw [gc_tf] | rw [k_t] | rw [k_f] | rw [condB_true] | rw [condB_false] | rw [o_lss] | rw [o_geq] | rw [o_gtr] | rw [o_leq] | rw [o_not] | rw [o_ext0] | rw [o_ext1] | rw [gp_tt] | rw [gp_ft] | rw [gp_ff] | rw [gp_tf]
      rw [o_of n1]
      repeat first | rw [o_some] | rw [o_nilck] | rw [o_fadr0] | rw [o_slen] | rw [g_tt] | rw [g_ft] | rw [g_ff] | rw [g_tf] | rw [gc_tt] | rw [gc_ft] | rw [gc_ff] | rw [gc_tf] | rw [k_t] | rw [k_f] | rw [condB_true] | rw [condB_false] | rw [o_lss] | rw [o_geq] | rw [o_gtr] | rw [o_leq] | rw [o_not] | rw [o_ext0] | rw [o_ext1] | rw [gp_tt] | rw [gp_ft] | rw [gp_ff] | rw [gp_tf]
      rw [o_of (p2 _)]
      repeat first | rw [o_some] | rw [o_nilck] | rw [o_fadr0] | rw [o_slen] | rw [g_tt] | rw [g_ft] | rw [g_ff] | rw [g_tf] | rw [gc_tt] | rw [gc_ft] | rw [gc_ff] | rw [gc_tf] | rw [k_t] | rw [k_f] | rw [condB_true] | rw [condB_false] | rw [o_lss] | rw [o_geq] | rw [o_gtr] | rw [o_leq] | rw [o_not] | rw [o_ext0] | rw [o_ext1] | rw [gp_tt] | rw [gp_ft] | rw [gp_ff] | rw [gp_tf]
      rw [o_of a5]
      repeat first | rw [o_some] | rw [o_nilck] | rw [o_fadr0] | rw [o_slen] | rw [g_tt] | rw [g_ft] | rw [g_ff] | rw [g_tf] | rw [gc_tt] | rw [gc_ft] | rw [gc_ff] | rw [gc_tf] | rw [k_t] | rw [k_f] | rw [condB_true] | rw [condB_false] | rw [o_lss] | rw [o_geq] | rw [o_gtr] | rw [o_leq] | rw [o_not] | rw [o_ext0] | rw [o_ext1] | rw [gp_tt] | rw [gp_ft] | rw [gp_ff] | rw [gp_tf]
      rw [o_of (p1 _)]
      repeat first | rw [o_some] | rw [o_nilck] | rw [o_fadr0] | rw [o_slen] | rw [g_tt] | rw [g_ft] | rw [g_ff] | rw [g_tf] | rw [gc_tt] | rw [gc_ft] | rw [gc_ff] | rw [gc_tf] | rw [k_t] | rw [k_f] | rw [condB_true] | rw [condB_false] | rw [o_lss] | rw [o_geq] | rw [o_gtr] | rw [o_leq] | rw [o_not] | rw [o_ext0] | rw [o_ext1] | rw [gp_tt] | rw [gp_ft] | rw [gp_ff] | rw [gp_tf]
      rw [o_of a6]
      repeat first | rw [o_some] | rw [o_nilck] | rw [o_fadr0] | rw [o_slen] | rw [g_tt] | rw [g_ft] | rw [g_ff] | rw [g_tf] | rw [gc_tt] | rw [gc_ft] | rw [gc_ff] | rw [gc_tf] | rw [k_t] | rw [k_f] | rw [condB_true] | rw [condB_false] | rw [o_lss] | rw [o_geq] | rw [o_gtr] | rw [o_leq] | rw [o_not] | rw [o_ext0] | rw [o_ext1] | rw [gp_tt] | rw [gp_ft] | rw [gp_ff] | rw [gp_tf]
      rw [o_nei, decide_eq_true rfl]
      simp only [Bool.not_true]
      repeat first | rw [o_some] | rw [o_nilck] | rw [o_fadr0] | rw [o_slen] | rw [g_tt] | rw [g_ft] | rw [g_ff] | rw [g_tf] | rw [gc_tt] | rw [gc_ft] | rw [gc_ff] | rw [gc_tf] | rw [k_t] | rw [k_f] | rw [condB_true] | rw [condB_false] | rw [o_lss] | rw [o_geq] | rw [o_gtr] | rw [o_leq] | rw [o_not] | rw [o_ext0] | rw [o_ext1] | rw [gp_tt] | rw [gp_ft] | rw [gp_ff] | rw [gp_tf]
      rw [o_of (inc64 (show j < lim by omega))]
      exact ih (j + 1) (by omega) (by omega)
    · rw [condB_f (decide_eq_false (by omega))]
      exact k

/-- A lexeme begins within its text. -/
theorem lexL_beg : ∀ (f p : Nat) (l : Str) (r : List Lx), lexL f p l = .ok r → r.length ≤ l.length ∧ ∀ y ∈ r, p ≤ y.beg ∧ y.beg < y.fin ∧ y.fin ≤ p + l.length
  | 0, _, _, _, h => by cases h; exact ⟨by simp, fun _ h => by cases h⟩
  | f + 1, p, l, r, h => by
    simp only [lexL] at h
    by_cases hend : l.length ≤ skip false l
    · rw [if_pos hend] at h; cases h; exact ⟨by simp, fun _ h => by cases h⟩
    · rw [if_neg hend] at h
      cases hn : nextS (l.drop (skip false l)) with
      | none => rw [hn] at h; cases h
      | some q =>
        obtain ⟨kd, t, m⟩ := q
        have hm := next_le hn
        simp only [List.length_drop] at hm
        rw [hn] at h
        simp only at h
        cases hr : lexL f (p + skip false l + m) (l.drop (skip false l + m)) with
        | error e => rw [hr] at h; cases h
        | ok r' =>
          rw [hr] at h
          have ih := lexL_beg f _ _ r' hr
          simp only [List.length_drop] at ih
          cases h
          refine ⟨by simp only [List.length_cons]; omega, fun y hy => ?_⟩
          rcases List.mem_cons.1 hy with rfl | hy
          · exact ⟨by simp only; omega, by simp only; omega, by simp only; omega⟩
          · have := ih.2 y hy
            omega

theorem lexL_err : ∀ (f p : Nat) (l : Str) (e : Nat), lexL f p l = .error e → p ≤ e ∧ e < p + l.length
  | 0, _, _, _, h => by cases h
  | f + 1, p, l, e, h => by
    simp only [lexL] at h
    by_cases hend : l.length ≤ skip false l
    · rw [if_pos hend] at h; cases h
    · rw [if_neg hend] at h
      cases hn : nextS (l.drop (skip false l)) with
      | none => rw [hn] at h; cases h; omega
      | some q =>
        obtain ⟨kd, t, m⟩ := q
        have hm := next_le hn
        simp only [List.length_drop] at hm
        rw [hn] at h
        simp only at h
        cases hr : lexL f (p + skip false l + m) (l.drop (skip false l + m)) with
        | ok r' => rw [hr] at h; cases h
        | error e' =>
          rw [hr] at h
          have ih := lexL_err f _ _ e' hr
          simp only [List.length_drop] at ih
          cases h
          omega

theorem p6 {n : Nat} {h : AHeap} {a b : Str} {x0 x3 : AV} {B6 : AV → AV → AHeap → Bool} {K : Kont} (ho : h.Ok) (ha : ∀ c ∈ a, c < 256) (hb : ∀ c ∈ b, c < 256) (hs : a.length + b.length ≤ 2000) (hn : 5000 < n)
    (kB : ∀ h', Ext h h' → h'.Ok → p6_85 (callN E (n + 9)) (n + 9) B6 x0 x3 h' K = true) : p6_23 (callN E (n + 9)) (n + 9) B6 x0 x3 (.str a) (.str b) h K = true := by
  have hm : most = 1099511627776 := rfl
  have hlim : 10000 < lim := by decide
  unfold p6_23
  refine c8 (n := n) ho ha (fun _ => by omega) (by omega) fun v1 h1 e1 o1 A1 => ?_
  have A1 := ans_small A1 (by omega)
  obtain ⟨x1, y1, z1, rfl⟩ := ans_tup A1
  show (optB _ _) = true
  rw [o_ext0, o_ext1, o_ext2]
  refine c8 (n := n) o1 hb (fun _ => by omega) (by omega) fun v2 h2 e2 o2 A2 => ?_
  have A2 := ans_small A2 (by omega)
  obtain ⟨x2, y2, z2, rfl⟩ := ans_tup A2
  show (optB _ _) = true
  rw [o_ext0, o_ext1, o_ext2]
  rw [o_of (sadd' (b := [10]) (by simp only [List.length_cons, List.length_nil]; omega)), o_of (sadd' (a := a ++ [10]) (by simp only [List.length_append, List.length_cons, List.length_nil]; omega))]
  have hlw : (a ++ [10] ++ b).length = a.length + 1 + b.length := by simp; omega
  refine c8 (n := n) o2 (fun c hc => ?_) (fun _ => by omega) (by omega) fun v3 h3 e3 o3 A3 => ?_
  · simp only [List.mem_append, List.mem_singleton] at hc
    rcases hc with (hc | hc) | hc
    · exact ha c hc
    · omega
    · exact hb c hc
  have A3 := ans_small A3 (by omega)
  obtain ⟨x4, y4, z4, rfl⟩ := ans_tup A3
  show (optB _ _) = true
  rw [o_ext0, o_ext1, o_ext2]
  rw [lex_join hs] at A3
  have E3 : Ext h h3 := e1.trans (e2.trans e3)
  cases hA : lexS a with
  | error ea =>
    rw [hA] at A1 A3
    have A1' : AV.tup [x1, y1, z1] = .tup [.nilSlc, .int .i64 (ea : Int), .int .i64 20] := A1
    have A3' : AV.tup [x4, y4, z4] = .tup [.nilSlc, .int .i64 (ea : Int), .int .i64 20] := A3
    cases A1'; cases A3'
    rw [o_of (show binA .neq (.int .i64 20) (AV.int .i64 0) = some (.bool true) from rfl), condB_true]
    rw [o_of (show binA .neq (.int .i64 20) (AV.int .i64 20) = some (.bool false) from rfl), condB_false]
    exact kB h3 E3 o3
  | ok la =>
    rw [hA] at A1 A3
    obtain ⟨u1, q1, U⟩ := A1
    cases q1
    rw [o_of (show binA .neq (.int .i64 0) (AV.int .i64 0) = some (.bool false) from rfl), condB_false]
    unfold p6_43
    have hA' := hA
    rw [lexS_eq (by omega)] at hA'
    have la1 := lexL_beg _ _ _ _ hA'
    cases hB : lexS b with
    | error eb =>
      rw [hB] at A2 A3
      have A2' : AV.tup [x2, y2, z2] = .tup [.nilSlc, .int .i64 (eb : Int), .int .i64 20] := A2
      have A3' : AV.tup [x4, y4, z4] = .tup [.nilSlc, .int .i64 ((a.length + 1 + eb : Nat) : Int), .int .i64 20] := A3
      cases A2'; cases A3'
      have hB' := hB
      rw [lexS_eq (by omega)] at hB'
      have lb1 := lexL_err _ _ _ _ hB'
      rw [o_of (show binA .neq (.int .i64 20) (AV.int .i64 0) = some (.bool true) from rfl), condB_true]
      rw [o_of (show binA .neq (.int .i64 20) (AV.int .i64 20) = some (.bool false) from rfl)]
      repeat first | rw [o_some] | rw [o_nilck] | rw [o_fadr0] | rw [o_slen] | rw [g_tt] | rw [g_ft] | rw [g_ff] | rw [g_tf] | rw [gc_tt] | rw [gc_ft] | rw [gc_ff] | rw [gc_tf] | rw [k_t] | rw [k_f] | rw [condB_true] | rw [condB_false] | rw [o_lss] | rw [o_geq] | rw [o_gtr] | rw [o_leq] | rw [o_not] | rw [o_ext0] | rw [o_ext1] | rw [gp_tt] | rw [gp_ft] | rw [gp_ff] | rw [gp_tf]
      have n1 : binA .add (.int .i64 (a.length : Int)) (AV.int .i64 1) = some (.int .i64 ((a.length + 1 : Nat) : Int)) := lit64 1 (by omega)
      rw [o_of n1]
      repeat first | rw [o_some] | rw [o_nilck] | rw [o_fadr0] | rw [o_slen] | rw [g_tt] | rw [g_ft] | rw [g_ff] | rw [g_tf] | rw [gc_tt] | rw [gc_ft] | rw [gc_ff] | rw [gc_tf] | rw [k_t] | rw [k_f] | rw [condB_true] | rw [condB_false] | rw [o_lss] | rw [o_geq] | rw [o_gtr] | rw [o_leq] | rw [o_not] | rw [o_ext0] | rw [o_ext1] | rw [gp_tt] | rw [gp_ft] | rw [gp_ff] | rw [gp_tf]
      rw [o_of (nat64 (show a.length + 1 + eb < lim by omega))]
      repeat first | rw [o_some] | rw [o_nilck] | rw [o_fadr0] | rw [o_slen] | rw [g_tt] | rw [g_ft] | rw [g_ff] | rw [g_tf] | rw [gc_tt] | rw [gc_ft] | rw [gc_ff] | rw [gc_tf] | rw [k_t] | rw [k_f] | rw [condB_true] | rw [condB_false] | rw [o_lss] | rw [o_geq] | rw [o_gtr] | rw [o_leq] | rw [o_not] | rw [o_ext0] | rw [o_ext1] | rw [gp_tt] | rw [gp_ft] | rw [gp_ff] | rw [gp_tf]
      rw [o_nei, decide_eq_true rfl]
      simp only [Bool.not_true]
      repeat first | rw [o_some] | rw [o_nilck] | rw [o_fadr0] | rw [o_slen] | rw [g_tt] | rw [g_ft] | rw [g_ff] | rw [g_tf] | rw [gc_tt] | rw [gc_ft] | rw [gc_ff] | rw [gc_tf] | rw [k_t] | rw [k_f] | rw [condB_true] | rw [condB_false] | rw [o_lss] | rw [o_geq] | rw [o_gtr] | rw [o_leq] | rw [o_not] | rw [o_ext0] | rw [o_ext1] | rw [gp_tt] | rw [gp_ft] | rw [gp_ff] | rw [gp_tf]
      exact kB h3 E3 o3
    | ok lb =>
      rw [hB] at A2 A3
      obtain ⟨u2, q2, V⟩ := A2
      cases q2
      obtain ⟨u3, q3, W⟩ := A3
      cases q3
      have hB' := hB
      rw [lexS_eq (by omega)] at hB'
      have lb1 := lexL_beg _ _ _ _ hB'
      have U3 := U.ext (e2.trans e3)
      have V3 := V.ext e3
      rw [o_of (show binA .neq (.int .i64 0) (AV.int .i64 0) = some (.bool false) from rfl), condB_false]
      unfold p6_57
      rw [o_of (show binA .neq (.int .i64 0) (AV.int .i64 0) = some (.bool false) from rfl)]
      repeat first | rw [o_some] | rw [o_nilck] | rw [o_fadr0] | rw [o_slen] | rw [g_tt] | rw [g_ft] | rw [g_ff] | rw [g_tf] | rw [gc_tt] | rw [gc_ft] | rw [gc_ff] | rw [gc_tf] | rw [k_t] | rw [k_f] | rw [condB_true] | rw [condB_false] | rw [o_lss] | rw [o_geq] | rw [o_gtr] | rw [o_leq] | rw [o_not] | rw [o_ext0] | rw [o_ext1] | rw [gp_tt] | rw [gp_ft] | rw [gp_ff] | rw [gp_tf]
      rw [o_of W.len]
      repeat first | rw [o_some] | rw [o_nilck] | rw [o_fadr0] | rw [o_slen] | rw [g_tt] | rw [g_ft] | rw [g_ff] | rw [g_tf] | rw [gc_tt] | rw [gc_ft] | rw [gc_ff] | rw [gc_tf] | rw [k_t] | rw [k_f] | rw [condB_true] | rw [condB_false] | rw [o_lss] | rw [o_geq] | rw [o_gtr] | rw [o_leq] | rw [o_not] | rw [o_ext0] | rw [o_ext1] | rw [gp_tt] | rw [gp_ft] | rw [gp_ff] | rw [gp_tf]
      rw [o_of U3.len]
      repeat first | rw [o_some] | rw [o_nilck] | rw [o_fadr0] | rw [o_slen] | rw [g_tt] | rw [g_ft] | rw [g_ff] | rw [g_tf] | rw [gc_tt] | rw [gc_ft] | rw [gc_ff] | rw [gc_tf] | rw [k_t] | rw [k_f] | rw [condB_true] | rw [condB_false] | rw [o_lss] | rw [o_geq] | rw [o_gtr] | rw [o_leq] | rw [o_not] | rw [o_ext0] | rw [o_ext1] | rw [gp_tt] | rw [gp_ft] | rw [gp_ff] | rw [gp_tf]
      rw [o_of V3.len]
      repeat first | rw [o_some] | rw [o_nilck] | rw [o_fadr0] | rw [o_slen] | rw [g_tt] | rw [g_ft] | rw [g_ff] | rw [g_tf] | rw [gc_tt] | rw [gc_ft] | rw [gc_ff] | rw [gc_tf] | rw [k_t] | rw [k_f] | rw [condB_true] | rw [condB_false] | rw [o_lss] | rw [o_geq] | rw [o_gtr] | rw [o_leq] | rw [o_not] | rw [o_ext0] | rw [o_ext1] | rw [gp_tt] | rw [gp_ft] | rw [gp_ff] | rw [gp_tf]
      simp only [List.length_map, List.length_append]
      rw [o_of (nat64 (show la.length + lb.length < lim by omega))]
      repeat first | rw [o_some] | rw [o_nilck] | rw [o_fadr0] | rw [o_slen] | rw [g_tt] | rw [g_ft] | rw [g_ff] | rw [g_tf] | rw [gc_tt] | rw [gc_ft] | rw [gc_ff] | rw [gc_tf] | rw [k_t] | rw [k_f] | rw [condB_true] | rw [condB_false] | rw [o_lss] | rw [o_geq] | rw [o_gtr] | rw [o_leq] | rw [o_not] | rw [o_ext0] | rw [o_ext1] | rw [gp_tt] | rw [gp_ft] | rw [gp_ff] | rw [gp_tf]
      rw [o_nei, decide_eq_true rfl]
      simp only [Bool.not_true]
      repeat first | rw [o_some] | rw [o_nilck] | rw [o_fadr0] | rw [o_slen] | rw [g_tt] | rw [g_ft] | rw [g_ff] | rw [g_tf] | rw [gc_tt] | rw [gc_ft] | rw [gc_ff] | rw [gc_tf] | rw [k_t] | rw [k_f] | rw [condB_true] | rw [condB_false] | rw [o_lss] | rw [o_geq] | rw [o_gtr] | rw [o_leq] | rw [o_not] | rw [o_ext0] | rw [o_ext1] | rw [gp_tt] | rw [gp_ft] | rw [gp_ff] | rw [gp_tf]
      unfold p6_65
      exact l68 U3 V3 W (by omega) (by omega) (fun y hy => by have := lb1.2 y hy; omega) (kB h3 E3 o3) (n + 9) 0 (by omega) (by omega)

theorem l6 {n : Nat} {h0 : AHeap} {v : AV} {l : List Str} {K : Kont} (W : View h0 1 v (l.map fun s => [.str s])) (hb : ∀ s ∈ l, ∀ b ∈ s, b < 256) (hn : 5000 < n) (hlen : ∀ s ∈ l, s.length < 2305843009213693952) (k : ∀ h', Ext h0 h' → h'.Ok → K (.bool true) h' = true) :
    ∀ (m i : Nat) (h : AHeap), Ext h0 h → h.Ok → 1 ≤ i → i ≤ 8 → 8 - i < m → l6_6 (callN E (n + 10)) (n + 10) m v (.int .i64 (i : Int)) h K = true := by
  have hlim : lim = 4611686018427387904 := rfl
  intro m
  induction m with
  | zero => intro i h _ _ _ _ hm; omega
  | succ m ih =>
    intro i h e o hi1 hi hm
    unfold l6_6 b6_6
    have W' := W.ext e
    rw [o_of W'.len, o_lss, List.length_map]
    have fin : p6_86 (callN E (n + 10)) (n + 10) h K = true := by
      unfold p6_86
      exact c14 (n := n) o (by omega) fun h' e' o' => k h' (e.trans e') o'
    by_cases hlt : i < l.length
    · rw [show decide ((i : Int) < (l.length : Int)) = true from decide_eq_true (by omega)]
      repeat first | rw [o_some] | rw [o_nilck] | rw [o_fadr0] | rw [o_slen] | rw [g_tt] | rw [g_ft] | rw [g_ff] | rw [g_tf] | rw [gc_tt] | rw [gc_ft] | rw [gc_ff] | rw [gc_tf] | rw [k_t] | rw [k_f] | rw [condB_true] | rw [condB_false] | rw [o_lss] | rw [o_geq] | rw [o_gtr] | rw [o_leq] | rw [o_not] | rw [o_ext0] | rw [o_ext1] | rw [gp_tt] | rw [gp_ft] | rw [gp_ff] | rw [gp_tf]
      by_cases h8 : i < 8
      · rw [show decide ((i : Int) < 8) = true from decide_eq_true (by omega)]
        repeat first | rw [o_some] | rw [o_nilck] | rw [o_fadr0] | rw [o_slen] | rw [g_tt] | rw [g_ft] | rw [g_ff] | rw [g_tf] | rw [gc_tt] | rw [gc_ft] | rw [gc_ff] | rw [gc_tf] | rw [k_t] | rw [k_f] | rw [condB_true] | rw [condB_false] | rw [o_lss] | rw [o_geq] | rw [o_gtr] | rw [o_leq] | rw [o_not] | rw [o_ext0] | rw [o_ext1] | rw [gp_tt] | rw [gp_ft] | rw [gp_ff] | rw [gp_tf]
        unfold p6_13
        have hlt' : i - 1 < l.length := by omega
        have hs : l[i]? = some (l[i]'hlt) := List.getElem?_eq_getElem hlt
        have hs' : l[i - 1]? = some (l[i - 1]'hlt') := List.getElem?_eq_getElem hlt'
        have he : (l.map fun s => [AV.str s])[i]? = some [.str (l[i]'hlt)] := by rw [List.getElem?_map, hs]; rfl
        have he' : (l.map fun s => [AV.str s])[i - 1]? = some [.str (l[i - 1]'hlt')] := by rw [List.getElem?_map, hs']; rfl
        have hbs := hb _ (List.getElem_mem hlt)
        have hbs' := hb _ (List.getElem_mem hlt')
        have hls := hlen _ (List.getElem_mem hlt)
        have hls' := hlen _ (List.getElem_mem hlt')
        obtain ⟨id, g, j, p1, p2⟩ := W'.at he
        obtain ⟨id', g', j', p1', p2'⟩ := W'.at he'
        generalize l[i]'hlt = s at *
        generalize l[i - 1]'hlt' = s' at *
        have p3 : loadA h false 1 (.ptr id g j 0) = some (.str s) := by rw [p2]; rfl
        have p3' : loadA h false 1 (.ptr id' g' j' 0) = some (.str s') := by rw [p2']; rfl
        have n1 : binA .sub (.int .i64 (i : Int)) (AV.int .i64 1) = some (.int .i64 ((i - 1 : Nat) : Int)) := natsub64 hi1 (by omega)
        rw [o_of n1, o_of (p1' _), o_of p3', o_of (p1 _), o_of p3, o_slen, o_slen, o_of (nat64 (show s'.length + s.length < lim by omega)), o_gtr]
        have nx : ∀ h', Ext h h' → h'.Ok → p6_85 (callN E (n + 10)) (n + 10) (fun x0 x3 h => l6_6 (callN E (n + 10)) (n + 10) m x0 x3 h K) v (.int .i64 (i : Int)) h' K = true := by
          intro h' e' o'
          unfold p6_85
          rw [o_of (inc64 (show i < lim by omega))]
          exact ih (i + 1) h' (e.trans e') o' (by omega) (by omega) (by omega)
        by_cases hbig : 2000 < s'.length + s.length
        · rw [condB_t (decide_eq_true (by omega))]
          exact nx h (Ext.refl _) o
        · rw [condB_f (decide_eq_false (by omega))]
          exact p6 (n := n + 1) o hbs' hbs (by omega) (by omega) nx
      · rw [show decide ((i : Int) < 8) = false from decide_eq_false (by omega)]
        repeat first | rw [o_some] | rw [o_nilck] | rw [o_fadr0] | rw [o_slen] | rw [g_tt] | rw [g_ft] | rw [g_ff] | rw [g_tf] | rw [gc_tt] | rw [gc_ft] | rw [gc_ff] | rw [gc_tf] | rw [k_t] | rw [k_f] | rw [condB_true] | rw [condB_false] | rw [o_lss] | rw [o_geq] | rw [o_gtr] | rw [o_leq] | rw [o_not] | rw [o_ext0] | rw [o_ext1] | rw [gp_tt] | rw [gp_ft] | rw [gp_ff] | rw [gp_tf]
        exact fin
    · rw [show decide ((i : Int) < (l.length : Int)) = false from decide_eq_false (by omega)]
      repeat first | rw [o_some] | rw [o_nilck] | rw [o_fadr0] | rw [o_slen] | rw [g_tt] | rw [g_ft] | rw [g_ff] | rw [g_tf] | rw [gc_tt] | rw [gc_ft] | rw [gc_ff] | rw [gc_tf] | rw [k_t] | rw [k_f] | rw [condB_true] | rw [condB_false] | rw [o_lss] | rw [o_geq] | rw [o_gtr] | rw [o_leq] | rw [o_not] | rw [o_ext0] | rw [o_ext1] | rw [gp_tt] | rw [gp_ft] | rw [gp_ff] | rw [gp_tf]
      exact fin

theorem c6 {n : Nat} {h : AHeap} {v : AV} {l : List Str} {K : Kont} (ho : h.Ok) (W : View h 1 v (l.map fun s => [.str s])) (hb : ∀ s ∈ l, ∀ b ∈ s, b < 256) (hlen : ∀ s ∈ l, s.length < 2305843009213693952) (hn : 5000 < n) (k : ∀ h', Ext h h' → h'.Ok → K (.bool true) h' = true) :
    callN E (n + 11) (.func 6) [v] h K = true := by
  apply d6
  unfold s6
  exact l6 W hb hn hlen k (n + 10) 1 h (Ext.refl _) ho (by omega) (by omega) (by omega)
end Go.Proofs.Ytajjclkdggoobaa
