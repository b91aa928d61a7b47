/-
  LexQuotes: any text, quoted, lexes as itself; walked.
-/
import Derived.Test.YtajjclkdggoobaaL8
namespace Go.Proofs.Ytajjclkdggoobaa
open Go.Ab
set_option linter.unusedSimpArgs false
set_option linter.unusedVariables false

def badB (b : Nat) : Bool := decide (b < 32) && !decide (b = 10) && !decide (b = 9)

theorem quo_one {c : Nat} {l : Str} (hl : l ≠ []) (h1 : c ≠ 34) (h2 : c ≠ 92) : quo (c :: l) = if c < 32 then none else (quo l).map fun r => (c :: r.1, r.2 + 1) := by
  cases l with
  | nil => exact absurd rfl hl
  | cons d l => simp only [quo]; rw [if_neg h1, if_neg h2]

theorem quo_two {d e : Nat} {l : Str} (h : esc d = some e) : quo (92 :: d :: l) = (quo l).map fun r => (e :: r.1, r.2 + 2) := by
  simp only [quo, h]; rfl

theorem quo_quoted : ∀ (s rest : Str), quo (s.flatMap qByte ++ 34 :: rest) = if s.any badB = true then none else some (s, (s.flatMap qByte).length + 1)
  | [], rest => by
    cases rest with
    | nil => rfl
    | cons d l => rfl
  | b :: s, rest => by
    have ih := quo_quoted s rest
    rw [List.flatMap_cons, List.append_assoc]
    have two : ∀ d, esc d = some b → qByte b = [92, d] → badB b = false → quo (qByte b ++ (s.flatMap qByte ++ 34 :: rest)) = if (b :: s).any badB = true then none else some (b :: s, (qByte b ++ s.flatMap qByte).length + 1) := by
      intro d hd hq hb
      rw [hq]
      show quo (92 :: d :: (s.flatMap qByte ++ 34 :: rest)) = _
      rw [quo_two hd, ih, List.any_cons, hb, Bool.false_or]
      by_cases hs : s.any badB = true
      · rw [if_pos hs, if_pos hs]; rfl
      · rw [if_neg hs, if_neg hs]
        simp only [Option.map, List.length_append, List.length_cons, List.length_nil]
        congr 2; omega
    by_cases h1 : b = 34
    · subst h1; exact two 34 rfl rfl rfl
    by_cases h2 : b = 92
    · subst h2; exact two 92 rfl rfl rfl
    by_cases h3 : b = 10
    · subst h3; exact two 110 rfl rfl rfl
    by_cases h4 : b = 9
    · subst h4; exact two 116 rfl rfl rfl
    have hq : qByte b = [b] := by
      simp only [qByte, bidx, if_neg (fun e => h1 (Eq.symm e) : ¬ 34 = b), if_neg (fun e => h2 (Eq.symm e) : ¬ 92 = b), if_neg (fun e => h3 (Eq.symm e) : ¬ 10 = b), if_neg (fun e => h4 (Eq.symm e) : ¬ 9 = b)]
      rfl
    have hbad : badB b = decide (b < 32) := by simp [badB, h3, h4]
    rw [hq]
    show quo (b :: (s.flatMap qByte ++ 34 :: rest)) = _
    rw [quo_one (by simp) h1 h2, ih, List.any_cons, hbad]
    by_cases h5 : b < 32
    · rw [if_pos h5, decide_eq_true h5, Bool.true_or, if_pos rfl]
    · rw [if_neg h5, decide_eq_false h5, Bool.false_or]
      by_cases hs : s.any badB = true
      · rw [if_pos hs, if_pos hs]; rfl
      · rw [if_neg hs, if_neg hs]
        simp only [Option.map, List.length_append, List.length_cons, List.length_nil]
        congr 2; omega

theorem lexF_end {f : Nat} {s : Str} {a k : Nat} (h : s.length ≤ a + skip false (s.drop a)) : lexF f s a k = .ok [] := by
  cases f with
  | zero => rfl
  | succ f => simp only [lexF]; rw [if_pos h]

theorem lexF_succ (f : Nat) (s : Str) (a k : Nat) : lexF (f + 1) s a k = if s.length ≤ a + skip false (s.drop a) then .ok [] else match nextS (s.drop (a + skip false (s.drop a))) with
      | none => .error (a + skip false (s.drop a))
      | some (kd, t, m) => if 4096 ≤ k then .error (a + skip false (s.drop a)) else match lexF f s (a + skip false (s.drop a) + m) (k + 1) with
        | .error e => .error e
        | .ok l => .ok (⟨kd, t, a + skip false (s.drop a), a + skip false (s.drop a) + m⟩ :: l) := rfl

theorem lex_quoted (s : Str) : lexS ([32] ++ quoteS s ++ [32]) = if s.any badB = true then .error 1 else .ok [⟨3, s, 1, (s.flatMap qByte).length + 3⟩] := by
  have ht : [32] ++ quoteS s ++ [32] = 32 :: 34 :: (s.flatMap qByte ++ 34 :: [32]) := by simp [quoteS]
  rw [ht]
  have hlen : (32 :: 34 :: (s.flatMap qByte ++ 34 :: [32])).length = (s.flatMap qByte).length + 4 := by simp
  unfold lexS
  rw [hlen]
  have hskip : skip false ((32 :: 34 :: (s.flatMap qByte ++ 34 :: [32])).drop 0) = 1 := rfl
  have hn : nextS ((32 :: 34 :: (s.flatMap qByte ++ 34 :: [32])).drop 1) = (quo (s.flatMap qByte ++ 34 :: [32])).map fun r => (3, r.1, r.2 + 1) := rfl
  rw [lexF_succ]
  simp only [hskip, Nat.zero_add, hlen]
  rw [if_neg (by omega), hn, quo_quoted]
  by_cases hs : s.any badB = true
  · rw [if_pos hs, if_pos hs]; rfl
  · rw [if_neg hs, if_neg hs]
    simp only [Option.map]
    have hd : (32 :: 34 :: (s.flatMap qByte ++ 34 :: [32])).drop (1 + ((s.flatMap qByte).length + 1 + 1)) = [32] := by
      rw [show 1 + ((s.flatMap qByte).length + 1 + 1) = ((s.flatMap qByte).length + 1) + 1 + 1 by omega]
      simp only [List.drop_succ_cons]
      have : s.flatMap qByte ++ 34 :: [32] = (s.flatMap qByte ++ [34]) ++ [32] := by simp
      rw [this]
      have hl : (s.flatMap qByte ++ [34]).length = (s.flatMap qByte).length + 1 := by simp
      rw [← hl, List.drop_left]
    rw [lexF_end (by rw [hd, hlen]; show _ ≤ _ + 1; omega)]
    rw [if_neg (by omega)]
    show Except.ok [_] = Except.ok [_]
    rw [show 1 + ((s.flatMap qByte).length + 1 + 1) = (s.flatMap qByte).length + 3 by omega]

theorem quoteS_byte {s : Str} (hb : ∀ b ∈ s, b < 256) : ∀ b ∈ [32] ++ quoteS s ++ [32], b < 256 := by
  intro b h
  simp only [quoteS, List.mem_append, List.mem_singleton, List.mem_flatMap] at h
  rcases h with (h | (h | ⟨c, hc, h⟩) | h) | h
  · omega
  · omega
  · unfold qByte at h
    split at h
    · simp only [List.mem_cons, List.not_mem_nil, or_false] at h
      rcases h with h | h
      · omega
      · rw [h]; exact pk_byte (by decide) _
    · simp only [List.mem_singleton] at h; rw [h]; exact hb c hc
  · omega
  · omega

theorem sadd {a b : Str} (h : a.length + b.length ≤ most) : binA .add (.str a) (.str b) = some (.str (a ++ b)) := by
  simp only [binA, strOp, nble_true.2 h, cond_true]

theorem nei (a b : Nat) : binA .neq (.int .i64 (a : Int)) (.int .i64 (b : Int)) = some (.bool (!decide (a = b))) := by
  rw [binA_neq, show decide ((a : Int) = (b : Int)) = decide (a = b) from decide_eq_decide.2 (by omega)]

theorem p5 {n : Nat} {h h0 : AHeap} {s : Str} {x0 x3 : AV} {B6 : AV → AV → AHeap → Bool} {K : Kont} (ho : h.Ok) (hb : ∀ b ∈ s, b < 256) (hs : s.length ≤ 2000) (hn : 5000 < n) (kB : ∀ h', Ext h h' → h'.Ok → p5_63 (callN E (n + 9)) (n + 9) B6 x0 x3 h' K = true) :
    p5_40 (callN E (n + 9)) (n + 9) B6 x0 x3 (.str s) (.bool (s.any badB)) h K = true := by
  have hm : most = 1099511627776 := rfl
  have hq : (quoteS s).length ≤ 2 * s.length + 2 := by
    have := flat_le s
    simp only [quoteS, List.length_append, List.length_cons, List.length_nil]; omega
  unfold p5_40
  refine c12 (n := n + 5) ho (by omega) hb (by omega) (by omega) fun h1 e1 o1 => ?_
  show (optB _ _) = true
  rw [o_of (sadd (a := [32]) (b := quoteS s) (by simp only [List.length_cons, List.length_nil]; omega)), o_of (sadd (b := [32]) (by simp only [List.length_append, List.length_cons, List.length_nil]; omega))]
  have hl : ([32] ++ quoteS s ++ [32]).length ≤ 65536 := by simp only [List.length_append, List.length_cons, List.length_nil]; omega
  refine c8 (n := n) o1 (quoteS_byte hb) (fun _ => by simp only [List.length_append, List.length_cons, List.length_nil]; omega) (by omega) fun v h2 e2 o2 a => ?_
  unfold ans8 at a
  rw [if_neg (by omega), lex_quoted] at a
  by_cases hbad : s.any badB = true
  · rw [if_pos hbad] at a
    have a' : v = .tup [.nilSlc, .int .i64 ((1 : Nat) : Int), .int .i64 20] := a
    subst a'
    show (optB _ _) = true
    rw [hbad, o_ext0, o_ext1, o_ext2, condB_true]
    rw [o_of (show binA .neq (.int .i64 20) (AV.int .i64 20) = some (.bool false) from rfl)]
    repeat first | rw [o_some] | rw [o_nilck] | rw [o_fadr0] | rw [o_slen] | rw [g_tt] | rw [g_ft] | rw [g_ff] | rw [g_tf] | rw [gc_tt] | rw [gc_ft] | rw [gc_ff] | rw [gc_tf] | rw [k_t] | rw [k_f] | rw [condB_true] | rw [condB_false] | rw [o_lss] | rw [o_geq] | rw [o_gtr] | rw [o_leq] | rw [o_not] | rw [o_ext0] | rw [o_ext1] | rw [gp_tt] | rw [gp_ft] | rw [gp_ff] | rw [gp_tf]
    rw [o_of (show binA .neq (.int .i64 ((1 : Nat) : Int)) (AV.int .i64 1) = some (.bool false) from rfl)]
    repeat first | rw [o_some] | rw [o_nilck] | rw [o_fadr0] | rw [o_slen] | rw [g_tt] | rw [g_ft] | rw [g_ff] | rw [g_tf] | rw [gc_tt] | rw [gc_ft] | rw [gc_ff] | rw [gc_tf] | rw [k_t] | rw [k_f] | rw [condB_true] | rw [condB_false] | rw [o_lss] | rw [o_geq] | rw [o_gtr] | rw [o_leq] | rw [o_not] | rw [o_ext0] | rw [o_ext1] | rw [gp_tt] | rw [gp_ft] | rw [gp_ff] | rw [gp_tf]
    exact kB h2 (e1.trans e2) o2
  · rw [if_neg hbad] at a
    obtain ⟨u, rfl, W⟩ := a
    have hbf : s.any badB = false := by simpa using hbad
    show (optB _ _) = true
    rw [hbf, o_ext0, o_ext1, o_ext2, condB_false]
    obtain ⟨i0, g0, j0, p0, q0⟩ := W.at (i := 0) (e := encL ⟨3, s, 1, (s.flatMap qByte).length + 3⟩) rfl
    have pI : iadrA h2 4 u (.int .i64 0) = some (.ptr i0 g0 j0 0) := p0 .i64
    rw [o_of (show binA .neq (.int .i64 0) (AV.int .i64 0) = some (.bool false) from rfl)]
    repeat first | rw [o_some] | rw [o_nilck] | rw [o_fadr0] | rw [o_slen] | rw [g_tt] | rw [g_ft] | rw [g_ff] | rw [g_tf] | rw [gc_tt] | rw [gc_ft] | rw [gc_ff] | rw [gc_tf] | rw [k_t] | rw [k_f] | rw [condB_true] | rw [condB_false] | rw [o_lss] | rw [o_geq] | rw [o_gtr] | rw [o_leq] | rw [o_not] | rw [o_ext0] | rw [o_ext1] | rw [gp_tt] | rw [gp_ft] | rw [gp_ff] | rw [gp_tf]
    rw [o_of W.len]
    repeat first | rw [o_some] | rw [o_nilck] | rw [o_fadr0] | rw [o_slen] | rw [g_tt] | rw [g_ft] | rw [g_ff] | rw [g_tf] | rw [gc_tt] | rw [gc_ft] | rw [gc_ff] | rw [gc_tf] | rw [k_t] | rw [k_f] | rw [condB_true] | rw [condB_false] | rw [o_lss] | rw [o_geq] | rw [o_gtr] | rw [o_leq] | rw [o_not] | rw [o_ext0] | rw [o_ext1] | rw [gp_tt] | rw [gp_ft] | rw [gp_ff] | rw [gp_tf]
    rw [o_of (show binA .neq (.int .i64 (([⟨3, s, 1, (s.flatMap qByte).length + 3⟩] : List Lx).map encL).length) (AV.int .i64 1) = some (.bool false) from rfl)]
    repeat first | rw [o_some] | rw [o_nilck] | rw [o_fadr0] | rw [o_slen] | rw [g_tt] | rw [g_ft] | rw [g_ff] | rw [g_tf] | rw [gc_tt] | rw [gc_ft] | rw [gc_ff] | rw [gc_tf] | rw [k_t] | rw [k_f] | rw [condB_true] | rw [condB_false] | rw [o_lss] | rw [o_geq] | rw [o_gtr] | rw [o_leq] | rw [o_not] | rw [o_ext0] | rw [o_ext1] | rw [gp_tt] | rw [gp_ft] | rw [gp_ff] | rw [gp_tf]
    rw [o_of pI]
    repeat first | rw [o_some] | rw [o_nilck] | rw [o_fadr0] | rw [o_slen] | rw [g_tt] | rw [g_ft] | rw [g_ff] | rw [g_tf] | rw [gc_tt] | rw [gc_ft] | rw [gc_ff] | rw [gc_tf] | rw [k_t] | rw [k_f] | rw [condB_true] | rw [condB_false] | rw [o_lss] | rw [o_geq] | rw [o_gtr] | rw [o_leq] | rw [o_not] | rw [o_ext0] | rw [o_ext1] | rw [gp_tt] | rw [gp_ft] | rw [gp_ff] | rw [gp_tf]
    rw [o_of (show loadA h2 false 1 (.ptr i0 g0 j0 0) = some (.int .i64 3) by rw [q0]; rfl)]
    repeat first | rw [o_some] | rw [o_nilck] | rw [o_fadr0] | rw [o_slen] | rw [g_tt] | rw [g_ft] | rw [g_ff] | rw [g_tf] | rw [gc_tt] | rw [gc_ft] | rw [gc_ff] | rw [gc_tf] | rw [k_t] | rw [k_f] | rw [condB_true] | rw [condB_false] | rw [o_lss] | rw [o_geq] | rw [o_gtr] | rw [o_leq] | rw [o_not] | rw [o_ext0] | rw [o_ext1] | rw [gp_tt] | rw [gp_ft] | rw [gp_ff] | rw [gp_tf]
    rw [o_of (show binA .neq (.int .i64 3) (AV.int .i64 3) = some (.bool false) from rfl)]
    repeat first | rw [o_some] | rw [o_nilck] | rw [o_fadr0] | rw [o_slen] | rw [g_tt] | rw [g_ft] | rw [g_ff] | rw [g_tf] | rw [gc_tt] | rw [gc_ft] | rw [gc_ff] | rw [gc_tf] | rw [k_t] | rw [k_f] | rw [condB_true] | rw [condB_false] | rw [o_lss] | rw [o_geq] | rw [o_gtr] | rw [o_leq] | rw [o_not] | rw [o_ext0] | rw [o_ext1] | rw [gp_tt] | rw [gp_ft] | rw [gp_ff] | rw [gp_tf]
    rw [o_of pI]
    repeat first | rw [o_some] | rw [o_nilck] | rw [o_fadr0] | rw [o_slen] | rw [g_tt] | rw [g_ft] | rw [g_ff] | rw [g_tf] | rw [gc_tt] | rw [gc_ft] | rw [gc_ff] | rw [gc_tf] | rw [k_t] | rw [k_f] | rw [condB_true] | rw [condB_false] | rw [o_lss] | rw [o_geq] | rw [o_gtr] | rw [o_leq] | rw [o_not] | rw [o_ext0] | rw [o_ext1] | rw [gp_tt] | rw [gp_ft] | rw [gp_ff] | rw [gp_tf]
    rw [o_of (show loadA h2 false 1 (.ptr i0 g0 j0 1) = some (.str s) by rw [q0]; rfl)]
    repeat first | rw [o_some] | rw [o_nilck] | rw [o_fadr0] | rw [o_slen] | rw [g_tt] | rw [g_ft] | rw [g_ff] | rw [g_tf] | rw [gc_tt] | rw [gc_ft] | rw [gc_ff] | rw [gc_tf] | rw [k_t] | rw [k_f] | rw [condB_true] | rw [condB_false] | rw [o_lss] | rw [o_geq] | rw [o_gtr] | rw [o_leq] | rw [o_not] | rw [o_ext0] | rw [o_ext1] | rw [gp_tt] | rw [gp_ft] | rw [gp_ff] | rw [gp_tf]
    rw [o_of (show binA .neq (.str s) (.str s) = some (.bool false) by rw [binA_sneq]; simp)]
    repeat first | rw [o_some] | rw [o_nilck] | rw [o_fadr0] | rw [o_slen] | rw [g_tt] | rw [g_ft] | rw [g_ff] | rw [g_tf] | rw [gc_tt] | rw [gc_ft] | rw [gc_ff] | rw [gc_tf] | rw [k_t] | rw [k_f] | rw [condB_true] | rw [condB_false] | rw [o_lss] | rw [o_geq] | rw [o_gtr] | rw [o_leq] | rw [o_not] | rw [o_ext0] | rw [o_ext1] | rw [gp_tt] | rw [gp_ft] | rw [gp_ff] | rw [gp_tf]
    rw [o_of pI]
    repeat first | rw [o_some] | rw [o_nilck] | rw [o_fadr0] | rw [o_slen] | rw [g_tt] | rw [g_ft] | rw [g_ff] | rw [g_tf] | rw [gc_tt] | rw [gc_ft] | rw [gc_ff] | rw [gc_tf] | rw [k_t] | rw [k_f] | rw [condB_true] | rw [condB_false] | rw [o_lss] | rw [o_geq] | rw [o_gtr] | rw [o_leq] | rw [o_not] | rw [o_ext0] | rw [o_ext1] | rw [gp_tt] | rw [gp_ft] | rw [gp_ff] | rw [gp_tf]
    rw [o_of (show loadA h2 false 1 (.ptr i0 g0 j0 2) = some (.int .i64 1) by rw [q0]; rfl)]
    repeat first | rw [o_some] | rw [o_nilck] | rw [o_fadr0] | rw [o_slen] | rw [g_tt] | rw [g_ft] | rw [g_ff] | rw [g_tf] | rw [gc_tt] | rw [gc_ft] | rw [gc_ff] | rw [gc_tf] | rw [k_t] | rw [k_f] | rw [condB_true] | rw [condB_false] | rw [o_lss] | rw [o_geq] | rw [o_gtr] | rw [o_leq] | rw [o_not] | rw [o_ext0] | rw [o_ext1] | rw [gp_tt] | rw [gp_ft] | rw [gp_ff] | rw [gp_tf]
    rw [o_of (show binA .neq (.int .i64 1) (AV.int .i64 1) = some (.bool false) from rfl)]
    repeat first | rw [o_some] | rw [o_nilck] | rw [o_fadr0] | rw [o_slen] | rw [g_tt] | rw [g_ft] | rw [g_ff] | rw [g_tf] | rw [gc_tt] | rw [gc_ft] | rw [gc_ff] | rw [gc_tf] | rw [k_t] | rw [k_f] | rw [condB_true] | rw [condB_false] | rw [o_lss] | rw [o_geq] | rw [o_gtr] | rw [o_leq] | rw [o_not] | rw [o_ext0] | rw [o_ext1] | rw [gp_tt] | rw [gp_ft] | rw [gp_ff] | rw [gp_tf]
    exact kB h2 (e1.trans e2) o2

theorem l29 {n : Nat} {h : AHeap} {s : Str} {x0 x3 : AV} {B6 : AV → AV → AHeap → Bool} {K : Kont} (hs : s.length ≤ 2000) (k : p5_40 (callN E (n + 9)) (n + 9) B6 x0 x3 (.str s) (.bool (s.any badB)) h K = true) :
    ∀ (m i : Nat) (bd : Bool), i ≤ s.length → s.length - i < m → (bd || (s.drop i).any badB) = s.any badB →
    l5_29 (callN E (n + 9)) (n + 9) B6 m x0 x3 (.str s) (.bool bd) (.int .i64 (i : Int)) h K = true := by
  have hlim : 3000 < lim := by decide
  intro m
  induction m with
  | zero => intro i bd _ hm; omega
  | succ m ih =>
    intro i bd hi hm hbd
    unfold l5_29 b5_29
    rw [o_slen, o_lss]
    by_cases hlt : i < s.length
    · rw [condB_t (decide_eq_true (by omega))]
      rw [drop_pk hlt, List.any_cons] at hbd
      have e32 : binA .lss (.int .u8 (pk s i : Int)) (AV.int .u8 32) = some (.bool (decide (pk s i < 32))) := ltb 32 _
      have e10 : binA .neq (.int .u8 (pk s i : Int)) (AV.int .u8 10) = some (.bool (!decide (pk s i = 10))) := neb 10 _
      have e9 : binA .neq (.int .u8 (pk s i : Int)) (AV.int .u8 9) = some (.bool (!decide (pk s i = 9))) := neb 9 _
      have step : ∀ c : Bool, c = (bd || badB (pk s i)) → (optB (binA .add (.int .i64 (i : Int)) (AV.int .i64 1)) fun v30 => l5_29 (callN E (n + 9)) (n + 9) B6 m x0 x3 (.str s) (.bool c) v30 h K) = true := by
        intro c hc
        rw [o_of (inc64 (show i < lim by omega))]
        exact ih (i + 1) c (by omega) (by omega) (by rw [hc, Bool.or_assoc]; exact hbd)
      cases bd with
      | true =>
        repeat first | rw [o_some] | rw [o_nilck] | rw [o_fadr0] | rw [o_slen] | rw [g_tt] | rw [g_ft] | rw [g_ff] | rw [g_tf] | rw [gc_tt] | rw [gc_ft] | rw [gc_ff] | rw [gc_tf] | rw [k_t] | rw [k_f] | rw [condB_true] | rw [condB_false] | rw [o_lss] | rw [o_geq] | rw [o_gtr] | rw [o_leq] | rw [o_not] | rw [o_ext0] | rw [o_ext1] | rw [gp_tt] | rw [gp_ft] | rw [gp_ff] | rw [gp_tf]
        exact step true rfl
      | false =>
        rw [g_ff, o_some, g_ff, o_some, g_ff, o_of (idxs_pk hlt), g_ff, o_of e32, g_ff, o_some]
        cases c1 : decide (pk s i < 32) with
        | false =>
          repeat first | rw [o_some] | rw [o_nilck] | rw [o_fadr0] | rw [o_slen] | rw [g_tt] | rw [g_ft] | rw [g_ff] | rw [g_tf] | rw [gc_tt] | rw [gc_ft] | rw [gc_ff] | rw [gc_tf] | rw [k_t] | rw [k_f] | rw [condB_true] | rw [condB_false] | rw [o_lss] | rw [o_geq] | rw [o_gtr] | rw [o_leq] | rw [o_not] | rw [o_ext0] | rw [o_ext1] | rw [gp_tt] | rw [gp_ft] | rw [gp_ff] | rw [gp_tf]
          exact step false (by simp [badB, c1])
        | true =>
          rw [g_tt, o_some, g_tt, o_some, g_tt, o_of (idxs_pk hlt), g_tt, o_of e10]
          cases c2 : decide (pk s i = 10) with
          | true =>
            simp only [Bool.not_true]
            repeat first | rw [o_some] | rw [o_nilck] | rw [o_fadr0] | rw [o_slen] | rw [g_tt] | rw [g_ft] | rw [g_ff] | rw [g_tf] | rw [gc_tt] | rw [gc_ft] | rw [gc_ff] | rw [gc_tf] | rw [k_t] | rw [k_f] | rw [condB_true] | rw [condB_false] | rw [o_lss] | rw [o_geq] | rw [o_gtr] | rw [o_leq] | rw [o_not] | rw [o_ext0] | rw [o_ext1] | rw [gp_tt] | rw [gp_ft] | rw [gp_ff] | rw [gp_tf]
            exact step false (by simp [badB, c2])
          | false =>
            rw [g_ff, k_t, g_ff, o_some]
            simp only [Bool.not_false]
            rw [g_tt, o_some, g_tt, o_some, g_tt, o_of (idxs_pk hlt), g_tt, o_of e9, g_ff, k_t, k_f]
            cases c3 : decide (pk s i = 9) with
            | true => exact step false (by simp [badB, c3])
            | false => exact step true (by simp [badB, c1, c2, c3])
    · rw [condB_f (decide_eq_false (by omega))]
      rw [List.drop_of_length_le (by omega), List.any_nil, Bool.or_false] at hbd
      rw [hbd]
      exact k

theorem l5 {n : Nat} {h0 : AHeap} {v : AV} {l : List Str} {K : Kont} (W : View h0 1 v (l.map fun s => [.str s])) (hb : ∀ s ∈ l, ∀ b ∈ s, b < 256) (hn : 5000 < n) (k : ∀ h', Ext h0 h' → h'.Ok → K (.bool true) h' = true) :
    ∀ (m i : Nat) (h : AHeap), Ext h0 h → h.Ok → i ≤ 8 → 8 - i < m → l5_6 (callN E (n + 10)) (n + 10) m v (.int .i64 (i : Int)) h K = true := by
  have hlim : 3000 < lim := by decide
  intro m
  induction m with
  | zero => intro i h _ _ _ hm; omega
  | succ m ih =>
    intro i h e o hi hm
    unfold l5_6 b5_6
    have W' := W.ext e
    rw [o_of W'.len, o_lss, List.length_map]
    have fin : p5_64 (callN E (n + 10)) (n + 10) h K = true := by
      unfold p5_64
      exact c14 (n := n) o (by omega) fun h' e' o' => k h' (e.trans e') o'
    by_cases hlt : i < l.length
    · rw [show decide ((i : Int) < (l.length : Int)) = true from decide_eq_true (by omega)]
      repeat first | rw [o_some] | rw [o_nilck] | rw [o_fadr0] | rw [o_slen] | rw [g_tt] | rw [g_ft] | rw [g_ff] | rw [g_tf] | rw [gc_tt] | rw [gc_ft] | rw [gc_ff] | rw [gc_tf] | rw [k_t] | rw [k_f] | rw [condB_true] | rw [condB_false] | rw [o_lss] | rw [o_geq] | rw [o_gtr] | rw [o_leq] | rw [o_not] | rw [o_ext0] | rw [o_ext1] | rw [gp_tt] | rw [gp_ft] | rw [gp_ff] | rw [gp_tf]
      by_cases h8 : i < 8
      · rw [show decide ((i : Int) < 8) = true from decide_eq_true (by omega)]
        repeat first | rw [o_some] | rw [o_nilck] | rw [o_fadr0] | rw [o_slen] | rw [g_tt] | rw [g_ft] | rw [g_ff] | rw [g_tf] | rw [gc_tt] | rw [gc_ft] | rw [gc_ff] | rw [gc_tf] | rw [k_t] | rw [k_f] | rw [condB_true] | rw [condB_false] | rw [o_lss] | rw [o_geq] | rw [o_gtr] | rw [o_leq] | rw [o_not] | rw [o_ext0] | rw [o_ext1] | rw [gp_tt] | rw [gp_ft] | rw [gp_ff] | rw [gp_tf]
        unfold p5_13
        have hs : l[i]? = some (l[i]'hlt) := List.getElem?_eq_getElem hlt
        have he : (l.map fun s => [AV.str s])[i]? = some [.str (l[i]'hlt)] := by rw [List.getElem?_map, hs]; rfl
        have hbs := hb _ (List.getElem_mem hlt)
        obtain ⟨id, g, j, p1, p2⟩ := W'.at he
        generalize l[i]'hlt = s at *
        have p3 : loadA h false 1 (.ptr id g j 0) = some (.str s) := by rw [p2]; rfl
        rw [o_of (p1 _), o_of p3, o_slen, o_gtr]
        have nx : ∀ h', Ext h h' → h'.Ok → p5_63 (callN E (n + 10)) (n + 10) (fun x0 x3 h => l5_6 (callN E (n + 10)) (n + 10) m x0 x3 h K) v (.int .i64 (i : Int)) h' K = true := by
          intro h' e' o'
          unfold p5_63
          rw [o_of (inc64 (show i < lim by omega))]
          exact ih (i + 1) h' (e.trans e') o' (by omega) (by omega)
        by_cases hbig : 2000 < s.length
        · rw [condB_t (decide_eq_true (by omega))]
          exact nx h (Ext.refl _) o
        · rw [condB_f (decide_eq_false (by omega))]
          unfold p5_23
          exact l29 (n := n + 1) (by omega) (p5 (n := n + 1) (h0 := h0) o hbs (by omega) (by omega) nx) (n + 10) 0 false (by omega) (by omega) rfl
      · rw [show decide ((i : Int) < 8) = false from decide_eq_false (by omega)]
        repeat first | rw [o_some] | rw [o_nilck] | rw [o_fadr0] | rw [o_slen] | rw [g_tt] | rw [g_ft] | rw [g_ff] | rw [g_tf] | rw [gc_tt] | rw [gc_ft] | rw [gc_ff] | rw [gc_tf] | rw [k_t] | rw [k_f] | rw [condB_true] | rw [condB_false] | rw [o_lss] | rw [o_geq] | rw [o_gtr] | rw [o_leq] | rw [o_not] | rw [o_ext0] | rw [o_ext1] | rw [gp_tt] | rw [gp_ft] | rw [gp_ff] | rw [gp_tf]
        exact fin
    · rw [show decide ((i : Int) < (l.length : Int)) = false from decide_eq_false (by omega)]
      repeat first | rw [o_some] | rw [o_nilck] | rw [o_fadr0] | rw [o_slen] | rw [g_tt] | rw [g_ft] | rw [g_ff] | rw [g_tf] | rw [gc_tt] | rw [gc_ft] | rw [gc_ff] | rw [gc_tf] | rw [k_t] | rw [k_f] | rw [condB_true] | rw [condB_false] | rw [o_lss] | rw [o_geq] | rw [o_gtr] | rw [o_leq] | rw [o_not] | rw [o_ext0] | rw [o_ext1] | rw [gp_tt] | rw [gp_ft] | rw [gp_ff] | rw [gp_tf]
      exact fin

theorem c5 {n : Nat} {h : AHeap} {v : AV} {l : List Str} {K : Kont} (ho : h.Ok) (W : View h 1 v (l.map fun s => [.str s])) (hb : ∀ s ∈ l, ∀ b ∈ s, b < 256) (hn : 5000 < n) (k : ∀ h', Ext h h' → h'.Ok → K (.bool true) h' = true) :
    callN E (n + 11) (.func 5) [v] h K = true := by
  apply d5
  unfold s5
  exact l5 W hb hn k (n + 10) 0 h (Ext.refl _) ho (by omega) (by omega)
end Go.Proofs.Ytajjclkdggoobaa
