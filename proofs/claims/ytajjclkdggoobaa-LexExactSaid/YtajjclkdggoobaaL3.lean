/-
  Blanks and remarks gone over; marks.
-/
import Derived.Test.YtajjclkdggoobaaL1
namespace Go.Proofs.Ytajjclkdggoobaa
open Go.Ab
set_option linter.unusedSimpArgs false
set_option linter.unusedVariables false

/-- How many bytes of blanks and remarks; are we in a remark? -/
def skip : Bool → Str → Nat
  | _, [] => 0
  | true, c :: l => if c = 10 then skip false l + 1 else skip true l + 1
  | false, c :: l => if blankB c = true then skip false l + 1 else if c = 47 ∧ l.head? = some 47 then skip true l + 1 else 0

theorem skip_le : ∀ (b : Bool) (l : Str), skip b l ≤ l.length
  | _, [] => by simp [skip]
  | true, c :: l => by
    have h1 := skip_le true l
    have h2 := skip_le false l
    simp only [skip, List.length_cons]; split <;> omega
  | false, c :: l => by
    have h1 := skip_le true l
    have h2 := skip_le false l
    simp only [skip, List.length_cons]; split
    · omega
    · split <;> omega

theorem skip_remark : ∀ (l : Str), skip true l = match bidx 10 l with | none => l.length | some k => k + skip false (l.drop k)
  | [] => rfl
  | c :: l => by
    simp only [skip, bidx]
    by_cases e : c = 10
    · subst e
      simp [skip, blankB]
    · rw [if_neg e, if_neg e, skip_remark l]
      cases bidx 10 l with
      | none => rfl
      | some k =>
        show k + skip false (l.drop k) + 1 = (k + 1) + skip false ((c :: l).drop (k + 1))
        rw [List.drop_succ_cons]; omega

theorem bidx_lt {c : Nat} : ∀ {l : Str} {k : Nat}, bidx c l = some k → k < l.length
  | [], _, h => by cases h
  | b :: l, k, h => by
    simp only [bidx] at h
    split at h
    · cases h; simp
    · cases hb : bidx c l with
      | none => rw [hb] at h; cases h
      | some j => rw [hb] at h; cases h; have := bidx_lt hb; simp; omega

theorem head_pk {s : Str} {i : Nat} {c : Nat} (hc : c ≠ 0) : ((s.drop i).head? = some c) ↔ pk s i = c := by
  by_cases h : i < s.length
  · rw [drop_pk h]; simp
  · rw [List.drop_of_length_le (by omega), pk_ge (by omega)]
    constructor
    · intro e; cases e
    · intro e; omega

theorem skip_at {s : Str} {a : Nat} (h : a < s.length) : skip false (s.drop a) = if blankB (pk s a) = true then skip false (s.drop (a + 1)) + 1 else if pk s a = 47 ∧ pk s (a + 1) = 47 then skip true (s.drop a) else 0 := by
  rw [drop_pk h]
  simp only [skip]
  split
  · rfl
  · rename_i hb
    have hp := head_pk (s := s) (i := a + 1) (c := 47) (by decide)
    by_cases hh : pk s a = 47 ∧ pk s (a + 1) = 47
    · have : ¬ pk s a = 10 := by rw [hh.1]; decide
      rw [if_pos ⟨hh.1, hp.2 hh.2⟩, if_pos hh, if_neg this]
    · rw [if_neg (fun e => hh ⟨e.1, hp.1 e.2⟩), if_neg hh]

theorem blank_chain (b : Nat) (k : AV → Bool) :
    (optB (binA (BinOp.eql) (.int .u8 (b : Int)) (AV.int (IntKind.u8) 32)) fun v2 => optB (grdO (wantV v2 false) (some (.int .u8 (b : Int)))) fun v3 => optB (grdO (wantV v2 false) (binA (BinOp.eql) v3 (AV.int (IntKind.u8) 9))) fun v4 => optB (pickV v2 (AV.bool true) v4) fun v5 => optB (grdO (wantV v5 false) (some (.int .u8 (b : Int)))) fun v6 => optB (grdO (wantV v5 false) (binA (BinOp.eql) v6 (AV.int (IntKind.u8) 13))) fun v7 => optB (pickV v5 (AV.bool true) v7) fun v8 => optB (grdO (wantV v8 false) (some (.int .u8 (b : Int)))) fun v9 => optB (grdO (wantV v8 false) (binA (BinOp.eql) v9 (AV.int (IntKind.u8) 10))) fun v10 => optB (pickV v8 (AV.bool true) v10) fun v11 => k v11) = k (.bool (blankB b)) := by
  have e1 : binA .eql (.int .u8 (b : Int)) (AV.int .u8 32) = some (.bool (decide (b = 32))) := eqb 32 b
  have e2 : binA .eql (.int .u8 (b : Int)) (AV.int .u8 9) = some (.bool (decide (b = 9))) := eqb 9 b
  have e3 : binA .eql (.int .u8 (b : Int)) (AV.int .u8 13) = some (.bool (decide (b = 13))) := eqb 13 b
  have e4 : binA .eql (.int .u8 (b : Int)) (AV.int .u8 10) = some (.bool (decide (b = 10))) := eqb 10 b
  unfold blankB
  cases h1 : decide (b = 32) <;> cases h2 : decide (b = 9) <;> cases h3 : decide (b = 13) <;> cases h4 : decide (b = 10) <;>
    simp only [e1, e2, e3, e4, h1, h2, h3, h4, optB_some, wantV_false, Bool.not_true, Bool.not_false, grdO_true, grdO_false, pickV_true, pickV_false, Bool.or_true, Bool.or_false, Bool.true_or, Bool.false_or, Bool.or_self]

theorem j28 {n x a : Nat} {s : Str} {bad : Bool} {h : AHeap} {K : Kont} {B0 : AV → AHeap → Bool} (V : LX h x s a bad) (ho : h.Ok) (hL : s.length + 1 < lim) (ha : a ≤ s.length)
    (kB : ∀ h' a', But x h h' → h'.Ok → LX h' x s a' bad → a < a' → a' ≤ s.length → a + skip false (s.drop a) = a' + skip false (s.drop a') → B0 (.ptr x 0 0 0) h' = true)
    (kE : skip false (s.drop a) = 0 → K (.tup []) h = true) : j28_0 (callN E (n + 3)) (n + 3) B0 (.ptr x 0 0 0) h K = true := by
  have hx : x < h.sz := Var.lt V ho
  unfold j28_0
  refine c36 (k := 0) V (by omega) ha ?_
  show (optB _ _) = true
  rw [blank_chain, Nat.add_zero]
  have go : ∀ a', a < a' → a' ≤ s.length → a + skip false (s.drop a) = a' + skip false (s.drop a') →
      B0 (.ptr x 0 0 0) (h.put x (.row (VRow [.str s, .int .i64 (a' : Int), .bool bad]))) = true := fun a' h1 h2 h3 => kB _ a' (But.put x h _) (ho.put hx _) (lx_put h x s a' bad) h1 h2 h3
  by_cases hend : a < s.length
  · have hs := skip_at hend
    cases hb : blankB (pk s a) with
    | true =>
      rw [hb, if_pos rfl] at hs
      repeat first | rw [o_some] | rw [o_nilck] | rw [o_fadr0] | rw [o_of (LX.l0 V)] | rw [o_of (LX.l1 V)] | rw [o_of (LX.l2 V)] | rw [o_slen] | rw [g_tt] | rw [g_ft] | rw [g_ff] | rw [g_tf] | rw [gc_tt] | rw [gc_ft] | rw [gc_ff] | rw [gc_tf] | rw [k_t] | rw [k_f] | rw [condB_true] | rw [condB_false] | rw [o_lss] | rw [o_geq] | rw [o_gtr] | rw [o_leq] | rw [o_not] | rw [o_ext0] | rw [o_ext1] | rw [gp_tt] | rw [gp_ft] | rw [gp_ff] | rw [gp_tf]
      rw [o_of (inc64 (show a < lim by omega))]
      repeat first | rw [o_some] | rw [o_nilck] | rw [o_fadr0] | rw [o_of (LX.l0 V)] | rw [o_of (LX.l1 V)] | rw [o_of (LX.l2 V)] | rw [o_slen] | rw [g_tt] | rw [g_ft] | rw [g_ff] | rw [g_tf] | rw [gc_tt] | rw [gc_ft] | rw [gc_ff] | rw [gc_tf] | rw [k_t] | rw [k_f] | rw [condB_true] | rw [condB_false] | rw [o_lss] | rw [o_geq] | rw [o_gtr] | rw [o_leq] | rw [o_not] | rw [o_ext0] | rw [o_ext1] | rw [gp_tt] | rw [gp_ft] | rw [gp_ff] | rw [gp_tf]
      rw [u_of (V.set _)]
      exact go (a + 1) (by omega) (by omega) (by omega)
    | false =>
      rw [hb, if_neg (by decide)] at hs
      have e47 : binA .eql (.int .u8 (pk s a : Int)) (AV.int .u8 47) = some (.bool (decide (pk s a = 47))) := eqb 47 _
      repeat first | rw [o_some] | rw [o_nilck] | rw [o_fadr0] | rw [o_of (LX.l0 V)] | rw [o_of (LX.l1 V)] | rw [o_of (LX.l2 V)] | rw [o_slen] | rw [g_tt] | rw [g_ft] | rw [g_ff] | rw [g_tf] | rw [gc_tt] | rw [gc_ft] | rw [gc_ff] | rw [gc_tf] | rw [k_t] | rw [k_f] | rw [condB_true] | rw [condB_false] | rw [o_lss] | rw [o_geq] | rw [o_gtr] | rw [o_leq] | rw [o_not] | rw [o_ext0] | rw [o_ext1] | rw [gp_tt] | rw [gp_ft] | rw [gp_ff] | rw [gp_tf]
      rw [o_of e47]
      by_cases h1 : pk s a = 47
      · rw [decide_eq_true h1]
        repeat first | rw [o_some] | rw [o_nilck] | rw [o_fadr0] | rw [o_of (LX.l0 V)] | rw [o_of (LX.l1 V)] | rw [o_of (LX.l2 V)] | rw [o_slen] | rw [g_tt] | rw [g_ft] | rw [g_ff] | rw [g_tf] | rw [gc_tt] | rw [gc_ft] | rw [gc_ff] | rw [gc_tf] | rw [k_t] | rw [k_f] | rw [condB_true] | rw [condB_false] | rw [o_lss] | rw [o_geq] | rw [o_gtr] | rw [o_leq] | rw [o_not] | rw [o_ext0] | rw [o_ext1] | rw [gp_tt] | rw [gp_ft] | rw [gp_ff] | rw [gp_tf]
        refine c36 (k := 1) V hL ha ?_
        have e47' : binA .eql (.int .u8 (pk s (a + 1) : Int)) (AV.int .u8 47) = some (.bool (decide (pk s (a + 1) = 47))) := eqb 47 _
        show (optB _ _) = true
        repeat first | rw [o_some] | rw [o_nilck] | rw [o_fadr0] | rw [o_of (LX.l0 V)] | rw [o_of (LX.l1 V)] | rw [o_of (LX.l2 V)] | rw [o_slen] | rw [g_tt] | rw [g_ft] | rw [g_ff] | rw [g_tf] | rw [gc_tt] | rw [gc_ft] | rw [gc_ff] | rw [gc_tf] | rw [k_t] | rw [k_f] | rw [condB_true] | rw [condB_false] | rw [o_lss] | rw [o_geq] | rw [o_gtr] | rw [o_leq] | rw [o_not] | rw [o_ext0] | rw [o_ext1] | rw [gp_tt] | rw [gp_ft] | rw [gp_ff] | rw [gp_tf]
        rw [o_of e47']
        repeat first | rw [o_some] | rw [o_nilck] | rw [o_fadr0] | rw [o_of (LX.l0 V)] | rw [o_of (LX.l1 V)] | rw [o_of (LX.l2 V)] | rw [o_slen] | rw [g_tt] | rw [g_ft] | rw [g_ff] | rw [g_tf] | rw [gc_tt] | rw [gc_ft] | rw [gc_ff] | rw [gc_tf] | rw [k_t] | rw [k_f] | rw [condB_true] | rw [condB_false] | rw [o_lss] | rw [o_geq] | rw [o_gtr] | rw [o_leq] | rw [o_not] | rw [o_ext0] | rw [o_ext1] | rw [gp_tt] | rw [gp_ft] | rw [gp_ff] | rw [gp_tf]
        by_cases h2 : pk s (a + 1) = 47
        · rw [condB_t (decide_eq_true h2)]
          rw [if_pos ⟨h1, h2⟩, skip_remark] at hs
          repeat first | rw [o_some] | rw [o_nilck] | rw [o_fadr0] | rw [o_of (LX.l0 V)] | rw [o_of (LX.l1 V)] | rw [o_of (LX.l2 V)] | rw [o_slen] | rw [g_tt] | rw [g_ft] | rw [g_ff] | rw [g_tf] | rw [gc_tt] | rw [gc_ft] | rw [gc_ff] | rw [gc_tf] | rw [k_t] | rw [k_f] | rw [condB_true] | rw [condB_false] | rw [o_lss] | rw [o_geq] | rw [o_gtr] | rw [o_leq] | rw [o_not] | rw [o_ext0] | rw [o_ext1] | rw [gp_tt] | rw [gp_ft] | rw [gp_ff] | rw [gp_tf]
          rw [o_of (slice_from ha)]
          refine c20 (c := 10) (by decide) ?_
          have hgo : ∀ d : Nat, a + d ≤ s.length → 0 < d → a + skip false (s.drop a) = (a + d) + skip false (s.drop (a + d)) → p28_49 (callN E (n + 3)) (n + 3) B0 (.ptr x 0 0 0) (.int .i64 (d : Int)) h K = true := by
            intro d hd hd0 he
            unfold p28_49
            repeat first | rw [o_some] | rw [o_nilck] | rw [o_fadr0] | rw [o_of (LX.l0 V)] | rw [o_of (LX.l1 V)] | rw [o_of (LX.l2 V)] | rw [o_slen] | rw [g_tt] | rw [g_ft] | rw [g_ff] | rw [g_tf] | rw [gc_tt] | rw [gc_ft] | rw [gc_ff] | rw [gc_tf] | rw [k_t] | rw [k_f] | rw [condB_true] | rw [condB_false] | rw [o_lss] | rw [o_geq] | rw [o_gtr] | rw [o_leq] | rw [o_not] | rw [o_ext0] | rw [o_ext1] | rw [gp_tt] | rw [gp_ft] | rw [gp_ff] | rw [gp_tf]
            rw [o_of (nat64 (show a + d < lim by omega))]
            repeat first | rw [o_some] | rw [o_nilck] | rw [o_fadr0] | rw [o_of (LX.l0 V)] | rw [o_of (LX.l1 V)] | rw [o_of (LX.l2 V)] | rw [o_slen] | rw [g_tt] | rw [g_ft] | rw [g_ff] | rw [g_tf] | rw [gc_tt] | rw [gc_ft] | rw [gc_ff] | rw [gc_tf] | rw [k_t] | rw [k_f] | rw [condB_true] | rw [condB_false] | rw [o_lss] | rw [o_geq] | rw [o_gtr] | rw [o_leq] | rw [o_not] | rw [o_ext0] | rw [o_ext1] | rw [gp_tt] | rw [gp_ft] | rw [gp_ff] | rw [gp_tf]
            rw [u_of (V.set _)]
            exact go (a + d) (by omega) hd he
          show (optB _ _) = true
          cases hk : bidx 10 (s.drop a) with
          | none =>
            rw [hk] at hs
            have hl : (s.drop a).length = s.length - a := by simp
            have e0 : binA .lss (.int .i64 (fint none)) (AV.int .i64 0) = some (.bool true) := rfl
            rw [o_of e0]
            repeat first | rw [o_some] | rw [o_nilck] | rw [o_fadr0] | rw [o_of (LX.l0 V)] | rw [o_of (LX.l1 V)] | rw [o_of (LX.l2 V)] | rw [o_slen] | rw [g_tt] | rw [g_ft] | rw [g_ff] | rw [g_tf] | rw [gc_tt] | rw [gc_ft] | rw [gc_ff] | rw [gc_tf] | rw [k_t] | rw [k_f] | rw [condB_true] | rw [condB_false] | rw [o_lss] | rw [o_geq] | rw [o_gtr] | rw [o_leq] | rw [o_not] | rw [o_ext0] | rw [o_ext1] | rw [gp_tt] | rw [gp_ft] | rw [gp_ff] | rw [gp_tf]
            rw [o_of (natsub64 ha (show s.length < lim by omega))]
            refine hgo (s.length - a) (by omega) (by omega) ?_
            rw [show a + (s.length - a) = s.length by omega, List.drop_length]
            simp only [hl] at hs
            rw [hs]
            simp only [skip]; omega
          | some k =>
            rw [hk] at hs
            have hlt := bidx_lt hk
            simp only [List.length_drop] at hlt
            have hk0 : 0 < k := by
              rcases Nat.eq_zero_or_pos k with h0 | h0
              · subst h0
                rw [drop_pk hend] at hk
                simp only [bidx] at hk
                rw [if_neg (by rw [h1]; decide)] at hk
                cases hq : bidx 10 (s.drop (a + 1)) <;> rw [hq] at hk <;> simp at hk
              · exact h0
            have e0 : binA .lss (.int .i64 (fint (some k))) (AV.int .i64 0) = some (.bool false) := by
              rw [binA_lss]; rfl
            rw [o_of e0]
            repeat first | rw [o_some] | rw [o_nilck] | rw [o_fadr0] | rw [o_slen] | rw [g_tt] | rw [g_ft] | rw [g_ff] | rw [g_tf] | rw [gc_tt] | rw [gc_ft] | rw [gc_ff] | rw [gc_tf] | rw [k_t] | rw [k_f] | rw [condB_true] | rw [condB_false] | rw [o_lss] | rw [o_geq] | rw [o_gtr] | rw [o_leq] | rw [o_not] | rw [o_ext0] | rw [o_ext1] | rw [gp_tt] | rw [gp_ft] | rw [gp_ff] | rw [gp_tf]
            refine hgo k (by omega) hk0 ?_
            simp only [List.drop_drop] at hs
            omega
        · rw [condB_f (decide_eq_false h2)]
          rw [if_neg (by omega)] at hs
          exact kE hs
      · rw [decide_eq_false h1]
        repeat first | rw [o_some] | rw [o_nilck] | rw [o_fadr0] | rw [o_slen] | rw [g_tt] | rw [g_ft] | rw [g_ff] | rw [g_tf] | rw [gc_tt] | rw [gc_ft] | rw [gc_ff] | rw [gc_tf] | rw [k_t] | rw [k_f] | rw [condB_true] | rw [condB_false] | rw [o_lss] | rw [o_geq] | rw [o_gtr] | rw [o_leq] | rw [o_not] | rw [o_ext0] | rw [o_ext1] | rw [gp_tt] | rw [gp_ft] | rw [gp_ff] | rw [gp_tf]
        rw [if_neg (by omega)] at hs
        exact kE hs
  · have hp := pk_ge (s := s) (i := a) (by omega)
    have hb : blankB (pk s a) = false := by rw [hp]; rfl
    have e47 : binA .eql (.int .u8 (pk s a : Int)) (AV.int .u8 47) = some (.bool false) := by rw [hp]; rfl
    rw [hb]
    repeat first | rw [o_some] | rw [o_nilck] | rw [o_fadr0] | rw [o_slen] | rw [g_tt] | rw [g_ft] | rw [g_ff] | rw [g_tf] | rw [gc_tt] | rw [gc_ft] | rw [gc_ff] | rw [gc_tf] | rw [k_t] | rw [k_f] | rw [condB_true] | rw [condB_false] | rw [o_lss] | rw [o_geq] | rw [o_gtr] | rw [o_leq] | rw [o_not] | rw [o_ext0] | rw [o_ext1] | rw [gp_tt] | rw [gp_ft] | rw [gp_ff] | rw [gp_tf]
    rw [o_of e47]
    repeat first | rw [o_some] | rw [o_nilck] | rw [o_fadr0] | rw [o_slen] | rw [g_tt] | rw [g_ft] | rw [g_ff] | rw [g_tf] | rw [gc_tt] | rw [gc_ft] | rw [gc_ff] | rw [gc_tf] | rw [k_t] | rw [k_f] | rw [condB_true] | rw [condB_false] | rw [o_lss] | rw [o_geq] | rw [o_gtr] | rw [o_leq] | rw [o_not] | rw [o_ext0] | rw [o_ext1] | rw [gp_tt] | rw [gp_ft] | rw [gp_ff] | rw [gp_tf]
    exact kE (by rw [List.drop_of_length_le (by omega)]; rfl)

theorem g28 {n x : Nat} {s : Str} {bad : Bool} {K : Kont} (hL : s.length + 1 < lim) : ∀ (m a : Nat) (h : AHeap), LX h x s a bad → h.Ok → a ≤ s.length → s.length - a < m →
    (∀ h', But x h h' → h'.Ok → LX h' x s (a + skip false (s.drop a)) bad → K (.tup []) h' = true) → g28_0 (callN E (n + 3)) (n + 3) m (.ptr x 0 0 0) h K = true := by
  intro m
  induction m with
  | zero => intro a h _ _ _ hm; omega
  | succ m ih =>
    intro a h V ho ha hm k
    unfold g28_0
    refine j28 V ho hL ha (fun h' a' B o' V' h1 h2 h3 => ih a' h' V' o' h2 (by omega) fun h'' B' o'' V'' => k h'' (B.trans B') o'' (by rw [h3]; exact V'')) fun h0 => k h (But.refl _ _) ho (by rw [h0]; exact V)

theorem c28 {n x a : Nat} {s : Str} {bad : Bool} {h : AHeap} {K : Kont} (V : LX h x s a bad) (ho : h.Ok) (hL : s.length + 1 < lim) (ha : a ≤ s.length) (hn : s.length < n)
    (k : ∀ h', But x h h' → h'.Ok → LX h' x s (a + skip false (s.drop a)) bad → K (.tup []) h' = true) : callN E (n + 4) (.func 28) [.ptr x 0 0 0] h K = true := by
  apply d28
  show j28_0 (callN E (n + 3)) (n + 3) (fun x0 h => g28_0 (callN E (n + 3)) (n + 3) (n + 3) x0 h K) (.ptr x 0 0 0) h K = true
  refine j28 V ho hL ha (fun h' a' B o' V' h1 h2 h3 => g28 hL _ a' h' V' o' h2 (by omega) fun h'' B' o'' V'' => k h'' (B.trans B') o'' (by rw [h3]; exact V'')) fun h0 => k h (But.refl _ _) ho (by rw [h0]; exact V)

/-! ### Marks -/
def twos : List Str := [[61, 61], [33, 61], [60, 61], [62, 61], [38, 38], [124, 124]]
def singles : Str := [40, 41, 91, 93, 123, 125, 44, 46, 58, 59, 63, 60, 62, 61, 43, 45, 42, 47, 37, 33]
/-- How long a mark is that begins here. -/
def markL (l : Str) : Nat := if (twos.any fun t => t.isPrefixOf l) = true then 2 else match l with
  | [] => 0
  | c :: _ => if (bidx c singles).isSome = true then 1 else 0

theorem l43 {n x a : Nat} {s : Str} {bad : Bool} {h : AHeap} {v : AV} {K : Kont} (V : LX h x s a bad) (W : View h 1 v (twos.map fun t => [.str t])) (hb : ∀ b ∈ s, b < 256) (ha : a < s.length)
    (k : K (.int .i64 (markL (s.drop a) : Int)) h = true) : ∀ (m i : Nat), i ≤ 6 → 6 - i < m → ((twos.take i).any fun t => t.isPrefixOf (s.drop a)) = false →
    l43_6 (callN E (n + 3)) (n + 3) m (.ptr x 0 0 0) v (.int .i64 6) (.int .i64 (i : Int)) h K = true := by
  intro m
  induction m with
  | zero => intro i _ hm; omega
  | succ m ih =>
    intro i hi hm hany
    unfold l43_6 b43_6
    by_cases hlt : i < 6
    · have ht : twos[i]? = some (twos[i]'hlt) := List.getElem?_eq_getElem hlt
      have he : (twos.map fun t => [AV.str t])[i]? = some [.str (twos[i]'hlt)] := by rw [List.getElem?_map, ht]; rfl
      obtain ⟨id, g, j, p1, p2⟩ := W.at he
      have e6 : decide ((i : Int) < 6) = true := decide_eq_true (by omega)
      have p3 : loadA h false 1 (.ptr id g j 0) = some (.str (twos[i]'hlt)) := by rw [p2]; rfl
      rw [o_lss, condB_t e6, o_of (p1 _), o_of p3]
      repeat first | rw [o_some] | rw [o_nilck] | rw [o_fadr0] | rw [o_of (LX.l0 V)] | rw [o_of (LX.l1 V)] | rw [o_of (LX.l2 V)] | rw [o_slen] | rw [g_tt] | rw [g_ft] | rw [g_ff] | rw [g_tf] | rw [gc_tt] | rw [gc_ft] | rw [gc_ff] | rw [gc_tf] | rw [k_t] | rw [k_f] | rw [condB_true] | rw [condB_false] | rw [o_lss] | rw [o_geq] | rw [o_gtr] | rw [o_leq] | rw [o_not] | rw [o_ext0] | rw [o_ext1] | rw [gp_tt] | rw [gp_ft] | rw [gp_ff] | rw [gp_tf]
      rw [o_of (slice_from (Nat.le_of_lt ha))]
      refine c45 ?_
      cases hp : (twos[i]'hlt).isPrefixOf (s.drop a) with
      | true =>
        have : (twos.any fun t => t.isPrefixOf (s.drop a)) = true := List.any_eq_true.2 ⟨_, List.getElem_mem hlt, hp⟩
        have e : markL (s.drop a) = 2 := by unfold markL; rw [if_pos this]
        rw [e] at k
        repeat first | rw [o_some] | rw [o_nilck] | rw [o_fadr0] | rw [o_slen] | rw [g_tt] | rw [g_ft] | rw [g_ff] | rw [g_tf] | rw [gc_tt] | rw [gc_ft] | rw [gc_ff] | rw [gc_tf] | rw [k_t] | rw [k_f] | rw [condB_true] | rw [condB_false] | rw [o_lss] | rw [o_geq] | rw [o_gtr] | rw [o_leq] | rw [o_not] | rw [o_ext0] | rw [o_ext1] | rw [gp_tt] | rw [gp_ft] | rw [gp_ff] | rw [gp_tf]
        exact k
      | false =>
        repeat first | rw [o_some] | rw [o_nilck] | rw [o_fadr0] | rw [o_slen] | rw [g_tt] | rw [g_ft] | rw [g_ff] | rw [g_tf] | rw [gc_tt] | rw [gc_ft] | rw [gc_ff] | rw [gc_tf] | rw [k_t] | rw [k_f] | rw [condB_true] | rw [condB_false] | rw [o_lss] | rw [o_geq] | rw [o_gtr] | rw [o_leq] | rw [o_not] | rw [o_ext0] | rw [o_ext1] | rw [gp_tt] | rw [gp_ft] | rw [gp_ff] | rw [gp_tf]
        rw [o_of (inc64 (show i < lim by have := lim_eq; omega))]
        refine ih (i + 1) (by omega) (by omega) ?_
        rw [List.take_add_one, ht, List.any_append, hany]
        simp [hp]
    · have hi6 : i = 6 := by omega
      subst hi6
      have e6 : decide (((6 : Nat) : Int) < 6) = false := decide_eq_false (by omega)
      have hany' : (twos.any fun t => t.isPrefixOf (s.drop a)) = false := by
        have : twos.take 6 = twos := rfl
        rw [this] at hany; exact hany
      have hm0 : markL (s.drop a) = if (bidx (pk s a) singles).isSome = true then 1 else 0 := by
        unfold markL
        rw [if_neg (by rw [hany']; decide), drop_pk ha]
      rw [o_lss, condB_f e6]
      unfold p43_25
      repeat first | rw [o_some] | rw [o_nilck] | rw [o_fadr0] | rw [o_of (LX.l0 V)] | rw [o_of (LX.l1 V)] | rw [o_of (LX.l2 V)] | rw [o_slen] | rw [g_tt] | rw [g_ft] | rw [g_ff] | rw [g_tf] | rw [gc_tt] | rw [gc_ft] | rw [gc_ff] | rw [gc_tf] | rw [k_t] | rw [k_f] | rw [condB_true] | rw [condB_false] | rw [o_lss] | rw [o_geq] | rw [o_gtr] | rw [o_leq] | rw [o_not] | rw [o_ext0] | rw [o_ext1] | rw [gp_tt] | rw [gp_ft] | rw [gp_ff] | rw [gp_tf]
      rw [o_of (idxs_pk ha)]
      refine c20 (c := pk s a) (by rw [pk_lt ha]; exact hb _ (List.getElem_mem ha)) ?_
      rw [hm0] at k
      show (optB (binA .geq (.int .i64 (fint (bidx (pk s a) singles))) _) _) = true
      cases hs : bidx (pk s a) singles with
      | none =>
        rw [hs] at k
        have e0 : binA .geq (.int .i64 (fint none)) (AV.int .i64 0) = some (.bool false) := rfl
        rw [o_of e0]
        repeat first | rw [o_some] | rw [o_nilck] | rw [o_fadr0] | rw [o_slen] | rw [g_tt] | rw [g_ft] | rw [g_ff] | rw [g_tf] | rw [gc_tt] | rw [gc_ft] | rw [gc_ff] | rw [gc_tf] | rw [k_t] | rw [k_f] | rw [condB_true] | rw [condB_false] | rw [o_lss] | rw [o_geq] | rw [o_gtr] | rw [o_leq] | rw [o_not] | rw [o_ext0] | rw [o_ext1] | rw [gp_tt] | rw [gp_ft] | rw [gp_ff] | rw [gp_tf]
        exact k
      | some j =>
        rw [hs] at k
        have e0 : binA .geq (.int .i64 (fint (some j))) (AV.int .i64 0) = some (.bool true) := by
          rw [binA_geq]; rfl
        rw [o_of e0]
        repeat first | rw [o_some] | rw [o_nilck] | rw [o_fadr0] | rw [o_slen] | rw [g_tt] | rw [g_ft] | rw [g_ff] | rw [g_tf] | rw [gc_tt] | rw [gc_ft] | rw [gc_ff] | rw [gc_tf] | rw [k_t] | rw [k_f] | rw [condB_true] | rw [condB_false] | rw [o_lss] | rw [o_geq] | rw [o_gtr] | rw [o_leq] | rw [o_not] | rw [o_ext0] | rw [o_ext1] | rw [gp_tt] | rw [gp_ft] | rw [gp_ff] | rw [gp_tf]
        exact k

theorem c43 {n x a : Nat} {s : Str} {bad : Bool} {h : AHeap} {K : Kont} (V : LX h x s a bad) (ho : h.Ok) (hb : ∀ b ∈ s, b < 256) (ha : a < s.length) (hn : 6 ≤ n)
    (k : ∀ h', Ext h h' → h'.Ok → K (.int .i64 (markL (s.drop a) : Int)) h' = true) : callN E (n + 4) (.func 43) [.ptr x 0 0 0] h K = true := by
  apply d43
  unfold s43
  obtain ⟨v, g1, W⟩ := bslice_view (h := h) (n := 6) (sz := 1) (z := [AV.str []]) (ps := [(0, (AV.str [61, 61])), (1, (AV.str [33, 61])), (2, (AV.str [60, 61])), (3, (AV.str [62, 61])), (4, (AV.str [38, 38])), (5, (AV.str [124, 124]))]) (es := twos.map fun t => [.str t]) rfl (by decide) (by decide) rfl rfl rfl
  rw [g1, optP_some]
  have e := ext_newRow ho (twos.map fun t => [AV.str t]) 1
  have o := ok_newRow ho (twos.map fun t => [AV.str t]) 1
  rw [o_of W.len]
  exact l43 (V.ext e) W hb ha (k _ e o) (n + 3) 0 (by omega) (by omega) rfl
end Go.Proofs.Ytajjclkdggoobaa
