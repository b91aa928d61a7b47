/-
  Quoted texts; a lexeme.
-/
import Derived.Test.YtajjclkdggoobaaL2
import Derived.Test.YtajjclkdggoobaaL3
namespace Go.Proofs.Ytajjclkdggoobaa
open Go.Ab
set_option linter.unusedSimpArgs false
set_option linter.unusedVariables false

/-- What stands behind a backslash. -/
def esc (d : Nat) : Option Nat := if d = 34 then some 34 else if d = 92 then some 92 else if d = 110 then some 10 else if d = 116 then some 9 else none

/-- Behind the opening quote: what it says, and how many bytes. -/
def quo : Str → Option (Str × Nat)
  | [] => none
  | [c] => if c = 34 then some ([], 1) else none
  | c :: d :: l => if c = 34 then some ([], 1) else if c = 92 then (match esc d with
      | none => none
      | some e => (quo l).map fun r => (e :: r.1, r.2 + 2))
    else if c < 32 then none else (quo (d :: l)).map fun r => (c :: r.1, r.2 + 1)

theorem quo_le : ∀ (l : Str) (t : Str) (m : Nat), quo l = some (t, m) → 0 < m ∧ m ≤ l.length ∧ t.length + 1 ≤ m
  | [], t, m, h => by cases h
  | [c], t, m, h => by
    simp only [quo] at h
    split at h
    · cases h; simp
    · cases h
  | c :: d :: l, t, m, h => by
    simp only [quo] at h
    split at h
    · cases h; simp
    · split at h
      · cases he : esc d with
        | none => rw [he] at h; cases h
        | some e =>
          rw [he] at h
          cases hq : quo l with
          | none => rw [hq] at h; cases h
          | some r =>
            rw [hq] at h
            obtain ⟨t', m'⟩ := r
            have := quo_le l t' m' hq
            cases h
            simp only [List.length_cons]; omega
      · split at h
        · cases h
        · cases hq : quo (d :: l) with
          | none => rw [hq] at h; cases h
          | some r =>
            rw [hq] at h
            obtain ⟨t', m'⟩ := r
            have := quo_le (d :: l) t' m' hq
            cases h
            simp only [List.length_cons] at *; omega

theorem quo_step {s : Str} {i : Nat} (h : i < s.length) : quo (s.drop i) = if pk s i = 34 then some ([], 1) else if pk s i = 92 then (match esc (pk s (i + 1)) with
      | none => none
      | some e => (quo (s.drop (i + 2))).map fun r => (e :: r.1, r.2 + 2))
    else if pk s i < 32 then none else (quo (s.drop (i + 1))).map fun r => (pk s i :: r.1, r.2 + 1) := by
  rw [drop_pk h]
  by_cases h1 : i + 1 < s.length
  · rw [drop_pk h1]; rfl
  · rw [List.drop_of_length_le (show s.length ≤ i + 1 by omega), pk_ge (show s.length ≤ i + 1 by omega)]
    have e0 : esc 0 = none := rfl
    simp only [quo, e0]
    split
    · rfl
    · split
      · rfl
      · split <;> rfl

theorem esc_idx (d : Nat) : esc d = match bidx d [34, 92, 110, 116] with | none => none | some k => some (pk [34, 92, 10, 9] k) := by
  by_cases h1 : d = 34
  · subst h1; rfl
  by_cases h2 : d = 92
  · subst h2; rfl
  by_cases h3 : d = 110
  · subst h3; rfl
  by_cases h4 : d = 116
  · subst h4; rfl
  simp only [esc, bidx, if_neg h1, if_neg h2, if_neg h3, if_neg h4, if_neg (fun e => h1 (Eq.symm e) : ¬ 34 = d), if_neg (fun e => h2 (Eq.symm e) : ¬ 92 = d), if_neg (fun e => h3 (Eq.symm e) : ¬ 110 = d), if_neg (fun e => h4 (Eq.symm e) : ¬ 116 = d)]
  rfl

theorem pk_byte {s : Str} (hb : ∀ b ∈ s, b < 256) (i : Nat) : pk s i < 256 := by
  by_cases h : i < s.length
  · rw [pk_lt h]; exact hb _ (List.getElem_mem h)
  · rw [pk_ge (by omega)]; omega

/-- The answer of 'quoted'. -/
def quoR (acc : Str) (i : Nat) : Option (Str × Nat) → AV
  | none => .tup [.str [], .int .i64 0]
  | some r => .tup [.str (acc ++ r.1), .int .i64 ((i + r.2 : Nat) : Int)]

theorem l42 {n x a bd : Nat} {s : Str} {bad : Bool} {h0 : AHeap} {K : Kont} (V : LX h0 x s a bad) (ho0 : h0.Ok) (hL : 2 * s.length + 4 < most) (hb : ∀ b ∈ s, b < 256) (ha : a ≤ s.length) (hid : h0.sz ≤ bd)
    : ∀ (m i : Nat) (acc : Str) (h : AHeap), h.Ok → Ext h0 h → Bld h bd acc → acc.length ≤ i → i ≤ s.length + 2 → s.length + 2 - i < m → 
      (∀ h', Ext h0 h' → h'.Ok → K (quoR acc i (quo (s.drop (a + i)))) h' = true) → l42_8 (callN E (n + 3)) (n + 3) m (.ptr x 0 0 0) (.ptr bd 0 0 0) (.int .i64 (i : Int)) h K = true := by
  have hlim : most < lim := by decide
  intro m
  induction m with
  | zero => intro i acc h _ _ _ _ _ hm; omega
  | succ m ih =>
    intro i acc h ho e0 B hacc hi hm k
    have V' : LX h x s a bad := Var.ext V e0
    unfold l42_8 b42_8
    repeat first | rw [o_some] | rw [o_nilck] | rw [o_fadr0] | rw [o_of (LX.l0 V')] | rw [o_of (LX.l1 V')] | rw [o_of (LX.l2 V')] | rw [o_slen] | rw [g_tt] | rw [g_ft] | rw [g_ff] | rw [g_tf] | rw [gc_tt] | rw [gc_ft] | rw [gc_ff] | rw [gc_tf] | rw [k_t] | rw [k_f] | rw [condB_true] | rw [condB_false] | rw [o_lss] | rw [o_geq] | rw [o_gtr] | rw [o_leq] | rw [o_not] | rw [o_ext0] | rw [o_ext1] | rw [gp_tt] | rw [gp_ft] | rw [gp_ff] | rw [gp_tf]
    rw [o_of (nat64 (show a + i < lim by omega))]
    repeat first | rw [o_some] | rw [o_nilck] | rw [o_fadr0] | rw [o_of (LX.l0 V')] | rw [o_of (LX.l1 V')] | rw [o_of (LX.l2 V')] | rw [o_slen] | rw [g_tt] | rw [g_ft] | rw [g_ff] | rw [g_tf] | rw [gc_tt] | rw [gc_ft] | rw [gc_ff] | rw [gc_tf] | rw [k_t] | rw [k_f] | rw [condB_true] | rw [condB_false] | rw [o_lss] | rw [o_geq] | rw [o_gtr] | rw [o_leq] | rw [o_not] | rw [o_ext0] | rw [o_ext1] | rw [gp_tt] | rw [gp_ft] | rw [gp_ff] | rw [gp_tf]
    by_cases hlt : a + i < s.length
    · rw [condB_t (decide_eq_true (by omega))]
      have hq := quo_step hlt
      rw [hq] at k
      refine c36 V' (by omega) ha ?_
      show (optB _ _) = true
      have e34 : binA .eql (.int .u8 (pk s (a + i) : Int)) (AV.int .u8 34) = some (.bool (decide (pk s (a + i) = 34))) := eqb 34 _
      rw [o_of e34]
      by_cases h1 : pk s (a + i) = 34
      · rw [condB_t (decide_eq_true h1)]
        rw [if_pos h1] at k
        refine c21 B ho ho0 e0 hid (by omega) fun h' e' o' => ?_
        have e1 : binA .add (.int .i64 (i : Int)) (AV.int .i64 1) = some (.int .i64 ((i + 1 : Nat) : Int)) := lit64 1 (by omega)
        show (optB _ _) = true
        rw [o_of e1]
        have := k h' e' o'
        simp only [quoR, List.append_nil] at this
        exact this
      · rw [condB_f (decide_eq_false h1)]
        rw [if_neg h1] at k
        have e92 : binA .eql (.int .u8 (pk s (a + i) : Int)) (AV.int .u8 92) = some (.bool (decide (pk s (a + i) = 92))) := eqb 92 _
        rw [o_of e92]
        by_cases h2 : pk s (a + i) = 92
        · rw [condB_t (decide_eq_true h2)]
          rw [if_pos h2, show a + i + 1 = a + (i + 1) by omega] at k
          have e1 : binA .add (.int .i64 (i : Int)) (AV.int .i64 1) = some (.int .i64 ((i + 1 : Nat) : Int)) := lit64 1 (by omega)
          rw [o_of e1]
          refine c36 V' (k := i + 1) (by omega) ha ?_
          refine c20 (pk_byte hb _) ?_
          rw [esc_idx] at k
          show (optB (binA .lss (.int .i64 (fint (bidx (pk s (a + (i + 1))) [34, 92, 110, 116]))) _) _) = true
          cases hk : bidx (pk s (a + (i + 1))) [34, 92, 110, 116] with
          | none =>
            rw [hk] at k
            have e0' : binA .lss (.int .i64 (fint none)) (AV.int .i64 0) = some (.bool true) := rfl
            rw [o_of e0']
            repeat first | rw [o_some] | rw [o_nilck] | rw [o_fadr0] | rw [o_slen] | rw [g_tt] | rw [g_ft] | rw [g_ff] | rw [g_tf] | rw [gc_tt] | rw [gc_ft] | rw [gc_ff] | rw [gc_tf] | rw [k_t] | rw [k_f] | rw [condB_true] | rw [condB_false] | rw [o_lss] | rw [o_geq] | rw [o_gtr] | rw [o_leq] | rw [o_not] | rw [o_ext0] | rw [o_ext1] | rw [gp_tt] | rw [gp_ft] | rw [gp_ff] | rw [gp_tf]
            exact k h e0 ho
          | some j =>
            rw [hk] at k
            have e0' : binA .lss (.int .i64 (fint (some j))) (AV.int .i64 0) = some (.bool false) := by rw [binA_lss]; rfl
            have hj := bidx_lt hk
            have hj4 : j < 4 := hj
            rw [o_of e0']
            repeat first | rw [o_some] | rw [o_nilck] | rw [o_fadr0] | rw [o_slen] | rw [g_tt] | rw [g_ft] | rw [g_ff] | rw [g_tf] | rw [gc_tt] | rw [gc_ft] | rw [gc_ff] | rw [gc_tf] | rw [k_t] | rw [k_f] | rw [condB_true] | rw [condB_false] | rw [o_lss] | rw [o_geq] | rw [o_gtr] | rw [o_leq] | rw [o_not] | rw [o_ext0] | rw [o_ext1] | rw [gp_tt] | rw [gp_ft] | rw [gp_ff] | rw [gp_tf]
            rw [o_of (show idxsA (.str [34, 92, 10, 9]) (.int .i64 (fint (some j))) = some (.int .u8 (pk [34, 92, 10, 9] j : Int)) from idxs_pk (s := [34, 92, 10, 9]) hj)]
            refine c19 B ho ho0 e0 hid (by omega) (pk_byte (by decide) j) fun h' e' o' B' => ?_
            unfold p42_49
            have e2 : binA .add (.int .i64 ((i + 1 : Nat) : Int)) (AV.int .i64 1) = some (.int .i64 ((i + 2 : Nat) : Int)) := lit64 1 (by omega)
            rw [o_of e2]
            have hpos : a + (i + 1) < s.length := by
              rcases Nat.lt_or_ge (a + (i + 1)) s.length with hh | hh
              · exact hh
              · rw [pk_ge hh] at hk; cases hk
            refine ih (i + 2) _ h' o' e' B' (by simp; omega) (by omega) (by omega) fun h'' e'' o'' => ?_
            have := k h'' e'' o''
            rw [show a + i + 2 = a + (i + 2) by omega] at this
            cases hq2 : quo (s.drop (a + (i + 2))) with
            | none => rw [hq2] at this; exact this
            | some r =>
              rw [hq2] at this
              simp only [Option.map, quoR] at this ⊢
              rw [List.append_assoc]
              rw [show i + 2 + r.2 = i + (r.2 + 2) by omega]
              exact this
        · rw [condB_f (decide_eq_false h2)]
          rw [if_neg h2] at k
          have e32 : binA .lss (.int .u8 (pk s (a + i) : Int)) (AV.int .u8 32) = some (.bool (decide (pk s (a + i) < 32))) := ltb 32 _
          rw [o_of e32]
          by_cases h3 : pk s (a + i) < 32
          · rw [condB_t (decide_eq_true h3)]
            rw [if_pos h3] at k
            exact k h e0 ho
          · rw [condB_f (decide_eq_false h3)]
            rw [if_neg h3] at k
            refine c19 B ho ho0 e0 hid (by omega) (pk_byte hb _) fun h' e' o' B' => ?_
            unfold p42_49
            have e2 : binA .add (.int .i64 (i : Int)) (AV.int .i64 1) = some (.int .i64 ((i + 1 : Nat) : Int)) := lit64 1 (by omega)
            rw [o_of e2]
            refine ih (i + 1) _ h' o' e' B' (by simp; omega) (by omega) (by omega) fun h'' e'' o'' => ?_
            have := k h'' e'' o''
            rw [show a + i + 1 = a + (i + 1) by omega] at this
            cases hq2 : quo (s.drop (a + (i + 1))) with
            | none => rw [hq2] at this; exact this
            | some r =>
              rw [hq2] at this
              simp only [Option.map, quoR] at this ⊢
              rw [List.append_assoc]
              rw [show i + 1 + r.2 = i + (r.2 + 1) by omega]
              exact this
    · rw [condB_f (decide_eq_false (by omega))]
      rw [List.drop_of_length_le (by omega)] at k
      exact k h e0 ho

theorem c42 {n x a : Nat} {s : Str} {bad : Bool} {h : AHeap} {K : Kont} (V : LX h x s a bad) (ho : h.Ok) (hL : 2 * s.length + 4 < most) (hb : ∀ b ∈ s, b < 256) (ha : a ≤ s.length) (hn : s.length < n)
    (k : ∀ h', Ext h h' → h'.Ok → K (quoR [] 1 (quo (s.drop (a + 1)))) h' = true) : callN E (n + 4) (.func 42) [.ptr x 0 0 0] h K = true := by
  apply d42
  unfold s42
  obtain ⟨b1, b2, b3, b4⟩ := bld_new ho
  rw [p_of b1]
  exact l42 V ho hL hb ha (Nat.le_refl _) (n + 3) 1 [] _ b3 b4 b2 (by simp) (by omega) (by omega) k
end Go.Proofs.Ytajjclkdggoobaa
