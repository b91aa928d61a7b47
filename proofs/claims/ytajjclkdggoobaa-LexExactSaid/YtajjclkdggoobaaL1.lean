/-
  Letters, digits; what the lexer's small functions answer.
-/
import Derived.Test.YtajjclkdggoobaaL0
namespace Go.Proofs.Ytajjclkdggoobaa
open Go.Ab
set_option linter.unusedSimpArgs false
set_option linter.unusedVariables false

def letterB (b : Nat) : Bool := (decide (97 ≤ b) && decide (b ≤ 122)) || (decide (65 ≤ b) && decide (b ≤ 90))
def digitB (b : Nat) : Bool := decide (48 ≤ b) && decide (b ≤ 57)
def wordB (b : Nat) : Bool := letterB b || digitB b || decide (b = 95)
def blankB (b : Nat) : Bool := decide (b = 32) || decide (b = 9) || decide (b = 13) || decide (b = 10)

def letterI (b : Int) : Bool := (decide (97 ≤ b) && decide (b ≤ 122)) || (decide (65 ≤ b) && decide (b ≤ 90))
def digitI (b : Int) : Bool := decide (48 ≤ b) && decide (b ≤ 57)
theorem letterI_eq (b : Nat) : letterI (b : Int) = letterB b := by
  unfold letterI letterB
  rw [show decide ((97 : Int) ≤ (b : Int)) = decide (97 ≤ b) from decide_eq_decide.2 (by omega), show decide ((b : Int) ≤ 122) = decide (b ≤ 122) from decide_eq_decide.2 (by omega),
    show decide ((65 : Int) ≤ (b : Int)) = decide (65 ≤ b) from decide_eq_decide.2 (by omega), show decide ((b : Int) ≤ 90) = decide (b ≤ 90) from decide_eq_decide.2 (by omega)]
theorem digitI_eq (b : Nat) : digitI (b : Int) = digitB b := by
  unfold digitI digitB
  rw [show decide ((48 : Int) ≤ (b : Int)) = decide (48 ≤ b) from decide_eq_decide.2 (by omega), show decide ((b : Int) ≤ 57) = decide (b ≤ 57) from decide_eq_decide.2 (by omega)]

theorem i38 {n : Nat} {b : Int} {h : AHeap} {K : Kont} (k : K (.bool (letterI b)) h = true) : callN E (n + 1) (.func 38) [.int .u8 b] h K = true := by
  apply d38
  unfold s38
  unfold letterI at k
  cases h1 : decide (97 ≤ b) <;> cases h2 : decide (b ≤ 122) <;> cases h3 : decide (65 ≤ b) <;> cases h4 : decide (b ≤ 90) <;> simp only [h1, h2, h3, h4, optB_some, binA_geq, binA_leq, wantV_true, wantV_false, Bool.not_true, Bool.not_false, grdO_true, grdO_false, pickV_true, pickV_false, Bool.and_true, Bool.and_false, Bool.true_and, Bool.false_and, Bool.or_true, Bool.or_false, Bool.true_or, Bool.false_or, Bool.and_self, Bool.or_self] at k ⊢ <;> exact k
theorem c38 {n b : Nat} {h : AHeap} {K : Kont} (k : K (.bool (letterB b)) h = true) : callN E (n + 1) (.func 38) [.int .u8 (b : Int)] h K = true := i38 (by rw [letterI_eq]; exact k)

theorem i30 {n : Nat} {b : Int} {h : AHeap} {K : Kont} (k : K (.bool (letterI b)) h = true) : callN E (n + 1) (.func 30) [.int .u8 b] h K = true := by
  apply d30
  unfold s30
  unfold letterI at k
  cases h1 : decide (97 ≤ b) <;> cases h2 : decide (b ≤ 122) <;> cases h3 : decide (65 ≤ b) <;> cases h4 : decide (b ≤ 90) <;> simp only [h1, h2, h3, h4, optB_some, binA_geq, binA_leq, wantV_true, wantV_false, Bool.not_true, Bool.not_false, grdO_true, grdO_false, pickV_true, pickV_false, Bool.and_true, Bool.and_false, Bool.true_and, Bool.false_and, Bool.or_true, Bool.or_false, Bool.true_or, Bool.false_or, Bool.and_self, Bool.or_self] at k ⊢ <;> exact k
theorem c30 {n b : Nat} {h : AHeap} {K : Kont} (k : K (.bool (letterB b)) h = true) : callN E (n + 1) (.func 30) [.int .u8 (b : Int)] h K = true := i30 (by rw [letterI_eq]; exact k)

theorem i40 {n : Nat} {b : Int} {h : AHeap} {K : Kont} (k : K (.bool (digitI b)) h = true) : callN E (n + 1) (.func 40) [.int .u8 b] h K = true := by
  apply d40
  unfold s40
  unfold digitI at k
  cases h1 : decide (48 ≤ b) <;> cases h2 : decide (b ≤ 57) <;> simp only [h1, h2, optB_some, binA_geq, binA_leq, wantV_true, wantV_false, Bool.not_true, Bool.not_false, grdO_true, grdO_false, pickV_true, pickV_false, Bool.and_true, Bool.and_false, Bool.true_and, Bool.false_and, Bool.or_true, Bool.or_false, Bool.true_or, Bool.false_or, Bool.and_self, Bool.or_self] at k ⊢ <;> exact k
theorem c40 {n b : Nat} {h : AHeap} {K : Kont} (k : K (.bool (digitB b)) h = true) : callN E (n + 1) (.func 40) [.int .u8 (b : Int)] h K = true := i40 (by rw [digitI_eq]; exact k)

theorem i32 {n : Nat} {b : Int} {h : AHeap} {K : Kont} (k : K (.bool (digitI b)) h = true) : callN E (n + 1) (.func 32) [.int .u8 b] h K = true := by
  apply d32
  unfold s32
  unfold digitI at k
  cases h1 : decide (48 ≤ b) <;> cases h2 : decide (b ≤ 57) <;> simp only [h1, h2, optB_some, binA_geq, binA_leq, wantV_true, wantV_false, Bool.not_true, Bool.not_false, grdO_true, grdO_false, pickV_true, pickV_false, Bool.and_true, Bool.and_false, Bool.true_and, Bool.false_and, Bool.or_true, Bool.or_false, Bool.true_or, Bool.false_or, Bool.and_self, Bool.or_self] at k ⊢ <;> exact k
theorem c32 {n b : Nat} {h : AHeap} {K : Kont} (k : K (.bool (digitB b)) h = true) : callN E (n + 1) (.func 32) [.int .u8 (b : Int)] h K = true := i32 (by rw [digitI_eq]; exact k)

/-- A byte is this one. -/
theorem eqb (c : Nat) (b : Nat) : binA .eql (.int .u8 (b : Int)) (.int .u8 (c : Int)) = some (.bool (decide (b = c))) := by
  rw [binA_eql, show decide ((b : Int) = (c : Int)) = decide (b = c) from decide_eq_decide.2 (by omega)]
theorem neb (c : Nat) (b : Nat) : binA .neq (.int .u8 (b : Int)) (.int .u8 (c : Int)) = some (.bool (!decide (b = c))) := by
  rw [binA_neq, show decide ((b : Int) = (c : Int)) = decide (b = c) from decide_eq_decide.2 (by omega)]
theorem ltb (c : Nat) (b : Nat) : binA .lss (.int .u8 (b : Int)) (.int .u8 (c : Int)) = some (.bool (decide (b < c))) := by
  rw [binA_lss, show decide ((b : Int) < (c : Int)) = decide (b < c) from decide_eq_decide.2 (by omega)]

theorem c44 {n b : Nat} {h : AHeap} {K : Kont} (k : K (.bool (wordB b)) h = true) : callN E (n + 2) (.func 44) [.int .u8 (b : Int)] h K = true := by
  apply d44
  unfold s44
  refine c38 ?_
  unfold wordB at k
  cases hl : letterB b with
  | true => rw [hl] at k; simpa using k
  | false =>
    rw [hl] at k
    simp only [wantV_false, Bool.not_false, grdO_true, grdC_true, optB_some]
    refine c40 ?_
    cases hd : digitB b with
    | true => rw [hd] at k; simpa using k
    | false =>
      rw [hd] at k
      have e : binA .eql (.int .u8 (b : Int)) (AV.int .u8 95) = some (.bool (decide (b = 95))) := eqb 95 b
      simp only [pickV_false, optB_some, wantV_false, Bool.not_false, grdO_true, e]
      simpa using k

/-! ### The lexer -/
/-- The lexer at 'x': its text, its place, whether it is bad. -/
def LX (h : AHeap) (x : Nat) (s : Str) (a : Nat) (bad : Bool) : Prop := Var h x [.str s, .int .i64 (a : Int), .bool bad]

theorem LX.l0 {h : AHeap} {x a : Nat} {s : Str} {bad : Bool} (V : LX h x s a bad) : loadA h false 1 (.ptr x 0 0 0) = some (.str s) := by rw [Var.load V]; rfl
theorem LX.l1 {h : AHeap} {x a : Nat} {s : Str} {bad : Bool} (V : LX h x s a bad) : loadA h false 1 (.ptr x 0 0 1) = some (.int .i64 (a : Int)) := by rw [Var.load V]; rfl
theorem LX.l2 {h : AHeap} {x a : Nat} {s : Str} {bad : Bool} (V : LX h x s a bad) : loadA h false 1 (.ptr x 0 0 2) = some (.bool bad) := by rw [Var.load V]; rfl
theorem LX.set {h : AHeap} {x a : Nat} {s : Str} {bad : Bool} (V : LX h x s a bad) (b : Nat) : storeA h 1 (.ptr x 0 0 1) (.int .i64 (b : Int)) = some (h.put x (.row (VRow [.str s, .int .i64 (b : Int), .bool bad]))) := by
  rw [Var.set1 V (by show 1 < 3; omega) rfl]; rfl
theorem LX.setb {h : AHeap} {x a : Nat} {s : Str} {bad : Bool} (V : LX h x s a bad) (b : Bool) : storeA h 1 (.ptr x 0 0 2) (.bool b) = some (h.put x (.row (VRow [.str s, .int .i64 (a : Int), .bool b]))) := by
  rw [Var.set1 V (by show 2 < 3; omega) rfl]; rfl
theorem lx_put (h : AHeap) (x : Nat) (s : Str) (a : Nat) (bad : Bool) : LX (h.put x (.row (VRow [.str s, .int .i64 (a : Int), .bool bad]))) x s a bad := var_put x _

theorem c36 {n x a k : Nat} {s : Str} {bad : Bool} {h : AHeap} {K : Kont} (V : LX h x s a bad) (hL : s.length + k < lim) (ha : a ≤ s.length) (kk : K (.int .u8 (pk s (a + k) : Int)) h = true) : callN E (n + 1) (.func 36) [.ptr x 0 0 0, .int .i64 (k : Int)] h K = true := by
  apply d36
  unfold s36
  repeat first | rw [o_some] | rw [o_nilck] | rw [o_fadr0] | rw [o_of (LX.l0 V)] | rw [o_of (LX.l1 V)] | rw [o_of (LX.l2 V)] | rw [o_slen] | rw [g_tt] | rw [g_ft] | rw [g_ff] | rw [g_tf] | rw [gc_tt] | rw [gc_ft] | rw [gc_ff] | rw [gc_tf] | rw [k_t] | rw [k_f] | rw [condB_true] | rw [condB_false] | rw [o_lss] | rw [o_geq] | rw [o_gtr] | rw [o_leq] | rw [o_not] | rw [o_ext0] | rw [o_ext1] | rw [gp_tt] | rw [gp_ft] | rw [gp_ff] | rw [gp_tf]
  rw [o_of (nat64 (show a + k < lim by omega))]
  repeat first | rw [o_some] | rw [o_nilck] | rw [o_fadr0] | rw [o_of (LX.l0 V)] | rw [o_of (LX.l1 V)] | rw [o_of (LX.l2 V)] | rw [o_slen] | rw [g_tt] | rw [g_ft] | rw [g_ff] | rw [g_tf] | rw [gc_tt] | rw [gc_ft] | rw [gc_ff] | rw [gc_tf] | rw [k_t] | rw [k_f] | rw [condB_true] | rw [condB_false] | rw [o_lss] | rw [o_geq] | rw [o_gtr] | rw [o_leq] | rw [o_not] | rw [o_ext0] | rw [o_ext1] | rw [gp_tt] | rw [gp_ft] | rw [gp_ff] | rw [gp_tf]
  by_cases hlt : a + k < s.length
  · rw [condB_f (decide_eq_false (by omega))]
    repeat first | rw [o_some] | rw [o_nilck] | rw [o_fadr0] | rw [o_of (LX.l0 V)] | rw [o_of (LX.l1 V)] | rw [o_of (LX.l2 V)] | rw [o_slen] | rw [g_tt] | rw [g_ft] | rw [g_ff] | rw [g_tf] | rw [gc_tt] | rw [gc_ft] | rw [gc_ff] | rw [gc_tf] | rw [k_t] | rw [k_f] | rw [condB_true] | rw [condB_false] | rw [o_lss] | rw [o_geq] | rw [o_gtr] | rw [o_leq] | rw [o_not] | rw [o_ext0] | rw [o_ext1] | rw [gp_tt] | rw [gp_ft] | rw [gp_ff] | rw [gp_tf]
    rw [o_of (nat64 (show a + k < lim by omega)), o_of (idxs_pk hlt)]
    exact kk
  · rw [condB_t (decide_eq_true (by omega))]
    rw [pk_ge (by omega)] at kk
    exact kk

theorem l41 {n x a f : Nat} {p : Nat → Bool} {fv : AV} {s : Str} {bad : Bool} {h : AHeap} {K : Kont} (V : LX h x s a bad) (hL : s.length + f < lim) (ha : a ≤ s.length)
    (hf : ∀ (b : Nat) (K' : Kont), K' (.bool (p b)) h = true → callV (callN E n) fv [.int .u8 (b : Int)] h K' = true) : ∀ (m j : Nat), a + f + j ≤ s.length ∨ j = 0 → s.length - (a + f + j) < m →
    K (.int .i64 ((j + ((s.drop (a + f + j)).takeWhile p).length : Nat) : Int)) h = true → l41_6 (callN E n) n m (.ptr x 0 0 0) (.int .i64 (f : Int)) fv (.int .i64 (j : Int)) h K = true := by
  intro m
  induction m with
  | zero => intro j _ hm; omega
  | succ m ih =>
    intro j hj hm k
    unfold l41_6 b41_6
    have hb1 : a + f + j < lim := by omega
    repeat first | rw [o_some] | rw [o_nilck] | rw [o_fadr0] | rw [o_of (LX.l0 V)] | rw [o_of (LX.l1 V)] | rw [o_of (LX.l2 V)] | rw [o_slen] | rw [g_tt] | rw [g_ft] | rw [g_ff] | rw [g_tf] | rw [gc_tt] | rw [gc_ft] | rw [gc_ff] | rw [gc_tf] | rw [k_t] | rw [k_f] | rw [condB_true] | rw [condB_false] | rw [o_lss] | rw [o_geq] | rw [o_gtr] | rw [o_leq] | rw [o_not] | rw [o_ext0] | rw [o_ext1] | rw [gp_tt] | rw [gp_ft] | rw [gp_ff] | rw [gp_tf]
    rw [o_of (nat64 (show a + f < lim by omega)), o_of (nat64 hb1)]
    repeat first | rw [o_some] | rw [o_nilck] | rw [o_fadr0] | rw [o_of (LX.l0 V)] | rw [o_of (LX.l1 V)] | rw [o_of (LX.l2 V)] | rw [o_slen] | rw [g_tt] | rw [g_ft] | rw [g_ff] | rw [g_tf] | rw [gc_tt] | rw [gc_ft] | rw [gc_ff] | rw [gc_tf] | rw [k_t] | rw [k_f] | rw [condB_true] | rw [condB_false] | rw [o_lss] | rw [o_geq] | rw [o_gtr] | rw [o_leq] | rw [o_not] | rw [o_ext0] | rw [o_ext1] | rw [gp_tt] | rw [gp_ft] | rw [gp_ff] | rw [gp_tf]
    by_cases hlt : a + f + j < s.length
    · have hd : decide (((a + f + j : Nat) : Int) < (s.length : Int)) = true := decide_eq_true (by omega)
      rw [drop_pk hlt, List.takeWhile_cons] at k
      rw [hd]
      repeat first | rw [o_some] | rw [o_nilck] | rw [o_fadr0] | rw [o_of (LX.l0 V)] | rw [o_of (LX.l1 V)] | rw [o_of (LX.l2 V)] | rw [o_slen] | rw [g_tt] | rw [g_ft] | rw [g_ff] | rw [g_tf] | rw [gc_tt] | rw [gc_ft] | rw [gc_ff] | rw [gc_tf] | rw [k_t] | rw [k_f] | rw [condB_true] | rw [condB_false] | rw [o_lss] | rw [o_geq] | rw [o_gtr] | rw [o_leq] | rw [o_not] | rw [o_ext0] | rw [o_ext1] | rw [gp_tt] | rw [gp_ft] | rw [gp_ff] | rw [gp_tf]
      rw [o_of (nat64 (show a + f < lim by omega))]
      repeat first | rw [o_some] | rw [o_nilck] | rw [o_fadr0] | rw [o_of (LX.l0 V)] | rw [o_of (LX.l1 V)] | rw [o_of (LX.l2 V)] | rw [o_slen] | rw [g_tt] | rw [g_ft] | rw [g_ff] | rw [g_tf] | rw [gc_tt] | rw [gc_ft] | rw [gc_ff] | rw [gc_tf] | rw [k_t] | rw [k_f] | rw [condB_true] | rw [condB_false] | rw [o_lss] | rw [o_geq] | rw [o_gtr] | rw [o_leq] | rw [o_not] | rw [o_ext0] | rw [o_ext1] | rw [gp_tt] | rw [gp_ft] | rw [gp_ff] | rw [gp_tf]
      rw [o_of (nat64 hb1)]
      repeat first | rw [o_some] | rw [o_nilck] | rw [o_fadr0] | rw [o_of (LX.l0 V)] | rw [o_of (LX.l1 V)] | rw [o_of (LX.l2 V)] | rw [o_slen] | rw [g_tt] | rw [g_ft] | rw [g_ff] | rw [g_tf] | rw [gc_tt] | rw [gc_ft] | rw [gc_ff] | rw [gc_tf] | rw [k_t] | rw [k_f] | rw [condB_true] | rw [condB_false] | rw [o_lss] | rw [o_geq] | rw [o_gtr] | rw [o_leq] | rw [o_not] | rw [o_ext0] | rw [o_ext1] | rw [gp_tt] | rw [gp_ft] | rw [gp_ff] | rw [gp_tf]
      rw [o_of (idxs_pk hlt)]
      repeat first | rw [o_some] | rw [o_nilck] | rw [o_fadr0] | rw [o_of (LX.l0 V)] | rw [o_of (LX.l1 V)] | rw [o_of (LX.l2 V)] | rw [o_slen] | rw [g_tt] | rw [g_ft] | rw [g_ff] | rw [g_tf] | rw [gc_tt] | rw [gc_ft] | rw [gc_ff] | rw [gc_tf] | rw [k_t] | rw [k_f] | rw [condB_true] | rw [condB_false] | rw [o_lss] | rw [o_geq] | rw [o_gtr] | rw [o_leq] | rw [o_not] | rw [o_ext0] | rw [o_ext1] | rw [gp_tt] | rw [gp_ft] | rw [gp_ff] | rw [gp_tf]
      refine hf _ _ ?_
      cases hp : p (pk s (a + f + j)) with
      | true =>
        rw [hp] at k
        repeat first | rw [o_some] | rw [o_nilck] | rw [o_fadr0] | rw [o_slen] | rw [g_tt] | rw [g_ft] | rw [g_ff] | rw [g_tf] | rw [gc_tt] | rw [gc_ft] | rw [gc_ff] | rw [gc_tf] | rw [k_t] | rw [k_f] | rw [condB_true] | rw [condB_false] | rw [o_lss] | rw [o_geq] | rw [o_gtr] | rw [o_leq] | rw [o_not] | rw [o_ext0] | rw [o_ext1] | rw [gp_tt] | rw [gp_ft] | rw [gp_ff] | rw [gp_tf]
        rw [o_of (inc64 (show j < lim by omega))]
        refine ih (j + 1) (by omega) (by omega) ?_
        rw [if_pos rfl, List.length_cons] at k
        have e1 : j + 1 + ((s.drop (a + f + (j + 1))).takeWhile p).length = j + (((s.drop (a + f + j + 1)).takeWhile p).length + 1) := by
          rw [show a + f + (j + 1) = a + f + j + 1 by omega]; omega
        rw [e1]; exact k
      | false =>
        rw [hp] at k
        repeat first | rw [o_some] | rw [o_nilck] | rw [o_fadr0] | rw [o_slen] | rw [g_tt] | rw [g_ft] | rw [g_ff] | rw [g_tf] | rw [gc_tt] | rw [gc_ft] | rw [gc_ff] | rw [gc_tf] | rw [k_t] | rw [k_f] | rw [condB_true] | rw [condB_false] | rw [o_lss] | rw [o_geq] | rw [o_gtr] | rw [o_leq] | rw [o_not] | rw [o_ext0] | rw [o_ext1] | rw [gp_tt] | rw [gp_ft] | rw [gp_ff] | rw [gp_tf]
        simpa using k
    · have hd : decide (((a + f + j : Nat) : Int) < (s.length : Int)) = false := decide_eq_false (by omega)
      rw [hd]
      repeat first | rw [o_some] | rw [o_nilck] | rw [o_fadr0] | rw [o_slen] | rw [g_tt] | rw [g_ft] | rw [g_ff] | rw [g_tf] | rw [gc_tt] | rw [gc_ft] | rw [gc_ff] | rw [gc_tf] | rw [k_t] | rw [k_f] | rw [condB_true] | rw [condB_false] | rw [o_lss] | rw [o_geq] | rw [o_gtr] | rw [o_leq] | rw [o_not] | rw [o_ext0] | rw [o_ext1] | rw [gp_tt] | rw [gp_ft] | rw [gp_ff] | rw [gp_tf]
      rw [List.drop_of_length_le (by omega)] at k
      simpa using k

theorem c41 {n x a f : Nat} {p : Nat → Bool} {fv : AV} {s : Str} {bad : Bool} {h : AHeap} {K : Kont} (V : LX h x s a bad) (hL : s.length + f < lim) (hn : s.length < n) (ha : a ≤ s.length)
    (hf : ∀ (b : Nat) (K' : Kont), K' (.bool (p b)) h = true → callV (callN E n) fv [.int .u8 (b : Int)] h K' = true)
    (k : K (.int .i64 (((s.drop (a + f)).takeWhile p).length : Int)) h = true) : callN E (n + 1) (.func 41) [.ptr x 0 0 0, .int .i64 (f : Int), fv] h K = true := by
  apply d41
  unfold s41
  exact l41 V hL ha hf n 0 (.inr rfl) (by omega) (by simpa using k)

/-- How long a word is that begins here. -/
def wlen (l : Str) : Nat := match l with
  | [] => 0
  | c :: l => if letterB c = true then ((c :: l).takeWhile wordB).length else 0

theorem wlen_drop {s : Str} {i : Nat} : wlen (s.drop i) = if letterB (pk s i) = true then ((s.drop i).takeWhile wordB).length else 0 := by
  by_cases h : i < s.length
  · rw [drop_pk h]; rfl
  · rw [List.drop_of_length_le (by omega), pk_ge (by omega)]; rfl

theorem c39 {n x a f : Nat} {s : Str} {bad : Bool} {h : AHeap} {K : Kont} (V : LX h x s a bad) (hL : s.length + f < lim) (hn : s.length < n) (hn3 : 3 ≤ n) (ha : a ≤ s.length)
    (k : K (.int .i64 (wlen (s.drop (a + f)) : Int)) h = true) : callN E (n + 2) (.func 39) [.ptr x 0 0 0, .int .i64 (f : Int)] h K = true := by
  apply d39
  unfold s39
  refine c36 V hL ha ?_
  refine c38 ?_
  rw [wlen_drop] at k
  simp only [notA_bool, optB_some]
  cases hl : letterB (pk s (a + f)) with
  | false => rw [hl] at k; simp only [Bool.not_false, condB_true]; simpa using k
  | true =>
    rw [hl] at k
    simp only [Bool.not_true, condB_false]
    refine c41 (p := wordB) V hL hn ha ?_ (by simpa using k)
    intro b K' kk
    obtain ⟨n, rfl⟩ : ∃ j, n = j + 2 := ⟨n - 2, by omega⟩
    exact c44 kk

theorem c37 {n x a p f m : Nat} {s : Str} {bad : Bool} {h : AHeap} {K : Kont} (V : LX h x s a bad) (P : Var h p [.ptr x 0 0 0]) (hL : s.length < lim) (hb : a + f + m ≤ s.length)
    (k : K (.str ((s.drop (a + f)).take m)) h = true) : callN E (n + 1) (.func 37) [.int .i64 (f : Int), .int .i64 (m : Int), .ptr p 0 0 0] h K = true := by
  apply d37
  unfold s37
  have P0 : loadA h false 1 (.ptr p 0 0 0) = some (.ptr x 0 0 0) := by rw [P.load]; rfl
  rw [o_of P0, o_nilck, o_fadr0, o_of V.l0, o_of P0, o_nilck, o_fadr0, o_of V.l1, o_of (nat64 (show a + f < lim by omega)), o_of P0, o_nilck, o_fadr0, o_of V.l1, o_of (nat64 (show a + f < lim by omega)), o_of (nat64 (show a + f + m < lim by omega)),
    o_of (slice_both (show a + f ≤ a + f + m by omega) hb)]
  have e : (s.take (a + f + m)).drop (a + f) = (s.drop (a + f)).take m := by rw [List.drop_take]; congr 1; omega
  rw [e]; exact k

/-! ### Where a byte is; what a text begins with -/
/-- A byte's place in a text. -/
def bidx (c : Nat) : Str → Option Nat
  | [] => none
  | b :: l => if b = c then some 0 else (bidx c l).map (· + 1)
def fint : Option Nat → Int
  | none => -1
  | some k => k

theorem idxB_bidx (c : Nat) : ∀ (l : Str) (i : Nat), idxB c l i = match bidx c l with | none => -1 | some k => ((i + k : Nat) : Int)
  | [], i => rfl
  | b :: l, i => by
    simp only [idxB, bidx]
    by_cases e : b = c
    · rw [nbeq_true.2 e, cond_true, if_pos e]; rfl
    · rw [nbeq_false.2 e, cond_false, if_neg e, idxB_bidx c l (i + 1)]
      cases bidx c l with
      | none => rfl
      | some k => simp only [Option.map]; congr 1; omega
theorem idxB_fint (c : Nat) (l : Str) : idxB c l 0 = fint (bidx c l) := by
  rw [idxB_bidx]
  cases bidx c l with
  | none => rfl
  | some k => simp [fint]

theorem c35 {n c : Nat} {s : Str} {h : AHeap} {K : Kont} (hc : c < 256) (k : K (.int .i64 (fint (bidx c s))) h = true) : callN E (n + 1) (.func 35) [.str s, .int .u8 (c : Int)] h K = true := by
  show idxByte (callN E n) n [.str s, .int .u8 (.ofNat c)] h K = true
  simp only [idxByte, nblt_true.2 hc, cond_true, idxB_fint]
  exact k
theorem c26 {n c : Nat} {s : Str} {h : AHeap} {K : Kont} (hc : c < 256) (k : K (.int .i64 (fint (bidx c s))) h = true) : callN E (n + 2) (.func 26) [.str s, .int .u8 (c : Int)] h K = true := by
  apply d26
  unfold s26
  exact c35 hc k
theorem c20 {n c : Nat} {s : Str} {h : AHeap} {K : Kont} (hc : c < 256) (k : K (.int .i64 (fint (bidx c s))) h = true) : callN E (n + 3) (.func 20) [.str s, .int .u8 (c : Int)] h K = true := by
  apply d20
  unfold s20
  exact c26 hc k

theorem c46 {n : Nat} {s t : Str} {h : AHeap} {K : Kont} (k : K (.bool (t.isPrefixOf s)) h = true) : callN E (n + 1) (.func 46) [.str s, .str t] h K = true := by
  apply d46
  unfold s46
  simp only [lenA_str, optB_some, binA_geq]
  by_cases hle : t.length ≤ s.length
  · have hd : decide ((t.length : Int) ≤ (s.length : Int)) = true := decide_eq_true (by omega)
    have e : (decide (s.take t.length = t)) = t.isPrefixOf s := by
      rw [Bool.eq_iff_iff, decide_eq_true_iff, List.isPrefixOf_iff_prefix, List.prefix_iff_eq_take]
      exact eq_comm
    simp only [hd, wantV_true, grdO_true, optB_some, lenA_str, slice_to hle, binA_seql, pickV_true, e]
    exact k
  · have hd : decide ((t.length : Int) ≤ (s.length : Int)) = false := decide_eq_false (by omega)
    have e : t.isPrefixOf s = false := by
      cases hh : t.isPrefixOf s with
      | false => rfl
      | true => exact absurd (List.isPrefixOf_iff_prefix.1 hh).length_le hle
    rw [e] at k
    simp only [hd, wantV_true, grdO_false, optB_some, pickV_false]
    exact k
theorem c45 {n : Nat} {s t : Str} {h : AHeap} {K : Kont} (k : K (.bool (t.isPrefixOf s)) h = true) : callN E (n + 2) (.func 45) [.str s, .str t] h K = true := by
  apply d45
  unfold s45
  exact c46 k
end Go.Proofs.Ytajjclkdggoobaa
