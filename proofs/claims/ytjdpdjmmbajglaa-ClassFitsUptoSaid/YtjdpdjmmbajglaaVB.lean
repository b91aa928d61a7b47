/-
  Whether a value may be: the program's answer and the document's.
-/
import Derived.Test.YtjdpdjmmbajglaaVA
import Derived.Test.YtjdpdjmmbajglaaKM
namespace Go.Proofs.Ytjdpdjmmbajglaa
open Go.Ab
set_option linter.unusedSimpArgs false
set_option linter.unusedVariables false

theorem sm_str (s : Str) (r : Bool) : sameB (some (.str s)) (.str s) r = r := by simp [sameB, AV.same, leqb_dec]
theorem sm_ptr (a b c d : Nat) (r : Bool) : sameB (some (.ptr a b c d)) (.ptr a b c d) r = r := by simp [sameB, AV.same]
theorem sm_int (k : IntKind) (n : Int) (r : Bool) : sameB (some (.int k n)) (.int k n) r = r := by simp [sameB, AV.same, ieqb_dec]

/-! ### How much there is: some number -/
theorem c40 : ∀ (k n : Nat) {h : AHeap} {v : AV} {l : List Val} {deep : Int} {K : Kont}, VV h v l → deep + (k : Int) = 101 → k ≤ 101 → szVs l + k ≤ n → n < lim → (∀ x, K (.int .i64 x) h = true) → callN E (n + 1) (.func 40) [v, .int .i64 deep] h K = true := by
  intro k
  induction k with
  | zero =>
    intro n h v l deep K V hd hk hn hL kk
    apply d40
    unfold s40
    rw [binA_gtr, optB_some, condB_t (decide_eq_true (by omega))]
    exact kk _
  | succ k ih =>
    intro n h v l deep K V hd hk hn hL kk
    apply d40
    unfold s40
    rw [binA_gtr, optB_some, condB_f (decide_eq_false (by omega))]
    unfold p40_10
    obtain ⟨n, rfl⟩ : ∃ j, n = j + 1 := ⟨n - 1, by omega⟩
    have hlen : l.length ≤ szVs l := by rw [szVs_eq]; exact szL_length (fun v => by cases v; simp only [szV]; omega) l
    have loop : ∀ (m i : Nat) (x : Int), i ≤ l.length → l.length - i < m → l40_16 (callN E (n + 1)) (n + 1) m v (.int .i64 deep) (.int .i64 x) (.int .i64 (i : Int)) h K = true := by
      intro m
      induction m with
      | zero => intro i x _ hm; omega
      | succ m ihm =>
        intro i x hi hm
        rw [l40_16_s]
        unfold b40_16
        rw [V.len, optB_some, binA_lss, optB_some]
        by_cases hlt : i < l.length
        · have hci := List.getElem?_eq_getElem hlt
          obtain ⟨id, g, j, e, p1, p2, R⟩ := V.at hci
          have hmem := List.getElem_mem hlt
          obtain ⟨kk', b, nn, t, ll, hv⟩ : ∃ kk' b nn t ll, l[i] = Val.mk kk' b nn t ll := by cases h : l[i]; exact ⟨_, _, _, _, _, rfl⟩
          rw [hv] at R hmem
          obtain ⟨lv, rfl, VL, _⟩ := R.cells
          have hsz : szV (Val.mk kk' b nn t ll) ≤ szVs l := by rw [szVs_eq]; exact szL_mem hmem
          simp only [szV] at hsz
          have q3 : loadA h false 1 (.ptr id g j 3) = some (.str t) := by rw [p2]; rfl
          have q4 : loadA h false 1 (.ptr id g j 4) = some lv := by rw [p2]; rfl
          have hq : ∃ y, binA .quo (.int .i64 (t.length : Int)) (.int .i64 64) = some (.int .i64 y) := by rw [binA_ints _ _ _ _ rfl]; exact ⟨_, rfl⟩
          obtain ⟨y, hq⟩ := hq
          rw [condB_t (by simpa using hlt), binA_add, optB_some, p1, optB_some, fadrA_ptr, optB_some, Nat.zero_add, q3, optB_some, lenA_str, optB_some, hq, optB_some, binA_add, optB_some, optB_some, fadrA_ptr, optB_some, Nat.zero_add, q4, optB_some, add64 (by omega) (by omega), optB_some]
          refine ih n VL (by omega) (by omega) (by omega) (by omega) ?_
          intro z
          rw [p1, sm_ptr, q3, sm_str, lenA_str, sm_int, binA_add, optB_some, inc64 (by omega), optB_some]
          exact ihm (i + 1) _ (by omega) (by omega)
        · rw [condB_f (by simpa using hlt)]
          exact kk x
    exact loop (n + 1) 0 0 (Nat.zero_le _) (by omega)

theorem c24 {n : Nat} {h : AHeap} {v : AV} {l : List Val} {K : Kont} (V : VV h v l) (hn : szVs l + 101 ≤ n) (hL : n < lim) (k : ∀ x, K (.int .i64 x) h = true) : callN E (n + 2) (.func 24) [v] h K = true := by
  apply d24
  unfold s24
  exact c40 101 n V (by omega) (Nat.le_refl _) hn hL k

/-! ### Whether a value may be -/
def leafOk (kind : Int) (b : Bool) (n : Int) (t : Str) (len : Nat) : Bool :=
  if kind = 0 then !b && decide (n = 0) && decide (t = []) && decide (len = 0)
  else if kind = 1 then decide (n = 0) && decide (t = []) && decide (len = 0)
  else if kind = 2 then !b && decide (t = []) && decide (len = 0)
  else if kind = 3 then !b && decide (n = 0) && decide (len = 0) && decide (t.length ≤ 65536)
  else if kind = 5 then !b && decide (t = []) && decide (len = 0) && decide (1 ≤ n)
  else false

def ckV : Nat → Val → Bool
  | 0 => fun v => match v with | .mk kind b n t l => leafOk kind b n t l.length
  | k + 1 => fun v => match v with
    | .mk kind b n t l => if kind = 4 then !b && decide (n = 0) && decide (t = []) && decide (l.length ≤ 4096) && l.all (ckV k) else leafOk kind b n t l.length

theorem eqV_b (h : AHeap) (a b : Bool) : eqV h false .bool (.bool a) (.bool b) = some (.bool (a == b)) := rfl

theorem and_ll {h : AHeap} {c r : Bool} {p q a b : AV} {op : BinOp} {k : AV → Bool} (ha : loadA h false 1 p = some a) (hb : loadA h false 1 q = some b) (hr : binA op a b = some (.bool r)) :
    (optB (grdO (wantV (.bool c) true) (some p)) fun v15 => optB (grdO (wantV (.bool c) true) (loadA h false 1 v15)) fun v16 => optB (grdO (wantV (.bool c) true) (some q)) fun v17 => optB (grdO (wantV (.bool c) true) (loadA h false 1 v17)) fun v18 => optB (grdO (wantV (.bool c) true) (binA op v16 v18)) fun v19 => optB (pickV (.bool c) v19 (.bool false)) fun v20 => k v20) = k (.bool (c && r)) := by
  cases c with
  | false => rfl
  | true => simp only [wantV_true, grdO_true, optB_some, ha, hb, hr, pickV_true, Bool.true_and]
theorem and_len {h : AHeap} {c : Bool} {p : AV} {t : Str} {k : AV → Bool} (ha : loadA h false 1 p = some (.str t)) :
    (optB (grdO (wantV (.bool c) true) (some p)) fun v27 => optB (grdO (wantV (.bool c) true) (loadA h false 1 v27)) fun v28 => optB (grdO (wantV (.bool c) true) (lenA h 0 v28)) fun v29 => optB (grdO (wantV (.bool c) true) (binA .leq v29 (.int .i64 65536))) fun v30 => optB (pickV (.bool c) v30 (.bool false)) fun v31 => k v31) = k (.bool (c && decide (t.length ≤ 65536))) := by
  have e1 : decide ((t.length : Int) ≤ 65536) = decide (t.length ≤ 65536) := by congr 1; apply propext; omega
  cases c with
  | false => rfl
  | true => simp only [wantV_true, grdO_true, optB_some, ha, lenA_str, binA_leq, e1, pickV_true, Bool.true_and]
theorem and_end {h : AHeap} {c : Bool} {p q lv : AV} {len : Nat} {kind : Int} {k : AV → Bool} (ha : loadA h false 1 p = some lv) (L : lenA h 1 lv = some (.int .i64 (len : Int))) (hb : loadA h false 1 q = some (.int .i64 kind)) :
    (optB (grdO (wantV (.bool c) true) (some p)) fun v32 => optB (grdO (wantV (.bool c) true) (loadA h false 1 v32)) fun v33 => optB (grdO (wantV (.bool c) true) (lenA h 1 v33)) fun v34 => optB (grdO (wantV (.bool c) true) (binA .eql v34 (.int .i64 0))) fun v35 => optB (grdO (wantV (.bool c) true) (some v35)) fun v36 => optB (grdO (wantV v36 false) (some q)) fun v37 => optB (grdO (wantV v36 false) (loadA h false 1 v37)) fun v38 => optB (grdO (wantV v36 false) (binA .eql v38 (.int .i64 4))) fun v39 => optB (grdO (wantV (.bool c) true) (pickV v36 (.bool true) v39)) fun v40 => optB (pickV (.bool c) v40 (.bool false)) fun v41 => k v41) = k (.bool (c && (decide (len = 0) || decide (kind = 4)))) := by
  have e2 : decide ((len : Int) = 0) = decide (len = 0) := by congr 1; apply propext; omega
  cases c with
  | false => rfl
  | true =>
    rw [wantV_true, grdO_true, optB_some, grdO_true, ha, optB_some, grdO_true, L, optB_some, grdO_true, binA_eql, e2, optB_some, grdO_true, optB_some]
    cases hd : decide (len = 0) with
    | true => rfl
    | false => simp only [wantV_false, Bool.not_false, grdO_true, optB_some, hb, binA_eql, pickV_false, pickV_true, Bool.true_and, Bool.false_or]

/-- The program's last test. -/
theorem t64 {n p q len : Nat} {h : AHeap} {kind x x' : Int} {b b' : Bool} {t t' : Str} {lv k0 l0 : AV} {K : Kont} {call : CallFn} (V : Var h p [.int .i64 kind, .bool b, .int .i64 x, .str t, lv]) (Q : Var h q [k0, .bool b', .int .i64 x', .str t', l0]) (L : lenA h 1 lv = some (.int .i64 (len : Int))) :
    p52_64 call n (.ptr p 0 0 0) (.ptr q 0 0 0) h K = K (.bool ((b == b') && decide (x = x') && decide (t = t') && decide (t.length ≤ 65536) && (decide (len = 0) || decide (kind = 4)))) h := by
  unfold p52_64
  have e : ∀ o, fadrA o (.ptr p 0 0 0) = some (.ptr p 0 0 o) := fun o => by rw [fadrA_ptr, Nat.zero_add]
  have e' : ∀ o, fadrA o (.ptr q 0 0 0) = some (.ptr q 0 0 o) := fun o => by rw [fadrA_ptr, Nat.zero_add]
  rw [e, optB_some, V.load, partA_false, nth_succ, nth_zero, optB_some, e', optB_some, Q.load, partA_false, nth_succ, nth_zero, optB_some, eqV_b, optB_some, e, e',
    and_ll (a := .int .i64 x) (b := .int .i64 x') (r := decide (x = x')) (by rw [V.load]; rfl) (by rw [Q.load]; rfl) (binA_eql _ _ _), e, e',
    and_ll (a := .str t) (b := .str t') (r := decide (t = t')) (by rw [V.load]; rfl) (by rw [Q.load]; rfl) (binA_seql _ _),
    and_len (t := t) (by rw [V.load]; rfl), e, e, and_end (lv := lv) (len := len) (kind := kind) (by rw [V.load]; rfl) L (by rw [V.load]; rfl)]
end Go.Proofs.Ytjdpdjmmbajglaa
