/-
  All that is asked of one name.
-/
import Derived.Test.YtjdpdjmmbajglaaKR
namespace Go.Proofs.Ytjdpdjmmbajglaa
open Go.Ab
set_option linter.unusedSimpArgs false
set_option linter.unusedVariables false

/-! ### What is due -/
def wantGo (F : List Str) : Int → List Str → Int
  | w, [] => w
  | w, f :: r => match idx f F with
    | none => wantGo F w r
    | some k => wantGo F (orU w (shl1 k)) r
def errGo (F : List Str) : Int → List Str → Int
  | e, [] => e
  | e, f :: r => match idx f F with
    | none => errGo F (if e = 0 then 11 else e) r
    | some _ => errGo F e r

theorem wantGo_app (F : List Str) : ∀ (a b : List Str) (w : Int), wantGo F w (a ++ b) = wantGo F (wantGo F w a) b
  | [], _, _ => rfl
  | f :: a, b, w => by
    simp only [List.cons_append, wantGo]
    cases idx f F <;> exact wantGo_app F a b _
theorem errGo_app (F : List Str) : ∀ (a b : List Str) (w : Int), errGo F w (a ++ b) = errGo F (errGo F w a) b
  | [], _, _ => rfl
  | f :: a, b, w => by
    simp only [List.cons_append, errGo]
    cases idx f F <;> exact errGo_app F a b _
theorem errGo_keep (F : List Str) : ∀ (a : List Str) (e : Int), e ≠ 0 → errGo F e a = e
  | [], _, _ => rfl
  | f :: a, e, h => by
    simp only [errGo]
    cases idx f F with
    | none => simp only [if_neg h]; exact errGo_keep F a e h
    | some _ => exact errGo_keep F a e h
theorem maskGo_want (F : List Str) : ∀ (a : List Str) (w : Int), (maskGo F a w = none ∧ errGo F 0 a = 11) ∨ (maskGo F a w = some (wantGo F w a) ∧ errGo F 0 a = 0)
  | [], w => .inr ⟨rfl, rfl⟩
  | f :: a, w => by
    simp only [maskGo, errGo, wantGo]
    cases idx f F with
    | none => exact .inl ⟨rfl, by simp only [if_pos]; exact errGo_keep F a 11 (by decide)⟩
    | some k => exact maskGo_want F a _

def err0 (th : Bool) : Int := if th = true then 0 else 10

theorem mask_due (l : List Cls) (s : Str) (fs : List Str) (F : List Str) (hF : F = fnames (fieldsOf l s)) :
    (maskOf l s fs).2 = errGo F (err0 (idx s (names l)).isSome) fs ∧ (maskOf l s fs).1 = if errGo F (err0 (idx s (names l)).isSome) fs = 0 then wantGo F 0 fs else 0 := by
  subst hF
  cases hi : idx s (names l) with
  | none =>
    have e : errGo (fnames (fieldsOf l s)) 10 fs = 10 := errGo_keep _ _ _ (by decide)
    simp only [maskOf, hi, Option.isSome_none, err0, if_neg (show ¬ (false = true) by decide), e]
    exact ⟨trivial, by rw [if_neg (by decide)]⟩
  | some i =>
    simp only [maskOf, hi, Option.isSome_some, err0, if_pos]
    rcases maskGo_want (fnames (fieldsOf l s)) fs 0 with ⟨h1, h2⟩ | ⟨h1, h2⟩
    · rw [h1, h2]; exact ⟨rfl, by rw [if_neg (by decide)]⟩
    · rw [h1, h2]; exact ⟨rfl, by simp⟩

/-! ### Pieces -/
theorem lt_th {n : Int} {i : Nat} {th : Bool} {k : AV → Bool} : (optB (binA .lss (.int .i64 (i : Int)) (.int .i64 n)) fun v23 => optB (grdO (wantV v23 true) (some (.bool th))) fun v24 => optB (pickV v23 v24 (.bool false)) fun v25 => k v25) = k (.bool (decide ((i : Int) < n) && th)) := by
  rw [binA_lss, optB_some]
  cases decide ((i : Int) < n) <;> rfl

theorem lt_100 {n : Int} {i : Nat} {k : AV → Bool} : (optB (binA .lss (.int .i64 (i : Int)) (.int .i64 n)) fun v68 => optB (grdO (wantV v68 true) (some (.int .i64 (i : Int)))) fun v69 => optB (grdO (wantV v68 true) (binA .lss v69 (.int .i64 100))) fun v70 => optB (pickV v68 v70 (.bool false)) fun v71 => k v71) = k (.bool (decide ((i : Int) < n) && decide (i < 100))) := by
  have e : decide ((i : Int) < 100) = decide (i < 100) := by congr 1; apply propext; omega
  rw [binA_lss, optB_some]
  cases hd : decide ((i : Int) < n)
  · rfl
  · simp only [wantV_true, grdO_true, optB_some, binA_lss, pickV_true, Bool.true_and, e]

theorem chkA {call : CallFn} {h : AHeap} {th : Bool} {x9 x8 : AV} {k : AV → AHeap → Bool} : (optB (eqV h true .bool (.bool th) (.bool th)) fun v43 => optB (grdO (wantV v43 false) (some x9)) fun v44 => optB (grdO (wantV v43 false) (some x8)) fun v45 => grdC (wantV v43 false) (fun k => call (.func 17) [v44, v45] h k) h fun v46 h => optB (grdO (wantV v43 false) (notA v46)) fun v47 => optB (pickV v43 (.bool true) v47) fun v48 => k v48 h) = call (.func 17) [x9, x8] h (fun v h => optB (notA v) fun w => k w h) := by
  rw [eqV_bool, show (!(th == th)) = false from by cases th <;> rfl]
  simp only [optB_some, wantV_false, Bool.not_false, grdO_true, grdC_true, pickV_false]
theorem chkB {call : CallFn} {h : AHeap} {x11 x15 : AV} {k : AV → AHeap → Bool} : (optB (grdO (wantV (.bool false) false) (some x11)) fun v49 => optB (grdO (wantV (.bool false) false) (some x15)) fun v50 => grdC (wantV (.bool false) false) (fun k => call (.func 21) [v49, v50] h k) h fun v51 h => optB (grdO (wantV (.bool false) false) (notA v51)) fun v52 => optB (pickV (.bool false) (.bool true) v52) fun v53 => k v53 h) = call (.func 21) [x11, x15] h (fun v h => optB (notA v) fun w => k w h) := by
  simp only [optB_some, wantV_false, Bool.not_false, grdO_true, grdC_true, pickV_false]
theorem chkC {h : AHeap} {th : Bool} {e : Int} {k : AV → Bool} (he : decide (e = 0) = th) : (optB (grdO (wantV (.bool false) false) (some (.int .i64 e))) fun v54 => optB (grdO (wantV (.bool false) false) (binA .eql v54 (.int .i64 0))) fun v55 => optB (grdO (wantV (.bool false) false) (some (.bool th))) fun v56 => optB (grdO (wantV (.bool false) false) (eqV h true .bool v55 v56)) fun v57 => optB (pickV (.bool false) (.bool true) v57) fun v58 => k v58) = k (.bool false) := by
  rw [wantV_false, Bool.not_false, grdO_true, optB_some, grdO_true, binA_eql, optB_some, he, grdO_true, optB_some, grdO_true, eqV_bool, optB_some, show (!(th == th)) = false from by cases th <;> rfl, pickV_false, optB_some]

/-- Of one field the number. -/
def badF (th : Bool) (a n m : Int) : Bool := (!th && !decide (m = 10)) || (th && decide (a < 0) && !decide (m = 11)) || (th && decide (0 ≤ a) && (!decide (n = a) || !decide (m = 0)))
theorem chkF1 {th : Bool} {m : Int} {k : AV → Bool} :
    (optB (notA (.bool th)) fun v84 => optB (grdO (wantV v84 true) (some (.int .i64 m))) fun v85 => optB (grdO (wantV v84 true) (binA .neq v85 (.int .i64 10))) fun v86 => optB (pickV v84 v86 (.bool false)) fun v87 => k v87) = k (.bool (!th && !decide (m = 10))) := by
  cases th <;> simp only [notA_bool, Bool.not_true, Bool.not_false, optB_some, wantV_true, grdO_true, grdO_false, binA_neq, pickV_true, pickV_false, Bool.true_and, Bool.false_and]
theorem chkF2 {b th : Bool} {a m : Int} {k : AV → Bool} :
    (optB (grdO (wantV (.bool b) false) (some (.bool th))) fun v88 => optB (grdO (wantV (.bool b) false) (some v88)) fun v89 => optB (grdO (wantV v89 true) (some (.int .i64 a))) fun v90 => optB (grdO (wantV v89 true) (binA .lss v90 (.int .i64 0))) fun v91 => optB (grdO (wantV (.bool b) false) (pickV v89 v91 (.bool false))) fun v92 => optB (grdO (wantV (.bool b) false) (some v92)) fun v93 => optB (grdO (wantV v93 true) (some (.int .i64 m))) fun v94 => optB (grdO (wantV v93 true) (binA .neq v94 (.int .i64 11))) fun v95 => optB (grdO (wantV (.bool b) false) (pickV v93 v95 (.bool false))) fun v96 => optB (pickV (.bool b) (.bool true) v96) fun v97 => k v97) = k (.bool (b || (th && decide (a < 0) && !decide (m = 11)))) := by
  cases b
  · cases th
    · rfl
    · simp only [wantV_false, wantV_true, Bool.not_false, grdO_true, optB_some, binA_lss, pickV_true, Bool.false_or, Bool.true_and]
      cases decide (a < 0)
      · rfl
      · simp only [wantV_true, grdO_true, optB_some, binA_neq, pickV_true, pickV_false, Bool.true_and]
  · rfl
theorem chkF3 {b th : Bool} {a n m : Int} {k : AV → Bool} :
    (optB (grdO (wantV (.bool b) false) (some (.bool th))) fun v98 => optB (grdO (wantV (.bool b) false) (some v98)) fun v99 => optB (grdO (wantV v99 true) (some (.int .i64 a))) fun v100 => optB (grdO (wantV v99 true) (binA .geq v100 (.int .i64 0))) fun v101 => optB (grdO (wantV (.bool b) false) (pickV v99 v101 (.bool false))) fun v102 => optB (grdO (wantV (.bool b) false) (some v102)) fun v103 => optB (grdO (wantV v103 true) (some (.int .i64 n))) fun v104 => optB (grdO (wantV v103 true) (some (.int .i64 a))) fun v105 => optB (grdO (wantV v103 true) (binA .neq v104 v105)) fun v106 => optB (grdO (wantV v103 true) (some v106)) fun v107 => optB (grdO (wantV v107 false) (some (.int .i64 m))) fun v108 => optB (grdO (wantV v107 false) (binA .neq v108 (.int .i64 0))) fun v109 => optB (grdO (wantV v103 true) (pickV v107 (.bool true) v109)) fun v110 => optB (grdO (wantV (.bool b) false) (pickV v103 v110 (.bool false))) fun v111 => optB (pickV (.bool b) (.bool true) v111) fun v112 => k v112) = k (.bool (b || (th && decide (0 ≤ a) && (!decide (n = a) || !decide (m = 0))))) := by
  cases b
  · cases th
    · rfl
    · simp only [wantV_false, wantV_true, Bool.not_false, grdO_true, optB_some, binA_geq, pickV_true, Bool.false_or, Bool.true_and]
      cases decide (0 ≤ a)
      · rfl
      · simp only [wantV_true, grdO_true, optB_some, binA_neq, pickV_true, pickV_false, Bool.true_and]
        cases decide (n = a)
        · rfl
        · simp only [Bool.not_true, wantV_false, Bool.not_false, grdO_true, optB_some, binA_neq, pickV_false, Bool.false_or]
  · rfl
theorem chkF_false {th : Bool} {a n m : Int} (hb : badF th a n m = false) : (((!th && !decide (m = 10)) || (th && decide (a < 0) && !decide (m = 11))) || (th && decide (0 ≤ a) && (!decide (n = a) || !decide (m = 0)))) = false := hb

theorem badF_index (l : List Cls) (s f : Str) : badF (idx s (names l)).isSome (fint (idx f (fnames (fieldsOf l s)))) (indexOf l s f).1 (indexOf l s f).2 = false := by
  unfold badF indexOf
  cases hs : idx s (names l) with
  | none => simp
  | some i =>
    cases hf : idx f (fnames (fieldsOf l s)) with
    | none => simp [fint]
    | some k =>
      have h1 : ¬ ((k : Int) < 0) := by omega
      have h2 : (0 : Int) ≤ (k : Int) := by omega
      simp [fint, h1, h2]

/-- The end. -/
theorem endF {nf : Nat} {w m e g : Int} {k : AV → Bool} (h : nf ≤ 100 → g = e ∧ m = w) : (optB (binA .gtr (.int .i64 (nf : Int)) (.int .i64 100)) fun v130 => optB (grdO (wantV v130 false) (some (.int .i64 g))) fun v131 => optB (grdO (wantV v130 false) (some (.int .i64 e))) fun v132 => optB (grdO (wantV v130 false) (binA .eql v131 v132)) fun v133 => optB (grdO (wantV v130 false) (some v133)) fun v134 => optB (grdO (wantV v134 true) (some (.int .u64 m))) fun v135 => optB (grdO (wantV v134 true) (some (.int .u64 w))) fun v136 => optB (grdO (wantV v134 true) (binA .eql v135 v136)) fun v137 => optB (grdO (wantV v130 false) (pickV v134 v137 (.bool false))) fun v138 => optB (pickV v130 (.bool true) v138) fun v139 => k v139) = k (.bool true) := by
  rw [binA_gtr, optB_some]
  by_cases h0 : nf ≤ 100
  · obtain ⟨rfl, rfl⟩ := h h0
    have : decide ((100 : Int) < (nf : Int)) = false := decide_eq_false (by omega)
    rw [this]
    simp
  · have : decide ((100 : Int) < (nf : Int)) = true := decide_eq_true (by omega)
    rw [this]
    simp

theorem conv_u {k : Nat} (hk : k < 64) : convA .u64 (.int .i64 (k : Int)) = some (.int .u64 (k : Int)) := by
  have : fitsK .u64 (k : Int) = true := by
    show (Nat.ble _ _) = true
    exact nble_true.2 (by omega)
  simp only [convA, wrapA, this, cond_true]
end Go.Proofs.Ytjdpdjmmbajglaa
