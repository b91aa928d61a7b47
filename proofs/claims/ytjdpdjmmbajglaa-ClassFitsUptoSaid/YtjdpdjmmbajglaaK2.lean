/-
  Names: the program's test, and the document's.
-/
import Derived.Test.YtjdpdjmmbajglaaK1
namespace Go.Proofs.Ytjdpdjmmbajglaa
open Go.Ab
set_option linter.unusedSimpArgs false
set_option linter.unusedVariables false

def okc (c : Int) : Bool := isLetter c || (decide (48 ≤ c) && decide (c ≤ 57)) || decide (c = 95)

def scan : Nat → Str → Bool
  | _, [] => true
  | i, c :: l => (isLetter (c : Int) || (decide (i ≠ 0) && okc (c : Int))) && scan (i + 1) l

def isName (s : Str) : Bool := scan 0 s && decide (1 ≤ s.length) && decide (s.length ≤ 64) && !isKey s

theorem letter_chain (c : Int) (k : AV → Bool) :
    (optB (binA (BinOp.geq) (.int .u8 c) (AV.int (IntKind.u8) 97)) fun v4 => optB (grdO (wantV v4 true) (some (.int .u8 c))) fun v5 => optB (grdO (wantV v4 true) (binA (BinOp.leq) v5 (AV.int (IntKind.u8) 122))) fun v6 => optB (pickV v4 v6 (AV.bool false)) fun v7 => optB (grdO (wantV v7 false) (some (.int .u8 c))) fun v8 => optB (grdO (wantV v7 false) (binA (BinOp.geq) v8 (AV.int (IntKind.u8) 65))) fun v9 => optB (grdO (wantV v7 false) (some v9)) fun v10 => optB (grdO (wantV v10 true) (some (.int .u8 c))) fun v11 => optB (grdO (wantV v10 true) (binA (BinOp.leq) v11 (AV.int (IntKind.u8) 90))) fun v12 => optB (grdO (wantV v7 false) (pickV v10 v12 (AV.bool false))) fun v13 => optB (pickV v7 (AV.bool true) v13) fun v14 => k v14) = k (.bool (isLetter c)) := by
  unfold isLetter
  by_cases h1 : 97 ≤ c <;> by_cases h2 : c ≤ 122 <;> by_cases h3 : 65 ≤ c <;> by_cases h4 : c ≤ 90 <;> simp [h1, h2, h3, h4]

theorem rest_chain (c i : Int) (L : Bool) (k : AV → Bool) :
    (optB (notA (.bool L)) fun v15 => optB (grdO (wantV v15 true) (some (.int .i64 i))) fun v16 => optB (grdO (wantV v15 true) (binA (BinOp.eql) v16 (AV.int (IntKind.i64) 0))) fun v17 => optB (grdO (wantV v15 true) (some v17)) fun v18 => optB (grdO (wantV v18 false) (some (.int .u8 c))) fun v19 => optB (grdO (wantV v18 false) (binA (BinOp.neq) v19 (AV.int (IntKind.u8) 95))) fun v20 => optB (grdO (wantV v18 false) (some v20)) fun v21 => optB (grdO (wantV v21 true) (some (.int .u8 c))) fun v22 => optB (grdO (wantV v21 true) (binA (BinOp.lss) v22 (AV.int (IntKind.u8) 48))) fun v23 => optB (grdO (wantV v21 true) (some v23)) fun v24 => optB (grdO (wantV v24 false) (some (.int .u8 c))) fun v25 => optB (grdO (wantV v24 false) (binA (BinOp.gtr) v25 (AV.int (IntKind.u8) 57))) fun v26 => optB (grdO (wantV v21 true) (pickV v24 (AV.bool true) v26)) fun v27 => optB (grdO (wantV v18 false) (pickV v21 v27 (AV.bool false))) fun v28 => optB (grdO (wantV v15 true) (pickV v18 (AV.bool true) v28)) fun v29 => optB (pickV v15 v29 (AV.bool false)) fun v30 => k v30)
    = k (.bool (!L && (decide (i = 0) || (!decide (c = 95) && (decide (c < 48) || decide (57 < c)))))) := by
  cases L
  · by_cases h5 : i = 0
    · simp [h5]
    · by_cases h6 : c = 95
      · simp [h5, h6]
      · by_cases h7 : c < 48 <;> by_cases h8 : 57 < c <;> simp [h5, h6, h7, h8]
  · simp

theorem tail_chain {n : Nat} {h : AHeap} {s : Str} {K : Kont} (k : K (.bool (decide (1 ≤ s.length) && decide (s.length ≤ 64) && !isKey s)) h = true) : p43_29 (callN E (n + 1)) (n + 1) (.str s) h K = true := by
  unfold p43_29
  simp only [lenA_str, optB_some, binA_geq]
  have e1 : (decide ((1 : Int) ≤ (s.length : Int))) = decide (1 ≤ s.length) := by congr 1; apply propext; omega
  have e2 : (decide ((s.length : Int) ≤ 64)) = decide (s.length ≤ 64) := by congr 1; apply propext; omega
  rw [e1]
  cases h1 : decide (1 ≤ s.length) with
  | false => rw [h1] at k; simp at k ⊢; exact k
  | true =>
    rw [h1] at k
    simp [e2] at k ⊢
    by_cases h2 : s.length ≤ 64
    · simp [h2] at k ⊢
      exact c54 (by simpa using k)
    · simp [h2] at k ⊢
      exact k

theorem scan_step (c i : Nat) (l : Str) : (!isLetter (c : Int) && (decide ((i : Int) = 0) || (!decide ((c : Int) = 95) && (decide ((c : Int) < 48) || decide (57 < (c : Int)))))) = !(isLetter (c : Int) || (decide (i ≠ 0) && okc (c : Int))) := by
  unfold okc
  have e0 : decide ((i : Int) = 0) = decide (i = 0) := by congr 1; apply propext; omega
  have e7 : decide (48 ≤ (c : Int)) = !decide ((c : Int) < 48) := by
    by_cases hh : (c : Int) < 48
    · simp [hh]
    · simp [hh]; omega
  have e8 : decide ((c : Int) ≤ 57) = !decide (57 < (c : Int)) := by
    by_cases hh : 57 < (c : Int)
    · simp [hh]
    · simp [hh]; omega
  rw [e0, e7, e8]
  by_cases hi : i = 0 <;> cases isLetter (c : Int) <;> cases decide ((c : Int) = 95) <;> cases decide ((c : Int) < 48) <;> cases decide (57 < (c : Int)) <;> simp [hi]

theorem l43 {n : Nat} {h : AHeap} {s : Str} {K : Kont} (hL : s.length < lim)
    (k : K (.bool (isName s)) h = true) : ∀ (m i : Nat), i ≤ s.length → s.length - i < m → isName s = (scan i (s.drop i) && decide (1 ≤ s.length) && decide (s.length ≤ 64) && !isKey s) →
    l43_6 (callN E (n + 1)) (n + 1) m (.str s) (.int .i64 (s.length : Int)) (.int .i64 (i : Int)) h K = true := by
  intro m
  induction m with
  | zero => intro i _ hm; omega
  | succ m ih =>
    intro i hi hm he
    unfold l43_6 b43_6
    by_cases hlt : i < s.length
    · have hd : s.drop i = s[i] :: s.drop (i + 1) := List.drop_eq_getElem_cons hlt
      have hc := idxsA_some (k := .i64) (List.getElem?_eq_getElem hlt)
      rw [hd] at he
      simp only [scan] at he
      rw [binA_lss, optB_some, condB_t (by simpa using hlt), hc, optB_some, letter_chain, rest_chain, scan_step s[i] i []]
      cases hok : (isLetter (s[i] : Int) || (decide (i ≠ 0) && okc (s[i] : Int))) with
      | true =>
        rw [hok, Bool.true_and] at he
        rw [condB_f (show (!true) = false from rfl), inc64 (show i < lim by omega), optB_some]
        exact ih (i + 1) (by omega) (by omega) he
      | false =>
        rw [hok] at he
        simp only [Bool.false_and] at he
        rw [he] at k
        rw [condB_t (show (!false) = true from rfl)]
        exact k
    · have hd : s.drop i = [] := List.drop_of_length_le (by omega)
      rw [hd] at he
      simp only [scan, Bool.true_and] at he
      rw [he] at k
      rw [binA_lss, optB_some, condB_f (by simpa using hlt)]
      exact tail_chain k

theorem c43 {n : Nat} {h : AHeap} {s : Str} {K : Kont} (hn : s.length ≤ n) (hL : s.length < lim) (k : K (.bool (isName s)) h = true) : callN E (n + 2) (.func 43) [.str s] h K = true := by
  apply d43
  unfold s43
  simp only [lenA_str, optB_some]
  exact l43 hL k (n + 1) 0 (by omega) (by omega) rfl

/-! ### The document's -/
theorem all_scan : ∀ (l : Str) (i : Nat), i ≠ 0 → scan i l = l.all fun c => okc (c : Int)
  | [], _, _ => rfl
  | c :: l, i, hi => by
    simp only [scan, List.all_cons, all_scan l (i + 1) (by omega)]
    cases hL : isLetter (c : Int) <;> simp [okc, hL, hi]

def isWord (s : Str) : Bool := decide (1 ≤ s.length) && decide (s.length ≤ 64) && (s.all fun c => okc (c : Int)) && (match s with | [] => false | c :: _ => isLetter (c : Int))

theorem isName_word (s : Str) : isName s = (isWord s && !isKey s) := by
  cases s with
  | nil => rfl
  | cons c l =>
    simp only [isName, isWord, scan, List.all_cons, all_scan l 1 (by omega)]
    cases hL : isLetter (c : Int)
    · simp [okc, hL]
    · cases hA : (l.all fun c => okc (c : Int)) <;> cases hD : decide ((c :: l).length ≤ 64) <;> simp [okc, hL, hA, hD]

theorem word_chain (h : AHeap) (s : Str) (i : Nat) (hi : i < s.length) (L : Bool) (k : AV → Bool) :
    (optB (notA (.bool L)) fun v16 => optB (grdO (wantV v16 true) (some (.str s))) fun v17 => optB (grdO (wantV v16 true) (some (.int .i64 (i : Int)))) fun v18 => optB (grdO (wantV v16 true) (idxsA v17 v18)) fun v19 => optB (grdO (wantV v16 true) (binA (BinOp.geq) v19 (AV.int (IntKind.u8) 48))) fun v20 => optB (grdO (wantV v16 true) (some v20)) fun v21 => optB (grdO (wantV v21 true) (some (.str s))) fun v22 => optB (grdO (wantV v21 true) (some (.int .i64 (i : Int)))) fun v23 => optB (grdO (wantV v21 true) (idxsA v22 v23)) fun v24 => optB (grdO (wantV v21 true) (binA (BinOp.leq) v24 (AV.int (IntKind.u8) 57))) fun v25 => optB (grdO (wantV v16 true) (pickV v21 v25 (AV.bool false))) fun v26 => optB (grdO (wantV v16 true) (notA v26)) fun v27 => optB (pickV v16 v27 (AV.bool false)) fun v28 => optB (grdO (wantV v28 true) (some (.str s))) fun v29 => optB (grdO (wantV v28 true) (some (.int .i64 (i : Int)))) fun v30 => optB (grdO (wantV v28 true) (idxsA v29 v30)) fun v31 => optB (grdO (wantV v28 true) (binA (BinOp.neq) v31 (AV.int (IntKind.u8) 95))) fun v32 => optB (pickV v28 v32 (AV.bool false)) fun v33 => k v33)
    = k (.bool (!(L || (decide (48 ≤ (s[i] : Int)) && decide ((s[i] : Int) ≤ 57)) || decide ((s[i] : Int) = 95)))) := by
  have hc := idxsA_some (k := .i64) (List.getElem?_eq_getElem hi)
  cases L
  · by_cases h6 : (s[i] : Int) = 95 <;> by_cases h7 : 48 ≤ (s[i] : Int) <;> by_cases h8 : (s[i] : Int) ≤ 57 <;> simp [hc, h6, h7, h8]
  · simp

theorem l46 {n : Nat} {h : AHeap} {s : Str} {K : Kont} (hL : s.length < lim) (b : Bool)
    (k : K (.bool b) h = true) : ∀ (m i : Nat), i ≤ s.length → s.length - i < m → b = ((s.drop i).all fun c => okc (c : Int)) →
    l46_14 (callN E (n + 1)) (n + 1) m (.str s) (.int .i64 (i : Int)) h K = true := by
  intro m
  induction m with
  | zero => intro i _ hm; omega
  | succ m ih =>
    intro i hi hm he
    unfold l46_14 b46_14
    by_cases hlt : i < s.length
    · have hd : s.drop i = s[i] :: s.drop (i + 1) := List.drop_eq_getElem_cons hlt
      have hc := idxsA_some (k := .i64) (List.getElem?_eq_getElem hlt)
      rw [hd] at he
      simp only [List.all_cons] at he
      rw [lenA_str, optB_some, binA_lss, optB_some, condB_t (by simpa using hlt), hc, optB_some]
      refine c56 ?_
      rw [word_chain h s i hlt]
      have e : (isLetter (s[i] : Int) || (decide (48 ≤ (s[i] : Int)) && decide ((s[i] : Int) ≤ 57)) || decide ((s[i] : Int) = 95)) = okc (s[i] : Int) := rfl
      rw [e]
      cases hok : okc (s[i] : Int) with
      | true =>
        rw [hok, Bool.true_and] at he
        rw [condB_f (show (!true) = false from rfl), inc64 (show i < lim by omega), optB_some]
        exact ih (i + 1) (by omega) (by omega) he
      | false =>
        rw [hok, Bool.false_and] at he
        subst he
        rw [condB_t (show (!false) = true from rfl)]
        exact k
    · have hd : s.drop i = [] := List.drop_of_length_le (by omega)
      rw [hd] at he
      simp only [List.all_nil] at he
      subst he
      rw [lenA_str, optB_some, binA_lss, optB_some, condB_f (by simpa using hlt)]
      exact k

theorem c46 {n : Nat} {h : AHeap} {s : Str} {K : Kont} (hn : s.length ≤ n) (hL : s.length < lim) (k : K (.bool (isWord s)) h = true) : callN E (n + 2) (.func 46) [.str s] h K = true := by
  apply d46
  unfold s46
  have e1 : (decide ((s.length : Int) < 1)) = !decide (1 ≤ s.length) := by
    by_cases hh : 1 ≤ s.length
    · simp [hh]; omega
    · simp [hh]; omega
  have e2 : (decide ((64 : Int) < (s.length : Int))) = !decide (s.length ≤ 64) := by
    by_cases hh : s.length ≤ 64
    · simp [hh]; omega
    · simp [hh]; omega
  simp only [lenA_str, optB_some, binA_lss, e1]
  unfold isWord at k
  cases h1 : decide (1 ≤ s.length) with
  | false => rw [h1] at k; simp at k ⊢; exact k
  | true =>
    rw [h1] at k
    simp [e2] at k ⊢
    by_cases h2 : s.length ≤ 64
    · obtain ⟨c, l, rfl⟩ : ∃ c l, s = c :: l := by
        cases s with
        | nil => simp at h1
        | cons c l => exact ⟨c, l, rfl⟩
      have hc : idxsA (.str (c :: l)) (.int .i64 0) = some (.int .u8 (c : Int)) := idxsA_some (s := c :: l) (k := .i64) (i := 0) rfl
      simp only [h2, decide_true, Bool.not_true, Bool.not_false, grdO_true, wantV_false, optB_some, grdC_true, hc]
      refine c56 ?_
      cases hL2 : isLetter (c : Int) with
      | false => simp [h2, hL2] at k ⊢; exact k
      | true =>
        simp [h2, hL2] at k ⊢
        unfold p46_10
        refine l46 hL _ ?_ (n + 1) 0 (by omega) (by omega) rfl
        have h3 : l.length ≤ 63 := by simpa using h2
        simpa [okc, hL2, h3] using k
    · simp [h2] at k ⊢; exact k

theorem fill47 {h : AHeap} (s : Str) : True := trivial

theorem c47 {n : Nat} {h : AHeap} {s : Str} {K : Kont} (ho : h.Ok) (hn : 38 < n) (k : ∀ h', Ext h h' → h'.Ok → K (.bool (isKey s)) h' = true) : callN E (n + 2) (.func 47) [.str s] h K = true := by
  apply d47
  unfold s47
  obtain ⟨v, e1, V⟩ := bslice_view (h := h) (n := 38) (sz := 1) (z := [AV.str []]) (ps := [(0, (AV.str [99, 108, 97, 115, 115])), (1, (AV.str [101, 120, 116, 101, 110, 100, 115])), (2, (AV.str [114, 117, 108, 101])), (3, (AV.str [113, 117, 101, 114, 121])), (4, (AV.str [119, 104, 101, 110])), (5, (AV.str [116, 104, 101, 110])), (6, (AV.str [101, 110, 100])), (7, (AV.str [115, 97, 108, 105, 101, 110, 99, 101])), (8, (AV.str [103, 114, 111, 117, 112])), (9, (AV.str [102, 108, 111, 119])), (10, (AV.str [110, 111, 108, 111, 111, 112])), (11, (AV.str [108, 111, 99, 107])), (12, (AV.str [110, 111, 116])), (13, (AV.str [101, 120, 105, 115, 116, 115])), (14, (AV.str [102, 111, 114, 97, 108, 108])), (15, (AV.str [111, 114])), (16, (AV.str [102, 114, 111, 109])), (17, (AV.str [101, 118, 97, 108])), (18, (AV.str [97, 99, 99])), (19, (AV.str [111, 118, 101, 114])), (20, (AV.str [105, 110, 115, 101, 114, 116])), (21, (AV.str [108, 111, 103, 105, 99, 97, 108])), (22, (AV.str [117, 112, 100, 97, 116, 101])), (23, (AV.str [100, 101, 108, 101, 116, 101])), (24, (AV.str [102, 111, 99, 117, 115])), (25, (AV.str [112, 114, 105, 110, 116])), (26, (AV.str [104, 97, 108, 116])), (27, (AV.str [116, 114, 117, 101])), (28, (AV.str [102, 97, 108, 115, 101])), (29, (AV.str [110, 117, 108, 108])), (30, (AV.str [115, 105, 122, 101])), (31, (AV.str [104, 97, 115])), (32, (AV.str [105, 110, 116])), (33, (AV.str [98, 111, 111, 108])), (34, (AV.str [116, 101, 120, 116])), (35, (AV.str [108, 105, 115, 116])), (36, (AV.str [97, 110, 121])), (37, (AV.str [114, 101, 102]))]) (es := kws.map fun w => [AV.str w]) rfl (by decide) (by decide) rfl rfl rfl
  rw [e1]
  simp only [optP_some]
  have N : Named (kws.map fun w => [AV.str w]) kws := by
    have : ∀ l : List Str, Named (l.map fun w => [AV.str w]) l := by
      intro l
      induction l with
      | nil => exact .nil
      | cons w l ih => exact .cons rfl ih
    exact this kws
  refine c22 V N (by show 38 < n; exact hn) (by show 38 < lim; decide) ?_
  simp only [binA_geq, optB_some]
  have : decide ((0 : Int) ≤ fint (idx s kws)) = isKey s := by
    unfold isKey
    cases hx : idx s kws with
    | none => simp [fint]
    | some i => simp [fint]
  rw [this]
  exact k _ (ext_newRow ho _ _) (ok_newRow ho _ _)

/-- z.Name -/
theorem c32 {n : Nat} {h : AHeap} {s : Str} {K : Kont} (ho : h.Ok) (hn : s.length ≤ n) (hn2 : 40 < n) (hL : s.length < lim) (k : ∀ h', Ext h h' → h'.Ok → K (.bool (isName s)) h' = true) : callN E (n + 3) (.func 32) [.str s] h K = true := by
  apply d32
  unfold s32
  refine c46 hn hL ?_
  rw [isName_word] at k
  cases hw : isWord s with
  | false =>
    rw [hw] at k
    simp at k ⊢
    exact k h (Ext.refl h) ho
  | true =>
    rw [hw] at k
    simp at k ⊢
    refine c47 ho (by omega) ?_
    intro h' e o
    simpa using k h' e o
end Go.Proofs.Ytjdpdjmmbajglaa
