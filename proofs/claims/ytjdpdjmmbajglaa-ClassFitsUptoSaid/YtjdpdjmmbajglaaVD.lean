/-
  Whether a value may be: the document's answer, walked.
-/
import Derived.Test.YtjdpdjmmbajglaaVC
namespace Go.Proofs.Ytjdpdjmmbajglaa
open Go.Ab
set_option linter.unusedSimpArgs false
set_option linter.unusedVariables false

theorem and_not {c d : Bool} {k : AV → Bool} : (optB (grdO (wantV (.bool c) true) (some (.bool d))) fun v18 => optB (grdO (wantV (.bool c) true) (notA v18)) fun v19 => optB (pickV (.bool c) v19 (.bool false)) fun v20 => k v20) = k (.bool (c && !d)) := by
  cases c with
  | false => rfl
  | true => simp only [wantV_true, grdO_true, optB_some, notA_bool, pickV_true, Bool.true_and]
theorem and_ge {h : AHeap} {c : Bool} {p : AV} {x : Int} {k : AV → Bool} (ha : loadA h false 1 p = some (.int .i64 x)) : (optB (grdO (wantV (.bool c) true) (some p)) fun v64 => optB (grdO (wantV (.bool c) true) (loadA h false 1 v64)) fun v65 => optB (grdO (wantV (.bool c) true) (binA .geq v65 (.int .i64 1))) fun v66 => optB (pickV (.bool c) v66 (.bool false)) fun v67 => k v67) = k (.bool (c && decide (1 ≤ x))) := by
  cases c with
  | false => rfl
  | true => simp only [wantV_true, grdO_true, optB_some, ha, binA_geq, pickV_true, Bool.true_and]
theorem or_b {c d : Bool} {k : AV → Bool} : (optB (grdO (wantV (.bool c) false) (some (.bool d))) fun v69 => optB (pickV (.bool c) (.bool true) v69) fun v70 => k v70) = k (.bool (c || d)) := by
  cases c with
  | true => rfl
  | false => simp only [wantV_false, Bool.not_false, grdO_true, optB_some, pickV_false, Bool.false_or]
theorem or_l {h : AHeap} {c : Bool} {p lv : AV} {len : Nat} {k : AV → Bool} (ha : loadA h false 1 p = some lv) (L : lenA h 1 lv = some (.int .i64 (len : Int))) : (optB (grdO (wantV (.bool c) false) (some p)) fun v73 => optB (grdO (wantV (.bool c) false) (loadA h false 1 v73)) fun v74 => optB (grdO (wantV (.bool c) false) (lenA h 1 v74)) fun v75 => optB (grdO (wantV (.bool c) false) (binA .gtr v75 (.int .i64 4096))) fun v76 => optB (pickV (.bool c) (.bool true) v76) fun v77 => k v77) = k (.bool (c || decide (4096 < len))) := by
  have e : decide ((4096 : Int) < (len : Int)) = decide (4096 < len) := by congr 1; apply propext; omega
  cases c with
  | true => rfl
  | false => simp only [wantV_false, Bool.not_false, grdO_true, optB_some, ha, L, binA_gtr, e, pickV_false, Bool.false_or]
theorem or_d {c : Bool} {deep : Int} {k : AV → Bool} : (optB (grdO (wantV (.bool c) false) (some (.int .i64 deep))) fun v78 => optB (grdO (wantV (.bool c) false) (binA .geq v78 (.int .i64 30))) fun v79 => optB (pickV (.bool c) (.bool true) v79) fun v80 => k v80) = k (.bool (c || decide (30 ≤ deep))) := by
  cases c with
  | true => rfl
  | false => simp only [wantV_false, Bool.not_false, grdO_true, optB_some, binA_geq, pickV_false, Bool.false_or]

theorem len_pos (len : Nat) : (!decide ((0 : Int) < (len : Int))) = decide (len = 0) := by
  by_cases h : len = 0
  · subst h; rfl
  · have : (0 : Int) < (len : Int) := by omega
    rw [decide_eq_true this, decide_eq_false h]; rfl

theorem pre53 {n : Nat} {h : AHeap} {kind x deep : Int} {b : Bool} {t : Str} {lv : AV} {len : Nat} {K : Kont} (ho : h.Ok) (hlf : lv.leaf = true) (L : ∀ h', Ext h h' → lenA h' 1 lv = some (.int .i64 (len : Int)))
    (kl : kind ≠ 4 → ∀ h', Ext h h' → h'.Ok → K (.bool (leafOk kind b x t len)) h' = true)
    (k4 : kind = 4 → ∀ h' p, Ext h h' → h'.Ok → Var h' p [.int .i64 kind, .bool b, .int .i64 x, .str t, lv] → (condB (.bool (b || !decide (x = 0) || !decide (t = []) || decide (4096 < len) || decide (30 ≤ deep))) (K (.bool false) h') (p53_55 (callN E n) n (.int .i64 deep) (.ptr p 0 0 0) h' K)) = true) :
    callN E (n + 1) (.func 53) [.agg [.int .i64 kind, .bool b, .int .i64 x, .str t, lv], .int .i64 deep] h K = true := by
  obtain ⟨lf1, lf2⟩ := leaf5 (a := .int .i64 kind) (b := .bool b) (c := .int .i64 x) (d := .str t) (e := lv) rfl rfl rfl rfl hlf
  apply d53
  unfold s53
  rw [box_eq (n := 5) (v := .agg [.int .i64 kind, .bool b, .int .i64 x, .str t, lv]) (by rw [lf1]; rfl) (by decide) (by rw [lf1]; exact lf2), optP_some, lf1]
  have e1 := ext_newRow ho [[AV.int .i64 kind, .bool b, .int .i64 x, .str t, lv]] 5
  have o1 := ok_newRow ho [[AV.int .i64 kind, .bool b, .int .i64 x, .str t, lv]] 5
  have V1 := var_new h [AV.int .i64 kind, .bool b, .int .i64 x, .str t, lv]
  simp only [List.length_cons, List.length_nil, Nat.zero_add] at V1
  generalize Ab.newRow h [[AV.int .i64 kind, .bool b, .int .i64 x, .str t, lv]] 5 = h1 at *
  generalize h.sz = p at *
  have stay := L h1 e1
  have ef : ∀ o, fadrA o (.ptr p 0 0 0) = some (.ptr p 0 0 o) := fun o => by rw [fadrA_ptr, Nat.zero_add]
  have l0 : loadA h1 false 1 (.ptr p 0 0 0) = some (.int .i64 kind) := by rw [V1.load]; rfl
  have l1 : loadA h1 false 1 (.ptr p 0 0 1) = some (.bool b) := by rw [V1.load]; rfl
  have l2 : loadA h1 false 1 (.ptr p 0 0 2) = some (.int .i64 x) := by rw [V1.load]; rfl
  have l3 : loadA h1 false 1 (.ptr p 0 0 3) = some (.str t) := by rw [V1.load]; rfl
  have l4 : loadA h1 false 1 (.ptr p 0 0 4) = some lv := by rw [V1.load]; rfl
  rw [ef 1, optB_some, l1, optB_some, ef 2, optB_some, l2, optB_some, binA_neq, optB_some, ef 3, optB_some, l3, optB_some, binA_sneq, optB_some, ef 4, optB_some, l4, optB_some, stay, optB_some, binA_gtr, optB_some, ef 0, optB_some, l0, optB_some, binA_eql, optB_some]
  by_cases c0 : kind = 0
  · subst c0
    rw [condB_t (by decide), notA_bool, optB_some, and_not, and_not, and_not, len_pos, Bool.not_not, Bool.not_not]
    exact kl (by decide) h1 e1 o1
  rw [condB_f (by simp [c0]), binA_eql, optB_some]
  by_cases c1 : kind = 1
  · subst c1
    rw [condB_t (by decide), notA_bool, optB_some, and_not, and_not, len_pos, Bool.not_not, Bool.not_not]
    exact kl (by decide) h1 e1 o1
  rw [condB_f (by simp [c1]), binA_eql, optB_some]
  by_cases c2 : kind = 2
  · subst c2
    rw [condB_t (by decide), notA_bool, optB_some, and_not, and_not, len_pos, Bool.not_not]
    exact kl (by decide) h1 e1 o1
  rw [condB_f (by simp [c2]), binA_eql, optB_some]
  by_cases c3 : kind = 3
  · subst c3
    rw [condB_t (by decide), notA_bool, optB_some, and_not, and_not, len_pos, Bool.not_not, and_len l3]
    exact kl (by decide) h1 e1 o1
  rw [condB_f (by simp [c3]), binA_eql, optB_some]
  by_cases c5 : kind = 5
  · subst c5
    rw [condB_t (by decide), notA_bool, optB_some, and_not, and_not, len_pos, Bool.not_not, and_ge l2]
    exact kl (by decide) h1 e1 o1
  rw [condB_f (by simp [c5]), binA_eql, optB_some]
  by_cases c4 : kind = 4
  · rw [condB_t (by simp [c4]), or_b, or_b, or_l l4 stay, or_d]
    exact k4 c4 h1 p e1 o1 V1
  · rw [condB_f (by simp [c4])]
    have := kl c4 h1 e1 o1
    rw [leafOk_else c0 c1 c2 c3 c5] at this
    exact this

theorem c53 : ∀ (k n : Nat) {h : AHeap} {a : List AV} {v : Val} {deep : Int} {K : Kont}, RV h a v → h.Ok → deep + (k : Int) = 30 → k ≤ 30 → szV v + k ≤ n → n < lim → (∀ h', Ext h h' → h'.Ok → K (.bool (ckV k v)) h' = true) → callN E (n + 1) (.func 53) [.agg a, .int .i64 deep] h K = true := by
  intro k
  induction k with
  | zero =>
    intro n h a v deep K R ho hd _ hsz hL kk
    cases v with
    | mk kind b x t l =>
      obtain ⟨lv, rfl, V, _⟩ := R.cells
      refine pre53 (len := l.length) ho V.leaf (fun h' e => (V.ext e).len) (fun h4 h' e o => ?_) (fun h4 h' p e o _ => ?_)
      · have := kk h' e o
        rw [ckV_leaf h4] at this; exact this
      · subst h4
        rw [condB_t (by rw [decide_eq_true (show (30 : Int) ≤ deep by omega), Bool.or_true])]
        exact kk h' e o
  | succ k ih =>
    intro n h a v deep K R ho hd hk hsz hL kk
    cases v with
    | mk kind b x t l =>
      obtain ⟨lv, rfl, V, _⟩ := R.cells
      simp only [szV] at hsz
      have hlen := szVs_len l
      refine pre53 (len := l.length) ho V.leaf (fun h' e => (V.ext e).len) (fun h4 h' e o => ?_) (fun h4 h1 p e o P => ?_)
      · have := kk h' e o
        rw [ckV_leaf h4] at this; exact this
      · subst h4
        have hd' : decide ((30 : Int) ≤ deep) = false := decide_eq_false (by omega)
        rw [hd', Bool.or_false]
        have hle : (!decide (4096 < l.length)) = decide (l.length ≤ 4096) := by
          by_cases h : l.length ≤ 4096
          · rw [decide_eq_true h, decide_eq_false (by omega)]; rfl
          · rw [decide_eq_false h, decide_eq_true (by omega)]; rfl
        have hck : ckV (k + 1) (.mk 4 b x t l) = ((!(b || !decide (x = 0) || !decide (t = []) || decide (4096 < l.length))) && l.all (ckV k)) := by
          rw [ckV_list, ← hle]
          simp only [Bool.not_or, Bool.not_not]
        cases hbad : (b || !decide (x = 0) || !decide (t = []) || decide (4096 < l.length)) with
        | true =>
          rw [condB_true]
          have := kk h1 e o
          rw [hck, hbad] at this
          exact this
        | false =>
          rw [condB_false]
          rw [hbad, Bool.not_false, Bool.true_and] at hck
          unfold p53_55
          obtain ⟨n, rfl⟩ : ∃ j, n = j + 1 := ⟨n - 1, by omega⟩
          have loop : ∀ (m i : Nat) (h2 : AHeap), Ext h1 h2 → h2.Ok → i ≤ l.length → l.length - i < m → (l.take i).all (ckV k) = true → l53_59 (callN E (n + 1)) (n + 1) m (.int .i64 deep) (.ptr p 0 0 0) (.int .i64 (i : Int)) h2 K = true := by
            intro m
            induction m with
            | zero => intro i h2 _ _ _ hm; omega
            | succ m ihm =>
              intro i h2 e2 o2 hi hm hall
              have P2 := P.ext e2
              have l4 : loadA h2 false 1 (.ptr p 0 0 4) = some lv := by rw [P2.load]; rfl
              rw [l53_59_s]
              unfold b53_59
              rw [fadrA_ptr, optB_some, Nat.zero_add, l4, optB_some, (V.ext (e.trans e2)).len, optB_some, binA_lss, optB_some]
              by_cases hlt : i < l.length
              · have hci := List.getElem?_eq_getElem hlt
                have ht : l.take (i + 1) = l.take i ++ [l[i]] := by rw [List.take_succ_eq_append_getElem hlt]
                have hmem := szVs_mem (List.getElem_mem hlt)
                obtain ⟨id, g, j, ee, p1, p2, R2⟩ := (V.ext (e.trans e2)).at hci
                obtain ⟨g1, g2, g3, g4⟩ := R2.agg
                have hfalse : ckV k l[i] = false → l.all (ckV k) = false := by
                  intro hf
                  rw [List.all_eq_false]
                  exact ⟨l[i], List.getElem_mem hlt, by rw [hf]; decide⟩
                generalize l[i] = w at *
                rw [condB_t (by simpa using hlt), optB_some, l4, optB_some, p1, optB_some, p2, g1, optB_some, add64 (by omega) (by omega), optB_some]
                refine ih n R2 o2 (by omega) (by omega) (by omega) (by omega) ?_
                intro h4 e4 o4
                rw [notA_bool, optB_some]
                cases hc : ckV k w with
                | false =>
                  rw [Bool.not_false, condB_true]
                  have := kk h4 (e.trans (e2.trans e4)) o4
                  rw [hck, hfalse hc] at this
                  exact this
                | true =>
                  rw [Bool.not_true, condB_false, inc64 (by omega), optB_some]
                  refine ihm (i + 1) h4 (e2.trans e4) o4 (by omega) (by omega) ?_
                  rw [ht, List.all_append, hall]
                  simp [hc]
              · have hil : l.take i = l := List.take_of_length_le (by omega)
                rw [hil] at hall
                rw [condB_f (by simpa using hlt)]
                have := kk h2 (e.trans e2) o2
                rw [hck, hall] at this
                exact this
          exact loop (n + 1) 0 h1 (Ext.refl _) o (Nat.zero_le _) (by omega) rfl

theorem c42 {n : Nat} {h : AHeap} {a : List AV} {v : Val} {K : Kont} (R : RV h a v) (ho : h.Ok) (hn : szV v + 30 ≤ n) (hL : n < lim) (k : ∀ h', Ext h h' → h'.Ok → K (.bool (ckV 30 v)) h' = true) : callN E (n + 2) (.func 42) [.agg a] h K = true := by
  obtain ⟨g1, g2, g3, g4⟩ := R.agg
  have hel : a.length = 5 := by rw [← g4]; exact g2
  apply d42
  unfold s42
  rw [box_eq (n := 5) g2 (by decide) g3, optP_some, g4]
  have e1 := ext_newRow ho [a] 5
  have o1 := ok_newRow ho [a] 5
  have V1 := var_new h a
  rw [hel] at V1
  generalize Ab.newRow h [a] 5 = h1 at *
  rw [V1.load, g1, optB_some]
  exact c53 30 n (RV.ext e1 R) o1 (by omega) (Nat.le_refl _) hn hL (fun h' e o => k h' (e1.trans e) o)
end Go.Proofs.Ytjdpdjmmbajglaa
