/-
  Whether a value may be: the program's answer, walked.
-/
import Derived.Test.YtjdpdjmmbajglaaVB
namespace Go.Proofs.Ytjdpdjmmbajglaa
open Go.Ab
set_option linter.unusedSimpArgs false
set_option linter.unusedVariables false

theorem ckV_leaf {k : Nat} {kind : Int} {b : Bool} {n : Int} {t : Str} {l : List Val} (h : kind ≠ 4) : ckV k (.mk kind b n t l) = leafOk kind b n t l.length := by
  cases k with
  | zero => rfl
  | succ k => simp only [ckV, if_neg h]
theorem ckV_list0 {b : Bool} {n : Int} {t : Str} {l : List Val} : ckV 0 (.mk 4 b n t l) = false := rfl
theorem ckV_list {k : Nat} {b : Bool} {n : Int} {t : Str} {l : List Val} : ckV (k + 1) (.mk 4 b n t l) = (!b && decide (n = 0) && decide (t = []) && decide (l.length ≤ 4096) && l.all (ckV k)) := by
  simp only [ckV, if_pos]

theorem or_deep {h : AHeap} {p lv : AV} {len : Nat} {deep : Int} {k : AV → Bool} (ha : loadA h false 1 p = some lv) (L : lenA h 1 lv = some (.int .i64 (len : Int))) :
    (optB (binA .geq (.int .i64 deep) (.int .i64 30)) fun v64 => optB (grdO (wantV v64 false) (some p)) fun v65 => optB (grdO (wantV v64 false) (loadA h false 1 v65)) fun v66 => optB (grdO (wantV v64 false) (lenA h 1 v66)) fun v67 => optB (grdO (wantV v64 false) (binA .gtr v67 (.int .i64 4096))) fun v68 => optB (pickV v64 (.bool true) v68) fun v69 => k v69) = k (.bool (decide (30 ≤ deep) || decide (4096 < len))) := by
  have e : decide ((4096 : Int) < (len : Int)) = decide (4096 < len) := by congr 1; apply propext; omega
  rw [binA_geq, optB_some]
  cases hd : decide (30 ≤ deep) with
  | true => rfl
  | false => simp only [wantV_false, Bool.not_false, grdO_true, optB_some, ha, L, binA_gtr, e, pickV_false, Bool.false_or]

theorem leaf5 {a b c d e : AV} (ha : a.leaf = true) (hb : b.leaf = true) (hc : c.leaf = true) (hd : d.leaf = true) (he : e.leaf = true) : (AV.agg [a, b, c, d, e]).cells = [a, b, c, d, e] ∧ allLeaf [a, b, c, d, e] = true := by
  refine ⟨rfl, ?_⟩
  show (bif a.leaf then (bif b.leaf then (bif c.leaf then (bif d.leaf then (bif e.leaf then true else false) else false) else false) else false) else false) = true
  rw [ha, hb, hc, hd, he]; rfl

theorem leafOk0 {b : Bool} {x : Int} {t : Str} {len : Nat} : (((b == false) && decide (x = 0) && decide (t = []) && decide (t.length ≤ 65536) && (decide (len = 0) || decide ((0 : Int) = 4)))) = leafOk 0 b x t len := by
  by_cases ht : t = []
  · subst ht; cases b <;> simp [leafOk]
  · cases b <;> simp [leafOk, ht]
theorem leafOk1 {b : Bool} {x : Int} {t : Str} {len : Nat} : (((b == b) && decide (x = 0) && decide (t = []) && decide (t.length ≤ 65536) && (decide (len = 0) || decide ((1 : Int) = 4)))) = leafOk 1 b x t len := by
  by_cases ht : t = []
  · subst ht; cases b <;> simp [leafOk]
  · cases b <;> simp [leafOk, ht]
theorem leafOk2 {b : Bool} {x : Int} {t : Str} {len : Nat} : (((b == false) && decide (x = x) && decide (t = []) && decide (t.length ≤ 65536) && (decide (len = 0) || decide ((2 : Int) = 4)))) = leafOk 2 b x t len := by
  by_cases ht : t = []
  · subst ht; cases b <;> simp [leafOk]
  · cases b <;> simp [leafOk, ht]
theorem leafOk3 {b : Bool} {x : Int} {t : Str} {len : Nat} : (((b == false) && decide (x = 0) && decide (t = t) && decide (t.length ≤ 65536) && (decide (len = 0) || decide ((3 : Int) = 4)))) = leafOk 3 b x t len := by
  cases b <;> simp [leafOk, Bool.and_comm, Bool.and_assoc, Bool.and_left_comm]
theorem leafOk5 {b : Bool} {x : Int} {t : Str} {len : Nat} : (((b == false) && decide (x = if x < 1 then 1 else x) && decide (t = []) && decide (t.length ≤ 65536) && (decide (len = 0) || decide ((5 : Int) = 4)))) = leafOk 5 b x t len := by
  have e : decide (x = if x < 1 then 1 else x) = decide (1 ≤ x) := by
    congr 1; apply propext
    by_cases h : x < 1
    · rw [if_pos h]; omega
    · rw [if_neg h]; omega
  rw [e]
  by_cases ht : t = []
  · subst ht; cases b <;> simp [leafOk, Bool.and_comm]
  · cases b <;> simp [leafOk, ht]
theorem leafOk_else {kind : Int} {b : Bool} {x : Int} {t : Str} {len : Nat} (h0 : kind ≠ 0) (h1 : kind ≠ 1) (h2 : kind ≠ 2) (h3 : kind ≠ 3) (h5 : kind ≠ 5) : leafOk kind b x t len = false := by
  simp only [leafOk, if_neg h0, if_neg h1, if_neg h2, if_neg h3, if_neg h5]

theorem mm_eq (x : Int) : mmV true [.int .i64 x, .int .i64 1] = some (.int .i64 (if x < 1 then 1 else x)) := by
  simp only [mmV, mmA, Nat.beq_refl, cond_true, iltb_dec]
  by_cases h : x < 1
  · simp [h]
  · simp [h]

theorem st_some {o : Option AHeap} {h : AHeap} {k : Kont} (e : o = some h) (hk : k (.tup []) h = true) : optP (unit o) k = true := by subst e; exact hk

/-- The test up to a list's elements. -/
theorem pre52 {n : Nat} {h : AHeap} {kind x deep : Int} {b : Bool} {t : Str} {lv : AV} {len : Nat} {K : Kont} (ho : h.Ok) (hlf : lv.leaf = true) (L : ∀ h', Ext h h' → lenA h' 1 lv = some (.int .i64 (len : Int)))
    (kl : kind ≠ 4 → ∀ h', Ext h h' → h'.Ok → K (.bool (leafOk kind b x t len)) h' = true)
    (k4 : kind = 4 → ∀ h' p q, Ext h h' → h'.Ok → Var h' p [.int .i64 kind, .bool b, .int .i64 x, .str t, lv] → Var h' q [.int .i64 kind, .bool false, .int .i64 0, .str [], .nilSlc] → (condB (.bool (decide (30 ≤ deep) || decide (4096 < len))) (K (.bool false) h') (p52_39 (callN E n) n (.int .i64 deep) (.ptr p 0 0 0) (.ptr q 0 0 0) h' K)) = true) :
    callN E (n + 1) (.func 52) [.agg [.int .i64 kind, .bool b, .int .i64 x, .str t, lv], .int .i64 deep] h K = true := by
  obtain ⟨lf1, lf2⟩ := leaf5 (a := .int .i64 kind) (b := .bool b) (c := .int .i64 x) (d := .str t) (e := lv) rfl rfl rfl rfl hlf
  apply d52
  unfold s52
  rw [box_eq (n := 5) (v := .agg [.int .i64 kind, .bool b, .int .i64 x, .str t, lv]) (by rw [lf1]; rfl) (by decide) (by rw [lf1]; exact lf2), optP_some, lf1]
  have e1 := ext_newRow ho [[AV.int .i64 kind, .bool b, .int .i64 x, .str t, lv]] 5
  have o1 := ok_newRow ho [[AV.int .i64 kind, .bool b, .int .i64 x, .str t, lv]] 5
  have V1 := var_new h [AV.int .i64 kind, .bool b, .int .i64 x, .str t, lv]
  simp only [List.length_cons, List.length_nil, Nat.zero_add] at V1
  have s1 : (Ab.newRow h [[AV.int .i64 kind, .bool b, .int .i64 x, .str t, lv]] 5).sz = h.sz + 1 := rfl
  generalize Ab.newRow h [[AV.int .i64 kind, .bool b, .int .i64 x, .str t, lv]] 5 = h1 at *
  have hb : buildV [AV.int .i64 0, .bool false, .int .i64 0, .str [], .nilSlc] [(0, 1, AV.int .i64 kind)] = some (.agg [.int .i64 kind, .bool false, .int .i64 0, .str [], .nilSlc]) := rfl
  rw [fadrA_ptr, optB_some, Nat.zero_add, V1.load, partA_false, nth_zero, optB_some, hb, optB_some, alloc_set (n := 5) rfl (by decide) rfl rfl rfl]
  have hcc : (AV.agg [AV.int .i64 kind, .bool false, .int .i64 0, .str [], .nilSlc]).cells = [AV.int .i64 kind, .bool false, .int .i64 0, .str [], .nilSlc] := rfl
  rw [hcc]
  have e2 := ext_newRow o1 [[AV.int .i64 kind, .bool false, .int .i64 0, .str [], .nilSlc]] 5
  have o2 := ok_newRow o1 [[AV.int .i64 kind, .bool false, .int .i64 0, .str [], .nilSlc]] 5
  have Q2 := var_new h1 [AV.int .i64 kind, .bool false, .int .i64 0, .str [], .nilSlc]
  simp only [List.length_cons, List.length_nil, Nat.zero_add] at Q2
  have V2 := V1.ext e2
  generalize Ab.newRow h1 [[AV.int .i64 kind, .bool false, .int .i64 0, .str [], .nilSlc]] 5 = h2 at *
  have hpq : h.sz ≠ h1.sz := by omega
  have hq : h.sz ≤ h1.sz := by omega
  have put2 : ∀ o, Ext h (h2.put h1.sz o) := fun o => ext_put (e1.trans e2) ho (by omega) o
  have hql : h1.sz < h2.sz := Q2.lt o2
  generalize h.sz = p at *
  generalize h1.sz = q at *
  have E2 := e1.trans e2
  have ef : ∀ o, fadrA o (.ptr p 0 0 0) = some (.ptr p 0 0 o) := fun o => by rw [fadrA_ptr, Nat.zero_add]
  have eg : ∀ o, fadrA o (.ptr q 0 0 0) = some (.ptr q 0 0 o) := fun o => by rw [fadrA_ptr, Nat.zero_add]
  have stay := L h2 E2
  -- a cell of the bare value, written
  have set : ∀ (o : Nat) (w : AV), o < 5 → w.leaf = true → ∃ h3, storeA h2 1 (.ptr q 0 0 o) w = some h3 ∧ Ext h h3 ∧ h3.Ok ∧ Var h3 p [.int .i64 kind, .bool b, .int .i64 x, .str t, lv] ∧ Var h3 q ([AV.int .i64 kind, .bool false, .int .i64 0, .str [], .nilSlc].set o w) := by
    intro o w h5 hw
    exact ⟨_, Q2.set1 (by simpa using h5) hw, put2 _, o2.put hql _, V2.other hpq _, var_put q _⟩
  have cp : ∀ (o : Nat) (w : AV) (k : AV → AV → Bool), loadA h2 false 1 (.ptr p 0 0 o) = some w → (optB (fadrA o (.ptr p 0 0 0)) fun v43 => optB (loadA h2 false 1 v43) fun v44 => optB (fadrA o (.ptr q 0 0 0)) fun v45 => k v44 v45) = k w (.ptr q 0 0 o) := by
    intro o w k hw
    rw [ef, eg, optB_some, hw, optB_some, optB_some]
  have k11 := fun k => cp 1 (.bool b) k (by rw [V2.load]; rfl)
  have k22 := fun k => cp 2 (.int .i64 x) k (by rw [V2.load]; rfl)
  have k33 := fun k => cp 3 (.str t) k (by rw [V2.load]; rfl)
  have k25 : ∀ (k : AV → AV → Bool), (optB (fadrA 2 (.ptr p 0 0 0)) fun v43 => optB (loadA h2 false 1 v43) fun v44 => optB (mmV true [v44, .int .i64 1]) fun v55 => optB (fadrA 2 (.ptr q 0 0 0)) fun v45 => k v55 v45) = k (.int .i64 (if x < 1 then 1 else x)) (.ptr q 0 0 2) := by
    intro k
    rw [ef, eg, optB_some, V2.load, partA_false, nth_succ, nth_succ, nth_zero, optB_some, mm_eq, optB_some, optB_some]
  rw [optB_some, V2.load, partA_false, nth_zero, optB_some, binA_eql, optB_some]
  by_cases c0 : kind = 0
  · subst c0
    rw [condB_t (by decide), t64 V2 Q2 stay, leafOk0]
    exact kl (by decide) h2 E2 o2
  rw [condB_f (by simp [c0]), binA_eql, optB_some]
  by_cases c1 : kind = 1
  · subst c1
    obtain ⟨h3, w1, w2, w3, w4, w5⟩ := set 1 (.bool b) (by decide) rfl
    rw [condB_t (by decide), k11]
    refine st_some w1 ?_
    rw [t64 w4 w5 (L h3 w2), leafOk1]
    exact kl (by decide) h3 w2 w3
  rw [condB_f (by simp [c1]), binA_eql, optB_some]
  by_cases c2 : kind = 2
  · subst c2
    obtain ⟨h3, w1, w2, w3, w4, w5⟩ := set 2 (.int .i64 x) (by decide) rfl
    rw [condB_t (by decide), k22]
    refine st_some w1 ?_
    rw [t64 w4 w5 (L h3 w2), leafOk2]
    exact kl (by decide) h3 w2 w3
  rw [condB_f (by simp [c2]), binA_eql, optB_some]
  by_cases c5 : kind = 5
  · subst c5
    obtain ⟨h3, w1, w2, w3, w4, w5⟩ := set 2 (.int .i64 (if x < 1 then 1 else x)) (by decide) rfl
    rw [condB_t (by decide), k25]
    refine st_some w1 ?_
    rw [t64 w4 w5 (L h3 w2), leafOk5]
    exact kl (by decide) h3 w2 w3
  rw [condB_f (by simp [c5]), binA_eql, optB_some]
  by_cases c3 : kind = 3
  · subst c3
    obtain ⟨h3, w1, w2, w3, w4, w5⟩ := set 3 (.str t) (by decide) rfl
    rw [condB_t (by decide), k33]
    refine st_some w1 ?_
    rw [t64 w4 w5 (L h3 w2), leafOk3]
    exact kl (by decide) h3 w2 w3
  rw [condB_f (by simp [c3]), binA_eql, optB_some]
  by_cases c4 : kind = 4
  · rw [condB_t (by simp [c4]), ef 4, or_deep (lv := lv) (len := len) (by rw [V2.load]; rfl) stay]
    exact k4 c4 h2 p q E2 o2 V2 Q2
  · rw [condB_f (by simp [c4])]
    have := kl c4 h2 E2 o2
    rw [leafOk_else c0 c1 c2 c3 c5] at this
    exact this

theorem szVs_mem {l : List Val} {v : Val} (h : v ∈ l) : szV v ≤ szVs l := by rw [szVs_eq]; exact szL_mem h
theorem szVs_len (l : List Val) : l.length ≤ szVs l := by rw [szVs_eq]; exact szL_length (fun v => by cases v; simp only [szV]; omega) l

theorem _root_.Go.Ab.RV.agg {h : AHeap} {a : List AV} {v : Val} (R : RV h a v) : partA true 0 5 a = some (.agg a) ∧ (AV.agg a).cells.length = 5 ∧ allLeaf (AV.agg a).cells = true ∧ (AV.agg a).cells = a := by
  cases v with
  | mk kind b x t l =>
    obtain ⟨lv, rfl, V, _⟩ := R.cells
    obtain ⟨lf1, lf2⟩ := leaf5 (a := .int .i64 kind) (b := .bool b) (c := .int .i64 x) (d := .str t) (e := lv) rfl rfl rfl rfl V.leaf
    exact ⟨rfl, rfl, by rw [lf1]; exact lf2, lf1⟩

theorem c52 : ∀ (k n : Nat) {h : AHeap} {a : List AV} {v : Val} {deep : Int} {K : Kont}, RV h a v → h.Ok → deep + (k : Int) = 30 → k ≤ 30 → szV v + k ≤ n → n < lim → (∀ h', Ext h h' → h'.Ok → K (.bool (ckV k v)) h' = true) → callN E (n + 1) (.func 52) [.agg a, .int .i64 deep] h K = true := by
  intro k
  induction k with
  | zero =>
    intro n h a v deep K R ho hd _ hsz hL kk
    cases v with
    | mk kind b x t l =>
      obtain ⟨lv, rfl, V, _⟩ := R.cells
      refine pre52 (len := l.length) ho V.leaf (fun h' e => (V.ext e).len) (fun h4 h' e o => ?_) (fun h4 h' p q e o _ _ => ?_)
      · have := kk h' e o
        rw [ckV_leaf h4] at this; exact this
      · subst h4
        rw [condB_t (by rw [decide_eq_true (show (30 : Int) ≤ deep by omega)]; rfl)]
        exact kk h' e o
  | succ k ih =>
    intro n h a v deep K R ho hd hk hsz hL kk
    cases v with
    | mk kind b x t l =>
      obtain ⟨lv, rfl, V, _⟩ := R.cells
      simp only [szV] at hsz
      have hlen := szVs_len l
      refine pre52 (len := l.length) ho V.leaf (fun h' e => (V.ext e).len) (fun h4 h' e o => ?_) (fun h4 h1 p q e o P Q => ?_)
      · have := kk h' e o
        rw [ckV_leaf h4] at this; exact this
      · subst h4
        have hd' : decide ((30 : Int) ≤ deep) = false := decide_eq_false (by omega)
        rw [hd', Bool.false_or]
        by_cases hl : l.length ≤ 4096
        · rw [condB_f (decide_eq_false (by omega))]
          unfold p52_39
          rw [fadrA_ptr, optB_some, Nat.zero_add, P.load, partA_false, nth_succ, nth_succ, nth_succ, nth_succ, nth_zero, optB_some, (V.ext e).len, optB_some]
          obtain ⟨n, rfl⟩ : ∃ j, n = j + 1 := ⟨n - 1, by omega⟩
          have loop : ∀ (m i : Nat) (h2 : AHeap), Ext h1 h2 → h2.Ok → i ≤ l.length → l.length - i < m → (l.take i).all (ckV k) = true → l52_42 (callN E (n + 1)) (n + 1) m (.int .i64 deep) (.ptr p 0 0 0) (.ptr q 0 0 0) lv (.int .i64 (l.length : Int)) (.int .i64 (i : Int)) h2 K = true := by
            intro m
            induction m with
            | zero => intro i h2 _ _ _ hm; omega
            | succ m ihm =>
              intro i h2 e2 o2 hi hm hall
              rw [l52_42_s]
              unfold b52_42
              rw [binA_lss, optB_some]
              by_cases hlt : i < l.length
              · have hci := List.getElem?_eq_getElem hlt
                have ht : l.take (i + 1) = l.take i ++ [l[i]] := by rw [List.take_succ_eq_append_getElem hlt]
                have hmem := szVs_mem (List.getElem_mem hlt)
                obtain ⟨id, g, j, ee, p1, p2, R2⟩ := (V.ext (e.trans e2)).at hci
                obtain ⟨g1, g2, g3, g4⟩ := R2.agg
                have hfalse : ckV k l[i] = false → ckV (k + 1) (.mk 4 b x t l) = false := by
                  intro hf
                  rw [ckV_list]
                  have : l.all (ckV k) = false := by
                    rw [List.all_eq_false]
                    exact ⟨l[i], List.getElem_mem hlt, by rw [hf]; decide⟩
                  rw [this, Bool.and_false]
                generalize l[i] = w at *
                have hll : ∀ a : Nat → Prop, True := fun _ => trivial
                rw [condB_t (by simpa using hlt), p1, optB_some, p2, g1, optB_some, alloc_set (n := 5) rfl (by decide) rfl g2 g3]
                have e3 := ext_newRow o2 [ee] 5
                have o3 := ok_newRow o2 [ee] 5
                have V3 := var_new h2 ee
                have hel : ee.length = 5 := by rw [← g4]; exact g2
                rw [hel] at V3
                rw [g4]
                generalize Ab.newRow h2 [ee] 5 = h3 at *
                rw [V3.load, g1, optB_some, add64 (by omega) (by omega), optB_some]
                refine ih n (R2.ext e3) o3 (by omega) (by omega) (by omega) (by omega) ?_
                intro h4 e4 o4
                rw [notA_bool, optB_some]
                cases hc : ckV k w with
                | false =>
                  rw [Bool.not_false, condB_true]
                  have := kk h4 (e.trans (e2.trans (e3.trans e4))) o4
                  rw [hfalse hc] at this
                  exact this
                | true =>
                  rw [Bool.not_true, condB_false, inc64 (by omega), optB_some]
                  refine ihm (i + 1) h4 (e2.trans (e3.trans e4)) o4 (by omega) (by omega) ?_
                  rw [ht, List.all_append, hall]
                  simp [hc]
              · have hil : l.take i = l := List.take_of_length_le (by omega)
                rw [hil] at hall
                rw [condB_f (by simpa using hlt), t64 (P.ext e2) (Q.ext e2) (V.ext (e.trans e2)).len]
                have := kk h2 (e.trans e2) o2
                rw [ckV_list, hall, decide_eq_true hl] at this
                have e5 : (((b == false) && decide (x = 0) && decide (t = []) && decide (t.length ≤ 65536) && (decide (l.length = 0) || decide ((4 : Int) = 4)))) = (!b && decide (x = 0) && decide (t = []) && true && true) := by
                  by_cases ht : t = []
                  · subst ht; cases b <;> simp
                  · cases b <;> simp [ht]
                rw [e5]; exact this
          exact loop (n + 1) 0 h1 (Ext.refl _) o (Nat.zero_le _) (by omega) rfl
        · rw [condB_t (decide_eq_true (by omega))]
          have := kk h1 e o
          rw [ckV_list, decide_eq_false hl, Bool.and_false, Bool.false_and] at this
          exact this

theorem c41 {n : Nat} {h : AHeap} {a : List AV} {v : Val} {K : Kont} (R : RV h a v) (ho : h.Ok) (hn : szV v + 30 ≤ n) (hL : n < lim) (k : ∀ h', Ext h h' → h'.Ok → K (.bool (ckV 30 v)) h' = true) : callN E (n + 2) (.func 41) [.agg a] h K = true := by
  obtain ⟨g1, g2, g3, g4⟩ := R.agg
  have hel : a.length = 5 := by rw [← g4]; exact g2
  apply d41
  unfold s41
  rw [box_eq (n := 5) g2 (by decide) g3, optP_some, g4]
  have e1 := ext_newRow ho [a] 5
  have o1 := ok_newRow ho [a] 5
  have V1 := var_new h a
  rw [hel] at V1
  generalize Ab.newRow h [a] 5 = h1 at *
  rw [V1.load, g1, optB_some]
  exact c52 30 n (R.ext e1) o1 (by omega) (Nat.le_refl _) hn hL (fun h' e o => k h' (e1.trans e) o)
end Go.Proofs.Ytjdpdjmmbajglaa
