/-
  The law of order: masks, the super, all classes.
-/
import Derived.Test.YtjdpdjmmbajglaaKK
namespace Go.Proofs.Ytjdpdjmmbajglaa
open Go.Ab
set_option linter.unusedSimpArgs false
set_option linter.unusedVariables false

theorem and_eq (a b : Int) : binA .and (.int .u64 a) (.int .u64 b) = some (.int .u64 (andU a b)) := by
  rw [binA_ints _ _ _ _ rfl]; rfl

theorem _root_.Go.Ab.Own.ext {b n : Nat} {h h' : AHeap} {v : AV} {es : List (List AV)} (V : Own b h n v es) (e : Ext h h') : Own b h' n v es := by
  rcases V with V | ⟨id, r, w1, w2, w3, w4, w5, w6, w7⟩
  · exact .inl V
  · exact .inr ⟨id, r, w1, w2, e.row w3, w4, w5, w6, w7⟩

theorem mask_fork {a m : Int} (h1 : andU a m = 0) (h2 : m ≠ 0) {k : AV → Bool} : (optB (binA .neq (.int .i64 0) (.int .i64 0)) fun v89 => optB (grdO (wantV v89 false) (some (.int .u64 a))) fun v90 => optB (grdO (wantV v89 false) (some (.int .u64 m))) fun v91 => optB (grdO (wantV v89 false) (binA .and v90 v91)) fun v92 => optB (grdO (wantV v89 false) (binA .neq v92 (.int .u64 0))) fun v93 => optB (pickV v89 (.bool true) v93) fun v94 => optB (grdO (wantV v94 false) (some (.int .u64 m))) fun v95 => optB (grdO (wantV v94 false) (binA .eql v95 (.int .u64 0))) fun v96 => optB (pickV v94 (.bool true) v96) fun v97 => k v97) = k (.bool false) := by
  have e0 : binA .neq (.int .i64 0) (.int .i64 0) = some (.bool false) := rfl
  have e1 : binA .neq (.int .u64 0) (.int .u64 0) = some (.bool false) := rfl
  have e2 : binA .eql (.int .u64 m) (.int .u64 0) = some (.bool false) := by rw [binA_eql, decide_eq_false h2]
  rw [e0, optB_some, wantV_false, Bool.not_false, grdO_true, optB_some, grdO_true, optB_some, grdO_true, and_eq, h1, optB_some, grdO_true, e1, optB_some, pickV_false, optB_some, wantV_false, Bool.not_false, grdO_true, optB_some, grdO_true, e2, optB_some, pickV_false, optB_some]

theorem mask_end {a : Int} {k : AV → Bool} : (optB (binA .neq (.int .i64 0) (.int .i64 0)) fun v110 => optB (grdO (wantV v110 false) (some (.int .u64 a))) fun v111 => optB (grdO (wantV v110 false) (some (.int .u64 a))) fun v112 => optB (grdO (wantV v110 false) (binA .neq v111 v112)) fun v113 => optB (pickV v110 (.bool true) v113) fun v114 => k v114) = k (.bool false) := by
  have e0 : binA .neq (.int .i64 0) (.int .i64 0) = some (.bool false) := rfl
  have e1 : binA .neq (.int .u64 a) (.int .u64 a) = some (.bool false) := by rw [binA_neq, decide_eq_true rfl]; rfl
  simp only [e0, optB_some, wantV_false, Bool.not_false, grdO_true, e1, pickV_false]

/-- The masks of a class's fields. -/
theorem l67 {n : Nat} {h0 : AHeap} {B24 : AV → AV → AV → AHeap → Bool} {x0 t x5 x7 : AV} {l : List Cls} {q i : Nat} {s u : Str} {g : AV} {K : Kont} (k0 : h0.Ok) (T : OrdTab h0 x0 t l q s u g) (A : Asc l) (hl : l.length ≤ 64) (hn : 5000 < n)
    (hi : idx s (names l) = some i) (hnd : (fnames (fieldsOf l s)).Nodup) (h62 : (fieldsOf l s).length ≤ 62) (V7 : View h0 3 x7 ((fieldsOf l s).map encF))
    (k : ∀ h' v, Ext h0 h' → h'.Ok → View h' 1 v ((fnames (fieldsOf l s)).map one) → p4_90 (callN E (n + 7)) (n + 7) B24 x0 t x5 (.ptr q 0 0 0) (.int .u64 (lows (fieldsOf l s).length)) v h' K = true) :
    ∀ (m j : Nat) (h : AHeap) (v : AV), Ext h0 h → h.Ok → Own h0.sz h 1 v (((fnames (fieldsOf l s)).take j).map one) → j ≤ (fieldsOf l s).length → (fieldsOf l s).length - j < m →
    l4_67 (callN E (n + 7)) (n + 7) B24 m x0 t x5 (.ptr q 0 0 0) x7 (.int .u64 (lows j)) v (.int .i64 (j : Int)) h K = true := by
  intro m
  induction m with
  | zero => intro j h v _ _ _ _ hm; omega
  | succ m ih =>
    intro j h v e o O hj hm
    have hfl : (fnames (fieldsOf l s)).length = (fieldsOf l s).length := by simp [fnames]
    rw [l4_67_s]
    unfold b4_67
    have T1 := T.ext e
    have W := V7.ext e
    rw [W.len, optB_some, List.length_map, binA_lss, optB_some]
    by_cases hlt : j < (fieldsOf l s).length
    · have hk : (fnames (fieldsOf l s))[j]? = some (fieldsOf l s)[j].name := by simp [fnames, hlt]
      obtain ⟨i1, g1, j1, p1, p2⟩ := W.at (i := j) (e := encF (fieldsOf l s)[j]) (by simp [hlt])
      have p3 : loadA h false 1 (.ptr i1 g1 j1 0) = some (.str (fieldsOf l s)[j].name) := by rw [p2]; rfl
      rw [condB_t (by simpa using hlt), fadrA_ptr, optB_some, Nat.zero_add, T1.v.load, partA_false, nth_zero, optB_some, p1, optB_some, fadrA_ptr, optB_some, Nat.zero_add, p3, optB_some]
      generalize hw : (fieldsOf l s)[j].name = w at *
      obtain ⟨v85, b1, b2⟩ := bslice_view (h := h) (n := 1) (sz := 1) (z := [AV.str []]) (ps := [(0, AV.str w)]) (es := [[AV.str w]]) rfl (by decide) (by decide) rfl (one_fill w) rfl
      rw [b1, optP_some]
      have e1 := ext_newRow o [[AV.str w]] 1
      have o1 := ok_newRow o [[AV.str w]] 1
      generalize Ab.newRow h [[AV.str w]] 1 = h1 at *
      have T2 := T1.ext e1
      have hsame : sameB (loadA h1 false 1 (.ptr q 0 0 0)) (.str s) = fun r => r := by
        funext r
        rw [T2.v.load, partA_false, nth_zero]
        simp [sameB, AV.same, leqb_dec]
      rw [hsame]
      refine c18 T2.t A o1 b2 (fs := [w]) (.cons rfl .nil) (show 1 < lim by decide) (show 1 < n + 3 by omega) (by omega) (by omega) (by omega) ?_
      intro h2 e2 o2
      obtain ⟨m1, m2, m3, m4⟩ := masks ⟨j, by omega⟩
      rw [maskOf_one hi hnd h62 hk, ext01, mask_fork m3 m4, condB_false, or_eq, m2, optB_some]
      have T3 := T2.ext e2
      have E2 := e.trans (e1.trans e2)
      have W3 := V7.ext E2
      obtain ⟨i2, g2, j2, q1, q2⟩ := W3.at (i := j) (e := encF (fieldsOf l s)[j]) (by simp [hlt])
      have q3 : loadA h2 false 1 (.ptr i2 g2 j2 0) = some (.str w) := by rw [q2, ← hw]; rfl
      rw [q1, optB_some, fadrA_ptr, optB_some, Nat.zero_add, q3, optB_some]
      obtain ⟨v102, b3, b4⟩ := bslice_view (h := h2) (n := 1) (sz := 1) (z := [AV.str []]) (ps := [(0, AV.str w)]) (es := [[AV.str w]]) rfl (by decide) (by decide) rfl (one_fill w) rfl
      rw [b3, optP_some]
      have e3 := ext_newRow o2 [[AV.str w]] 1
      have o3 := ok_newRow o2 [[AV.str w]] 1
      generalize Ab.newRow h2 [[AV.str w]] 1 = h3 at *
      have O3 := O.ext (e1.trans (e2.trans e3))
      have E3 := E2.trans e3
      obtain ⟨v103, h4, a1, a2, a3, a4, a5, a6, a7⟩ := O3.app (bytes := 16) (by decide) E3.1 o3 k0 E3 (Nat.le_refl _) b4.src (by simp; unfold most; omega) (by simp; unfold most; omega)
      rw [a1, optP_some, inc64 (by unfold lim; omega), optB_some]
      refine ih (j + 1) h4 v103 a4 a3 ?_ (by omega) (by omega)
      have ht : (fnames (fieldsOf l s)).take (j + 1) = (fnames (fieldsOf l s)).take j ++ [w] := by rw [List.take_add_one, hk]; rfl
      rw [ht, List.map_append]
      exact a2
    · have he : j = (fieldsOf l s).length := by omega
      subst he
      rw [condB_f (by simp)]
      rw [List.take_of_length_le (by omega)] at O
      exact k h v e o O.view

theorem sup1 {a b : AV} {h : AHeap} {k : AV → Bool} : (optB (binA .neq (.int .i64 0) (.int .i64 0)) fun v48 => optB (grdO (wantV v48 false) (some a)) fun v49 => optB (grdO (wantV v48 false) (lenA h 1 v49)) fun v50 => optB (grdO (wantV v48 false) (some b)) fun v51 => optB (grdO (wantV v48 false) (lenA h 1 v51)) fun v52 => optB (grdO (wantV v48 false) (binA .gtr v50 v52)) fun v53 => optB (pickV v48 (.bool true) v53) fun v54 => k v54) = optB (lenA h 1 a) fun x => optB (lenA h 1 b) fun y => optB (binA .gtr x y) fun z => k z := rfl
theorem sup2 {call : CallFn} {a b : AV} {h : AHeap} {k : AV → AHeap → Bool} : (optB (grdO (wantV (.bool false) false) (some b)) fun v55 => optB (grdO (wantV (.bool false) false) (some a)) fun v56 => optB (grdO (wantV (.bool false) false) (lenA h 1 v56)) fun v57 => optB (grdO (wantV (.bool false) false) (sliceV h 3 v55 none (some v57) none)) fun v58 => optB (grdO (wantV (.bool false) false) (some a)) fun v59 => grdC (wantV (.bool false) false) (fun k => call (.func 17) [v58, v59] h k) h fun v60 h => optB (grdO (wantV (.bool false) false) (notA v60)) fun v61 => optB (pickV (.bool false) (.bool true) v61) fun v62 => k v62 h) =
    optB (lenA h 1 a) fun x => optB (sliceV h 3 b none (some x) none) fun y => call (.func 17) [y, a] h fun v h => optB (notA v) fun w => k w h := rfl
theorem sup3 {call : CallFn} {t : AV} {q : Nat} {h : AHeap} {k : AV → AHeap → Bool} : (optB (grdO (wantV (.bool false) false) (some t)) fun v63 => optB (grdO (wantV (.bool false) false) (some (.ptr q 0 0 0))) fun v64 => optB (grdO (wantV (.bool false) false) (loadA h false 1 v64)) fun v65 => optB (grdO (wantV (.bool false) false) (some (.ptr q 0 0 1))) fun v66 => optB (grdO (wantV (.bool false) false) (loadA h false 1 v66)) fun v67 => grdC (wantV (.bool false) false) (fun k => call (.func 14) [v63, v65, v67] h k) h fun v68 h => optB (grdO (wantV (.bool false) false) (notA v68)) fun v69 => optB (pickV (.bool false) (.bool true) v69) fun v70 => k v70 h) =
    optB (loadA h false 1 (.ptr q 0 0 0)) fun b => optB (loadA h false 1 (.ptr q 0 0 1)) fun d => call (.func 14) [t, b, d] h fun v h => optB (notA v) fun w => k w h := rfl
theorem sup4 {call : CallFn} {t : AV} {q : Nat} {h : AHeap} {k : AV → AHeap → Bool} : (optB (grdO (wantV (.bool false) false) (some t)) fun v71 => optB (grdO (wantV (.bool false) false) (some (.ptr q 0 0 1))) fun v72 => optB (grdO (wantV (.bool false) false) (loadA h false 1 v72)) fun v73 => optB (grdO (wantV (.bool false) false) (some (.ptr q 0 0 0))) fun v74 => optB (grdO (wantV (.bool false) false) (loadA h false 1 v74)) fun v75 => grdC (wantV (.bool false) false) (fun k => call (.func 14) [v71, v73, v75] h k) h fun v76 h => optB (pickV (.bool false) (.bool true) v76) fun v77 => k v77 h) =
    optB (loadA h false 1 (.ptr q 0 0 1)) fun b => optB (loadA h false 1 (.ptr q 0 0 0)) fun d => call (.func 14) [t, b, d] h fun v h => k v h := rfl

theorem ord59 {n : Nat} {h0 : AHeap} {B24 : AV → AV → AV → AHeap → Bool} {x0 t x5 x7 : AV} {l : List Cls} {q i : Nat} {s u : Str} {g : AV} {K : Kont} (k0 : h0.Ok) (T : OrdTab h0 x0 t l q s u g) (A : Asc l) (hl : l.length ≤ 64) (hn : 5000 < n)
    (hi : idx s (names l) = some i) (hnd : (fnames (fieldsOf l s)).Nodup) (h62 : (fieldsOf l s).length ≤ 62) (V7 : View h0 3 x7 ((fieldsOf l s).map encF))
    (k : ∀ h', Ext h0 h' → h'.Ok → p4_133 (callN E (n + 7)) (n + 7) B24 x0 t x5 h' K = true) : p4_59 (callN E (n + 7)) (n + 7) B24 x0 t x5 (.ptr q 0 0 0) x7 h0 K = true := by
  unfold p4_59
  refine l67 k0 T A hl hn hi hnd h62 V7 ?_ (n + 7) 0 h0 .nilSlc (Ext.refl _) k0 (by simp; exact Own.nil _ _ _) (Nat.zero_le _) (by omega)
  intro h1 v e1 o1 V
  have T1 := T.ext e1
  have hfl : (fnames (fieldsOf l s)).length = (fieldsOf l s).length := by simp [fnames]
  unfold p4_90
  rw [fadrA_ptr, optB_some, Nat.zero_add, T1.v.load, partA_false, nth_zero, optB_some]
  refine c18 T1.t A o1 V (named_one _) (by unfold lim; omega) (by omega) (by omega) (by omega) (by omega) ?_
  intro h2 e2 o2
  rw [maskOf_all hi hnd h62, ext01, mask_end, condB_false]
  unfold p4_100
  refine l103 (T1.ext e2) A hl hn ?_ (n + 7) 0 h2 (Ext.refl _) o2 (Nat.zero_le _) (by omega)
  intro h3 e3 o3
  exact k h3 (e1.trans (e2.trans e3)) o3

theorem ord45 {n : Nat} {h0 : AHeap} {B24 : AV → AV → AV → AHeap → Bool} {x0 t x5 x7 : AV} {l : List Cls} {q i : Nat} {c : Cls} {g : AV} {K : Kont} (k0 : h0.Ok) (T : OrdTab h0 x0 t l q c.name c.super g) (G : Good l) (hv : valid l = true) (hc : l[i]? = some c) (hl : l.length ≤ 64) (hn : 5000 < n)
    (V7 : View h0 3 x7 ((fieldsOf l c.name).map encF))
    (k : ∀ h', Ext h0 h' → h'.Ok → p4_133 (callN E (n + 7)) (n + 7) B24 x0 t x5 h' K = true) : p4_45 (callN E (n + 7)) (n + 7) B24 x0 t x5 (.ptr q 0 0 0) x7 h0 K = true := by
  have A := G.asc
  have hi := uniq hv hc
  obtain ⟨hnd, h62⟩ := fields_ok hv G i hi
  have hstep := fields_step A hi hc
  unfold p4_45
  rw [fadrA_ptr, optB_some, Nat.zero_add, T.v.load, partA_false, nth_succ, nth_zero, optB_some, binA_sneq, optB_some]
  by_cases hs : c.super = []
  · rw [condB_f (by simp [hs])]
    exact ord59 k0 T A hl hn hi hnd h62 V7 k
  · obtain ⟨j, hj, hj2, is1, is2⟩ := is_super G hv hc hs
    have hlen : (fieldsOf l c.super).length ≤ (fieldsOf l c.name).length := by rw [hstep]; simp
    rw [condB_t (by simp [hs]), fadrA_ptr, optB_some, Nat.zero_add, T.v.load, partA_false, nth_succ, nth_zero, optB_some]
    refine c16 T.t A k0 (by omega) (by omega) (fun hx => by rw [hx] at hj2; cases hj2) ?_
    intro jj h1 v46 _ e1 o1 V46
    have T1 := T.ext e1
    have W7 := V7.ext e1
    rw [ext01, sup1, V46.len, optB_some, W7.len, optB_some, binA_gtr, optB_some, List.length_map, List.length_map, decide_eq_false (by omega : ¬ ((fieldsOf l c.name).length : Int) < ((fieldsOf l c.super).length : Int)), sup2, V46.len, optB_some, List.length_map]
    obtain ⟨v58, f1, f2⟩ := W7.front (j := .i64) (b := (fieldsOf l c.super).length) (by rw [List.length_map]; exact hlen)
    rw [f1, optB_some]
    have hfr : ((fieldsOf l c.name).map encF).take (fieldsOf l c.super).length = (fieldsOf l c.super).map encF := by
      rw [← List.map_take, hstep, List.take_left]
    rw [hfr] at f2
    refine c17 f2 V46 (by unfold lim; omega) (by omega) ?_
    rw [decide_eq_true rfl, notA_bool, Bool.not_true, optB_some, sup3, T1.v.load, partA_false, nth_zero, optB_some, T1.v.load, partA_false, nth_succ, nth_zero, optB_some]
    refine c14 T1.t A o1 (by omega) ?_
    intro h2 e2 o2
    have T2 := T1.ext e2
    unfold isB at is1 is2
    rw [is1, notA_bool, Bool.not_true, optB_some, sup4, T2.v.load, partA_false, nth_succ, nth_zero, optB_some, T2.v.load, partA_false, nth_zero, optB_some]
    refine c14 T2.t A o2 (by omega) ?_
    intro h3 e3 o3
    rw [is2, condB_false]
    have E3 := e1.trans (e2.trans e3)
    refine ord59 o3 (T.ext E3) A hl hn hi hnd h62 (V7.ext E3) ?_
    intro h4 e4 o4
    exact k h4 (E3.trans e4) o4

theorem is_ok {k : AV → Bool} : (optB (notA (.bool true)) fun v36 => optB (grdO (wantV v36 false) (some (.int .i64 0))) fun v37 => optB (grdO (wantV v36 false) (binA .neq v37 (.int .i64 0))) fun v38 => optB (pickV v36 (.bool true) v38) fun v39 => k v39) = k (.bool false) := rfl

theorem l24 {n : Nat} {h0 : AHeap} {x0 t : AV} {l : List Cls} {K : Kont} (C : CV h0 x0 l) (T : TableRep h0 t l) (G : Good l) (hv : valid l = true) (hl : l.length ≤ 64) (hn : 5000 < n) (hL : n + 10 < lim)
    (k : ∀ h', Ext h0 h' → h'.Ok → K (.bool true) h' = true) : ∀ (m i : Nat) (h : AHeap), Ext h0 h → h.Ok → i ≤ l.length → l.length - i < m →
    l4_24 (callN E (n + 7)) (n + 7) m x0 t (.int .i64 (i : Int)) h K = true := by
  intro m
  induction m with
  | zero => intro i h _ _ _ hm; omega
  | succ m ih =>
    intro i h e o hi hm
    rw [l4_24_s]
    unfold b4_24
    have C1 := C.ext e
    have T1 := T.ext e
    rw [C1.len, optB_some, binA_lss, optB_some, lt20]
    by_cases hc : i < l.length ∧ i < 20
    · rw [condB_t (by simp [hc])]
      unfold p4_31
      have hci := List.getElem?_eq_getElem hc.1
      obtain ⟨id, g, j, f, p1, p2, p3, p4, p5, p6⟩ := C1.at hci
      have hx := uniq hv hci
      obtain ⟨hnd, h62⟩ := fields_ok hv G i hx
      generalize l[i]'hc.1 = c at *
      rw [p1, optB_some, p2, optB_some, alloc_set (n := 3) rfl (by decide) rfl rfl (leaf3 p6.leaf)]
      have e1 := ext_newRow o [[AV.str c.name, AV.str c.super, f]] 3
      have o1 := ok_newRow o [[AV.str c.name, AV.str c.super, f]] 3
      have V1 := var_new h [AV.str c.name, AV.str c.super, f]
      have hcc : (AV.agg [AV.str c.name, AV.str c.super, f]).cells = [AV.str c.name, AV.str c.super, f] := rfl
      rw [hcc]
      simp only [List.length_cons, List.length_nil, Nat.zero_add] at V1
      generalize Ab.newRow h [[AV.str c.name, AV.str c.super, f]] 3 = h1 at *
      rw [fadrA_ptr, optB_some, Nat.zero_add, V1.load, partA_false, nth_zero, optB_some]
      refine c16 (T1.ext e1) G.asc o1 (by omega) (by omega) (fun hh => by rw [hh] at hx; cases hx) ?_
      intro ii h2 v29 _ e2 o2 V29
      have V2 := V1.ext e2
      rw [ext01]
      simp only [fadrA_ptr, optB_some, Nat.zero_add, V2.load, partA_false, nth_zero]
      refine c14 ((T1.ext e1).ext e2) G.asc o2 (by omega) ?_
      intro h3 e3 o3
      have hself := isB_self G.asc (s := c.name) (by rw [hx]; rfl)
      unfold isB at hself
      rw [hself, is_ok, condB_false]
      have E3 := e1.trans (e2.trans e3)
      refine ord45 o3 ⟨C1.ext E3, T1.ext E3, V2.ext e3⟩ G hv hci hl hn (V29.ext e3) ?_
      intro h4 e4 o4
      unfold p4_133
      rw [inc64 (by unfold lim; omega), optB_some]
      exact ih (i + 1) h4 (e.trans (E3.trans e4)) o4 (by omega) (by omega)
    · rw [condB_f (by simp; omega)]
      unfold p4_134
      refine c9 o hn hL ?_
      intro h' e' o'
      exact k h' (e.trans e') o'

theorem bad10 {call : CallFn} {h : AHeap} {k : AV → AHeap → Bool} : (optB (binA .eql (.int .i64 10) (.int .i64 10)) fun v11 => optB (grdO (wantV v11 true) (some .nilPtr)) fun v12 => optB (grdO (wantV v11 true) (eqV h false .ptr v12 .nilPtr)) fun v13 => optB (pickV v11 v13 (.bool false)) fun v14 => grdC (wantV v14 true) (fun k => call (.func 9) [] h k) h fun v15 h => optB (pickV v14 v15 (.bool false)) fun v16 => k v16 h) = call (.func 9) [] h (fun v h => k v h) := rfl

theorem c4 {n : Nat} {h : AHeap} {x0 : AV} {l : List Cls} {K : Kont} (ho : h.Ok) (C : CV h x0 l) (R : Room n l) (hR : n + 11 < lim) (hld : load l < lim) (hll : l.length < n)
    (k : ∀ h', Ext h h' → h'.Ok → K (.bool true) h' = true) : callN E (n + 8) (.func 4) [x0] h K = true := by
  have hbig := R.big
  have htop := R.top
  have R1 : Room (n + 1) l := ⟨by omega, hR, fun c hc => ⟨Nat.le_succ_of_le (R.name c hc).1, fun f hf => Nat.le_succ_of_le ((R.name c hc).2 f hf)⟩⟩
  apply d4
  unfold s4
  refine c8 C hld (by omega) (by omega) ?_
  have wk : ∀ h', Ext h h' → h'.Ok → callN E (n + 7) (.func 9) [] h' (fun v h => K v h) = true := fun h' e o => c9 o R.big R.top fun h'' e' o' => k h'' (e.trans e') o'
  rw [notA_bool, optB_some]
  cases hlt : light l with
  | false =>
    rw [Bool.not_false, condB_true]
    exact wk h (Ext.refl h) ho
  | true =>
    rw [Bool.not_true, condB_false]
    unfold p4_10
    refine c11 ho C R1 ?_ ?_
    · intro _ h1 e1 o1
      rw [ext01, new_bad, condB_true, bad10]
      exact wk h1 e1 o1
    · intro hv G h1 t e1 o1 T
      have hl : l.length ≤ 64 := by
        simp only [valid, Bool.and_eq_true, decide_eq_true_eq] at hv
        exact hv.1
      obtain ⟨id, lv, mid, rfl, _⟩ := id T
      rw [ext01, new_ok, condB_false]
      unfold p4_20
      refine l24 (C.ext e1) T G hv hl hbig htop ?_ (n + 7) 0 h1 (Ext.refl _) o1 (Nat.zero_le _) (by omega)
      intro h2 e2 o2
      exact k h2 (e1.trans e2) o2
end Go.Proofs.Ytjdpdjmmbajglaa
