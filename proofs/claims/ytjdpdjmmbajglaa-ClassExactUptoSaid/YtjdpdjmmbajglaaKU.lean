/-
  The law of classes, walked: the table, or the refusal; all names that are asked of.
-/
import Derived.Test.YtjdpdjmmbajglaaKT
namespace Go.Proofs.Ytjdpdjmmbajglaa
open Go.Ab
set_option linter.unusedSimpArgs false
set_option linter.unusedVariables false

theorem exb {call : CallFn} {h : AHeap} {k : AV → AHeap → Bool} : (optB (eqV h false .ptr .nilPtr .nilPtr) fun v35 => optB (grdO (wantV v35 true) (some (.int .i64 10))) fun v36 => optB (grdO (wantV v35 true) (binA .eql v36 (.int .i64 10))) fun v37 => optB (pickV v35 v37 (.bool false)) fun v38 => grdC (wantV v38 true) (fun k => call (.func 9) [] h k) h fun v39 h => optB (pickV v38 v39 (.bool false)) fun v40 => k v40 h) = call (.func 9) [] h (fun v h => k v h) := rfl
theorem exo {h : AHeap} {id : Nat} {k : AV → Bool} : (optB (eqV h false .ptr (.ptr id 0 0 0) .nilPtr) fun v41 => optB (grdO (wantV v41 false) (some (.int .i64 0))) fun v42 => optB (grdO (wantV v41 false) (binA .neq v42 (.int .i64 0))) fun v43 => optB (pickV v41 (.bool true) v43) fun v44 => k v44) = k (.bool false) := rfl
theorem lt_12 {n : Int} {i : Nat} {k : AV → Bool} : (optB (binA .lss (.int .i64 (i : Int)) (.int .i64 n)) fun v68 => optB (grdO (wantV v68 true) (some (.int .i64 (i : Int)))) fun v69 => optB (grdO (wantV v68 true) (binA .lss v69 (.int .i64 12))) fun v70 => optB (pickV v68 v70 (.bool false)) fun v71 => k v71) = k (.bool (decide ((i : Int) < n) && decide (i < 12))) := by
  have e : decide ((i : Int) < 12) = decide (i < 12) := by congr 1; apply propext; omega
  rw [binA_lss, optB_some]
  cases hd : decide ((i : Int) < n)
  · rfl
  · simp only [wantV_true, grdO_true, optB_some, binA_lss, pickV_true, Bool.true_and, e]
theorem two13 {call : CallFn} {h : AHeap} {t : AV} {p : Nat} {i : AV} {k : AV → AHeap → Bool} : (optB (notA (.bool true)) fun v58 => optB (grdO (wantV v58 false) (some t)) fun v59 => optB (grdO (wantV v58 false) (loadA h true 3 (.ptr p 0 0 0))) fun v60 => optB (grdO (wantV v58 false) (some (.ptr p 0 0 1))) fun v61 => optB (grdO (wantV v58 false) (loadA h false 1 v61)) fun v62 => optB (grdO (wantV v58 false) (some i)) fun v63 => optB (grdO (wantV v58 false) (iadrA h 1 v62 v63)) fun v64 => optB (grdO (wantV v58 false) (loadA h false 1 v64)) fun v65 => grdC (wantV v58 false) (fun k => call (.func 13) [v59, v60, v65] h k) h fun v66 h => optB (grdO (wantV v58 false) (notA v66)) fun v67 => optB (pickV v58 (.bool true) v67) fun v68 => k v68 h)
    = optB (loadA h true 3 (.ptr p 0 0 0)) fun v60 => optB (loadA h false 1 (.ptr p 0 0 1)) fun v62 => optB (iadrA h 1 v62 i) fun v64 => optB (loadA h false 1 v64) fun v65 => call (.func 13) [t, v60, v65] h fun v66 h => optB (notA v66) fun v67 => k v67 h := by
  simp only [notA_bool, Bool.not_true, optB_some, wantV_false, Bool.not_false, grdO_true, grdC_true, pickV_false, fadrA_ptr, Nat.zero_add]
theorem same_str (s : Str) (r : Bool) : sameB (some (.str s)) (.str s) r = r := by simp [sameB, AV.same, leqb_dec]
theorem same_view {h : AHeap} {n : Nat} {v : AV} {es : List (List AV)} (V : View h n v es) (r : Bool) : sameB (some v) v r = r := by
  rcases V with ⟨_, rfl | rfl⟩ | ⟨id, g, s, cap, ex, w, rfl, _⟩
  · rfl
  · rfl
  · simp [sameB, AV.same]
theorem same_ptr (a b c d : Nat) (r : Bool) : sameB (some (.ptr a b c d)) (.ptr a b c d) r = r := by simp [sameB, AV.same]

/-- What stands while names are asked of. -/
structure AskE (h : AHeap) (t lv nv fv : AV) (p : Nat) (l : List Cls) (ns fs : List Str) (en ef : List (List AV)) : Prop where
  o : OneE h t lv nv fv p l fs ef
  n : View h 1 nv en
  nm : Named en ns

theorem AskE.ext {h h' : AHeap} {t lv nv fv : AV} {p : Nat} {l : List Cls} {ns fs : List Str} {en ef : List (List AV)} (O : AskE h t lv nv fv p l ns fs en ef) (e : Ext h h') : AskE h' t lv nv fv p l ns fs en ef := ⟨O.o.ext e, O.n.ext e, O.nm⟩

theorem AskE.at {h : AHeap} {t lv nv fv : AV} {p : Nat} {l : List Cls} {ns fs : List Str} {en ef : List (List AV)} (O : AskE h t lv nv fv p l ns fs en ef) {i : Nat} {w : Str} (hw : ns[i]? = some w) :
    ∃ id g j, (∀ h', Ext h h' → iadrA h' 1 nv (.int .i64 (i : Int)) = some (.ptr id g j 0) ∧ loadA h' false 1 (.ptr id g j 0) = some (.str w)) := by
  obtain ⟨e', he, hn'⟩ := O.nm.get hw
  rcases O.n with ⟨rfl, _⟩ | ⟨id, g, s, cap, ex, r, rfl, h2, h3, h4, h5, h6⟩
  · simp at he
  · have hlt : i < en.length := (List.getElem?_eq_some_iff.1 he).1
    refine ⟨id, g, s + i, fun h' e => ?_⟩
    have h2' := e.row h2
    refine ⟨?_, ?_⟩
    · have : rowSz h' id 1 = true := by simp only [rowSz, h2', nbeq_true]; exact h4
      simp only [iadrA, asNat_nat, nblt_true.2 hlt, this, Bool.and_self, cond_true]
    · have hn : nth r.es (s + i) = some e' := by
        rw [nth_eq]
        rw [← h5, List.getElem?_take] at he
        simp only [hlt, if_true, List.getElem?_drop] at he
        exact he
      simp only [loadA, h2', nble_true.2 h3, cond_true, hn, partA_false]
      exact hn'

theorem l384 {n : Nat} {h0 : AHeap} {t lv nv fv : AV} {p : Nat} {l : List Cls} {ns fs : List Str} {en ef : List (List AV)} {B : AV → AV → AV → AHeap → Bool} {i : Nat} {w : Str} {K : Kont} (O0 : AskE h0 t lv nv fv p l ns fs en ef) (A : Asc l) (hl : l.length ≤ 64) (hn : 5000 < n) (hL : n + 20 < lim) (hw : ns[i]? = some w)
    (k : ∀ h', Ext h0 h' → h'.Ok → p3_101 (callN E (n + 7)) (n + 7) B (.ptr p 0 0 0) t (.int .i64 (i : Int)) h' K = true) :
    ∀ (m j : Nat) (h : AHeap), Ext h0 h → h.Ok → j ≤ ns.length → 12 - j < m →
      l3_84 (callN E (n + 7)) (n + 7) B m (.ptr p 0 0 0) t (.int .i64 (i : Int)) (.int .i64 (j : Int)) h K = true := by
  intro m
  induction m with
  | zero => intro j h _ _ _ hm; omega
  | succ m ih =>
    intro j h e o hj hm
    rw [l3_84_s]
    unfold b3_84
    have O1 := O0.ext e
    have V := O1.o.v
    rw [fadrA_ptr, optB_some, Nat.zero_add, V.load, partA_false, nth_succ, nth_zero, optB_some, O1.n.len, O1.nm.length, optB_some, lt_12]
    by_cases hc : j < ns.length ∧ j < 12
    · obtain ⟨u, hu⟩ : ∃ u, ns[j]? = some u := ⟨_, List.getElem?_eq_getElem hc.1⟩
      obtain ⟨i1, g1, j1, q1⟩ := O1.at hw
      obtain ⟨i2, g2, j2, q2⟩ := O1.at hu
      obtain ⟨q1a, q1b⟩ := q1 h (Ext.refl h)
      obtain ⟨q2a, q2b⟩ := q2 h (Ext.refl h)
      rw [condB_t (by simp [hc]), optB_some, V.load, partA_false, nth_succ, nth_zero, optB_some, q1a, optB_some, q1b, optB_some, optB_some, V.load, partA_false, nth_succ, nth_zero, optB_some, q2a, optB_some, q2b, optB_some, fadrA_ptr, optB_some, Nat.zero_add, V.load, partA_false, nth_zero, optB_some, optB_some, V.load, partA_false, nth_succ, nth_zero, optB_some, q1a, optB_some, q1b, optB_some, optB_some, V.load, partA_false, nth_succ, nth_zero, optB_some, q2a, optB_some, q2b, optB_some]
      refine c14 (n := n + 5) O1.o.t A o (by omega) ?_
      intro h2 e2 o2
      have O2 := O1.ext e2
      obtain ⟨r1a, r1b⟩ := q1 h2 e2
      obtain ⟨r2a, r2b⟩ := q2 h2 e2
      obtain ⟨es, W, _⟩ := O2.o.c
      rw [O2.o.v.load, partA_false, nth_zero, same_view W, O2.o.v.load, partA_false, nth_succ, nth_zero, same_view O2.n, r1a, same_ptr, r1b, same_str, same_view O2.n, r2a, same_ptr, r2b, same_str]
      refine c15 (n := n + 5) O2.o.c A (by omega) (by unfold lim; omega) ?_
      rw [show ((chain l w).any fun c => decide (c.name = u)) = isB l w u from rfl, eqV_bool, optB_some, condB_f (by simp), inc64 (by unfold lim; omega), optB_some]
      exact ih (j + 1) h2 (e.trans e2) o2 hc.1 (by omega)
    · rw [condB_f (by simp; omega)]
      exact k h e o

theorem l364 {n : Nat} {h0 : AHeap} {t lv nv fv : AV} {p : Nat} {l : List Cls} {ns fs : List Str} {en ef : List (List AV)} {K : Kont} (O0 : AskE h0 t lv nv fv p l ns fs en ef) (hv : valid l = true) (hld : load l ≤ 100000) (hn : 5000 < n) (hL : n + 20 < lim) (hfs : fs.length < n)
    (k : ∀ h', Ext h0 h' → h'.Ok → K (.bool true) h' = true) :
    ∀ (m j : Nat) (h : AHeap), Ext h0 h → h.Ok → j ≤ ns.length → 12 - j < m →
      l3_64 (callN E (n + 7)) (n + 7) m (.ptr p 0 0 0) t (.int .i64 (j : Int)) h K = true := by
  have G := valid_good hv
  have hl : l.length ≤ 64 := by simp only [valid, Bool.and_eq_true, decide_eq_true_eq] at hv; exact hv.1
  intro m
  induction m with
  | zero => intro j h _ _ _ hm; omega
  | succ m ih =>
    intro j h e o hj hm
    rw [l3_64_s]
    unfold b3_64
    have O1 := O0.ext e
    have V := O1.o.v
    rw [fadrA_ptr, optB_some, Nat.zero_add, V.load, partA_false, nth_succ, nth_zero, optB_some, O1.n.len, O1.nm.length, optB_some, lt_12]
    by_cases hc : j < ns.length ∧ j < 12
    · obtain ⟨w, hw⟩ : ∃ w, ns[j]? = some w := ⟨_, List.getElem?_eq_getElem hc.1⟩
      obtain ⟨i1, g1, j1, q1⟩ := O1.at hw
      obtain ⟨q1a, q1b⟩ := q1 h (Ext.refl h)
      have hag : partA true 0 3 [lv, nv, fv] = some (.agg [lv, nv, fv]) := rfl
      rw [condB_t (by simp [hc])]
      unfold p3_71
      rw [V.load, hag, optB_some, fadrA_ptr, optB_some, Nat.zero_add, V.load, partA_false, nth_succ, nth_zero, optB_some, q1a, optB_some, q1b, optB_some]
      refine c13 (n := n + 2) o O1.o.t hv O1.o.c O1.n O1.o.f O1.o.nm hld (by omega) (by omega) (by omega) ?_
      intro h2 e2 o2
      have O2 := O1.ext e2
      obtain ⟨r1a, r1b⟩ := q1 h2 e2
      rw [two13, O2.o.v.load, hag, optB_some, O2.o.v.load, partA_false, nth_succ, nth_zero, optB_some, r1a, optB_some, r1b, optB_some]
      refine c13 (n := n + 2) o2 O2.o.t hv O2.o.c O2.n O2.o.f O2.o.nm hld (by omega) (by omega) (by omega) ?_
      intro h3 e3 o3
      rw [notA_bool, Bool.not_true, optB_some, condB_false]
      unfold p3_81
      have E3 := e.trans (e2.trans e3)
      refine l384 (O0.ext E3) G.asc hl hn hL hw ?_ (n + 7) 0 h3 (Ext.refl _) o3 (Nat.zero_le _) (by omega)
      intro h4 e4 o4
      unfold p3_101
      rw [inc64 (by unfold lim; omega), optB_some]
      exact ih (j + 1) h4 (E3.trans e4) o4 hc.1 (by omega)
    · rw [condB_f (by simp; omega)]
      unfold p3_102
      refine c9 o hn (by omega) ?_
      intro h' e' o'
      exact k h' (e.trans e') o'

theorem c3 {n : Nat} {h : AHeap} {lv nv fv : AV} {l : List Cls} {ns fs : List Str} {en ef : List (List AV)} {K : Kont} (ho : h.Ok) (C : CV h lv l) (Vn : View h 1 nv en) (Nn : Named en ns) (Vf : View h 1 fv ef) (Nf : Named ef fs) (R : Room n l) (hR : n + 20 < lim) (hld : load l < lim) (hll : l.length < n) (hfs : fs.length < n)
    (k : ∀ h', Ext h h' → h'.Ok → K (.bool true) h' = true) : callN E (n + 8) (.func 3) [.agg [lv, nv, fv]] h K = true := by
  have hbig := R.big
  have htop := R.top
  have llv : lv.leaf = true := by obtain ⟨es, V, _⟩ := C; exact V.leaf
  obtain ⟨lf1, lf2⟩ := leafAgg llv Vn.leaf Vf.leaf
  apply d3
  unfold s3
  rw [box_eq (n := 3) (v := .agg [lv, nv, fv]) (by rw [lf1]; rfl) (by decide) (by rw [lf1]; exact lf2), optP_some, lf1]
  have e1 := ext_newRow ho [[lv, nv, fv]] 3
  have o1 := ok_newRow ho [[lv, nv, fv]] 3
  have V1 := var_new h [lv, nv, fv]
  simp only [List.length_cons, List.length_nil, Nat.zero_add] at V1
  generalize Ab.newRow h [[lv, nv, fv]] 3 = h1 at *
  generalize h.sz = p at *
  rw [fadrA_ptr, optB_some, Nat.zero_add, V1.load, partA_false, nth_zero, optB_some]
  have C1 := C.ext e1
  refine c8 C1 hld (by omega) (by omega) ?_
  have wk : ∀ h', Ext h1 h' → h'.Ok → callN E (n + 7) (.func 9) [] h' (fun v h => K v h) = true := fun h' e o => c9 o R.big R.top fun h'' e' o' => k h'' (e1.trans (e.trans e')) o'
  rw [notA_bool, optB_some]
  cases hlt : light l with
  | false =>
    rw [Bool.not_false, condB_true]
    exact wk h1 (Ext.refl h1) o1
  | true =>
    have hld2 : load l ≤ 1500 := by simpa [light] using hlt
    rw [Bool.not_true, condB_false]
    unfold p3_10
    rw [fadrA_ptr, optB_some, Nat.zero_add, V1.load, partA_false, nth_zero, optB_some]
    refine c10 (n := n + 6) o1 C1 (by omega) (by omega) ?_
    intro h2 v es e2 o2 Ow Al
    have Cc : CV h2 v l := ⟨es, Ow.view, Al.mono (by rintro e' c' ⟨w, r1, r2⟩; exact ⟨w, r1, r2.view⟩)⟩
    have hes : es.length = l.length := Al.length
    -- from New on
    have go : ∀ hT t x5, Ext h2 hT → hT.Ok → (∀ h', WI h1 hT h2.sz h' → p3_44 (callN E (n + 7)) (n + 7) (.ptr p 0 0 0) t (.int .i64 x5) h' K = true) → l3_18 (callN E (n + 7)) (n + 7) (n + 7) (.ptr p 0 0 0) v t (.int .i64 x5) (.int .i64 0) hT K = true := by
      intro hT t x5 eT oT kk
      refine l18w (T := h2.sz) (M := 1500) o1 (by omega) (by omega) kk (n + 7) 0 hT es ⟨e2.trans eT, oT, fun _ _ _ hj => hj⟩ ⟨Ow.ext eT, Ow.below o2, ?_⟩ (by omega) (Nat.zero_le _) (by omega)
      intro e' he'
      obtain ⟨i, hi⟩ := List.getElem?_of_mem he'
      obtain ⟨c, hc, w, r1, r2⟩ := Al.get' hi
      exact ⟨c.name, c.super, w, c.fields, r1, r2.ext eT, r2.below o2, by have := load_at hc; omega⟩
    have may : ∀ h', Ext h1 h' → h'.Ok → ∀ (K' : Kont), (∀ h'', Ext h' h'' → h''.Ok → K' (.bool (valid l)) h'' = true) → callN E (n + 7) (.func 12) [lv] h' K' = true := by
      intro h' e' o' K' kk
      refine c12 (n := n + 3) o' (C1.ext e') (by omega) hld (by omega) (by omega) (fun c hc => ⟨Nat.le_trans (R.name c hc).1 (by omega), fun f hf => Nat.le_trans ((R.name c hc).2 f hf) (by omega)⟩) ?_
      intro h'' e'' o''
      rw [may_valid]
      exact kk h'' e'' o''
    have R1 : Room (n + 1) l := ⟨by omega, by omega, fun c hc => ⟨Nat.le_succ_of_le (R.name c hc).1, fun f hf => Nat.le_succ_of_le ((R.name c hc).2 f hf)⟩⟩
    refine c11o o2 Cc R1 ?_ ?_
    · intro hvb hT eT oT
      rw [ext01]
      refine go hT .nilPtr 10 eT oT ?_
      intro h4 W
      unfold p3_44
      rw [fadrA_ptr, optB_some, Nat.zero_add, (V1.ext W.ext).load, partA_false, nth_zero, optB_some]
      refine may h4 W.ext W.ok _ ?_
      intro h5 e5 o5
      rw [hvb, notA_bool, Bool.not_false, optB_some, condB_true, exb]
      exact wk h5 (W.ext.trans e5) o5
    · intro hv G hT t eT oT T
      rw [ext01]
      refine go hT t 0 eT oT ?_
      intro h4 W
      have T4 := T.keep W.keep
      unfold p3_44
      rw [fadrA_ptr, optB_some, Nat.zero_add, (V1.ext W.ext).load, partA_false, nth_zero, optB_some]
      refine may h4 W.ext W.ok _ ?_
      intro h5 e5 o5
      rw [hv, notA_bool, Bool.not_true, optB_some, condB_false]
      unfold p3_52
      obtain ⟨id, rest⟩ := id T4.rep
      obtain ⟨lv', mid, rfl, _⟩ := rest
      rw [exo, condB_false]
      unfold p3_60
      have E5 := W.ext.trans e5
      refine l364 (h0 := h5) ⟨⟨T4.rep.ext e5, C1.ext E5, V1.ext E5, Vf.ext (e1.trans E5), Nf⟩, Vn.ext (e1.trans E5), Nn⟩ hv (by omega) hbig hR hfs ?_ (n + 7) 0 h5 (Ext.refl _) o5 (Nat.zero_le _) (by omega)
      intro h6 e6 o6
      exact k h6 (e1.trans (E5.trans e6)) o6
end Go.Proofs.Ytjdpdjmmbajglaa
