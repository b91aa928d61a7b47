/-
  The law of what fits, walked.
-/
import Derived.Test.YtjdpdjmmbajglaaVF
namespace Go.Proofs.Ytjdpdjmmbajglaa
open Go.Ab
set_option linter.unusedSimpArgs false
set_option linter.unusedVariables false

theorem smw {v : AV} (h : AV.same v v = true) (r : Bool) : sameB (some v) v r = r := by simp [sameB, h]
theorem view_same {h : AHeap} {n : Nat} {v : AV} {es : List (List AV)} (V : View h n v es) : AV.same v v = true := by
  rcases V with ⟨_, rfl | rfl⟩ | ⟨id, g, s, cap, ex, w, rfl, _⟩
  · rfl
  · rfl
  · simp [AV.same]
theorem fld_same (f : Fld) : AV.same (.agg (encF f)) (.agg (encF f)) = true := by
  simp [encF, AV.same, sames, leqb_dec, ieqb_dec, kidx]
theorem val_same {h : AHeap} {a : List AV} {v : Val} (R : RV h a v) : AV.same (.agg a) (.agg a) = true := by
  cases v with
  | mk kind b x t l =>
    obtain ⟨lv, rfl, ⟨es, V, _⟩, _⟩ := R.cells
    have := view_same V
    simp [AV.same, sames, leqb_dec, ieqb_dec, kidx, this]

theorem g2 {call : CallFn} {h : AHeap} {x3 x6 x7 : AV} {p : Nat} {k : AV → AHeap → Bool} :
    (optB (grdO (wantV (.bool false) false) (some x3)) fun v65 => optB (grdO (wantV (.bool false) false) (some (.ptr p 0 0 1))) fun v66 => optB (grdO (wantV (.bool false) false) (loadA h false 1 v66)) fun v67 => optB (grdO (wantV (.bool false) false) (some x6)) fun v68 => optB (grdO (wantV (.bool false) false) (iadrA h 3 v67 v68)) fun v69 => optB (grdO (wantV (.bool false) false) (loadA h true 3 v69)) fun v70 => optB (grdO (wantV (.bool false) false) (some (.ptr p 0 0 2))) fun v71 => optB (grdO (wantV (.bool false) false) (loadA h false 1 v71)) fun v72 => optB (grdO (wantV (.bool false) false) (some x7)) fun v73 => optB (grdO (wantV (.bool false) false) (iadrA h 5 v72 v73)) fun v74 => optB (grdO (wantV (.bool false) false) (loadA h true 5 v74)) fun v75 => optB (grdO (wantV (.bool false) false) (some (.ptr p 0 0 0))) fun v76 => optB (grdO (wantV (.bool false) false) (loadA h false 1 v76)) fun v77 => optB (grdO (wantV (.bool false) false) (some (.ptr p 0 0 1))) fun v78 => optB (grdO (wantV (.bool false) false) (loadA h false 1 v78)) fun v79 => optB (grdO (wantV (.bool false) false) (some x6)) fun v80 => optB (grdO (wantV (.bool false) false) (iadrA h 3 v79 v80)) fun v81 => optB (grdO (wantV (.bool false) false) (loadA h true 3 v81)) fun v82 => optB (grdO (wantV (.bool false) false) (some (.ptr p 0 0 2))) fun v83 => optB (grdO (wantV (.bool false) false) (loadA h false 1 v83)) fun v84 => optB (grdO (wantV (.bool false) false) (some x7)) fun v85 => optB (grdO (wantV (.bool false) false) (iadrA h 5 v84 v85)) fun v86 => optB (grdO (wantV (.bool false) false) (loadA h true 5 v86)) fun v87 => grdC (wantV (.bool false) false) (fun k => call (.func 27) [v65, v70, v75, (.nilFn)] h k) h fun v88 h => sameG (wantV (.bool false) false) (loadA h false 1 v76) v77 <| sameG (wantV (.bool false) false) (loadA h false 1 v78) v79 <| sameG (wantV (.bool false) false) (iadrA h 3 v79 v80) v81 <| sameG (wantV (.bool false) false) (loadA h true 3 v81) v82 <| sameG (wantV (.bool false) false) (loadA h false 1 v83) v84 <| sameG (wantV (.bool false) false) (iadrA h 5 v84 v85) v86 <| sameG (wantV (.bool false) false) (loadA h true 5 v86) v87 <| grdC (wantV (.bool false) false) (fun k => call (.func 28) [v77, v82, v87, (.nilSlc)] h k) h fun v89 h => optB (grdO (wantV (.bool false) false) (eqV h true (.bool) v88 v89)) fun v90 => optB (pickV (.bool false) (.bool true) v90) fun v91 => k v91 h)
    = optB (some x3) fun v65 => optB (some (.ptr p 0 0 1)) fun v66 => optB (loadA h false 1 v66) fun v67 => optB (some x6) fun v68 => optB (iadrA h 3 v67 v68) fun v69 => optB (loadA h true 3 v69) fun v70 => optB (some (.ptr p 0 0 2)) fun v71 => optB (loadA h false 1 v71) fun v72 => optB (some x7) fun v73 => optB (iadrA h 5 v72 v73) fun v74 => optB (loadA h true 5 v74) fun v75 => optB (some (.ptr p 0 0 0)) fun v76 => optB (loadA h false 1 v76) fun v77 => optB (some (.ptr p 0 0 1)) fun v78 => optB (loadA h false 1 v78) fun v79 => optB (some x6) fun v80 => optB (iadrA h 3 v79 v80) fun v81 => optB (loadA h true 3 v81) fun v82 => optB (some (.ptr p 0 0 2)) fun v83 => optB (loadA h false 1 v83) fun v84 => optB (some x7) fun v85 => optB (iadrA h 5 v84 v85) fun v86 => optB (loadA h true 5 v86) fun v87 => call (.func 27) [v65, v70, v75, (.nilFn)] h fun v88 h => sameB (loadA h false 1 v76) v77 <| sameB (loadA h false 1 v78) v79 <| sameB (iadrA h 3 v79 v80) v81 <| sameB (loadA h true 3 v81) v82 <| sameB (loadA h false 1 v83) v84 <| sameB (iadrA h 5 v84 v85) v86 <| sameB (loadA h true 5 v86) v87 <| call (.func 28) [v77, v82, v87, (.nilSlc)] h fun v89 h => optB (eqV h true (.bool) v88 v89) fun v90 => k v90 h := by
  simp only [wantV_false, Bool.not_false, grdO_true, grdC_true, pickV_false, optB_some, sameG, cond_true]

theorem _root_.Go.Ab.View.atE {h : AHeap} {n : Nat} {v : AV} {es : List (List AV)} (V : View h n v es) {i : Nat} {e : List AV} (hi : es[i]? = some e) :
    ∃ id g j, ∀ h', Ext h h' → (∀ k, iadrA h' n v (.int k (i : Int)) = some (.ptr id g j 0)) ∧ ∀ ag off m, loadA h' ag m (.ptr id g j off) = partA ag off m e := by
  rcases V with ⟨rfl, _⟩ | ⟨id, g, s, cap, ex, r, rfl, h2, h3, h4, h5, h6⟩
  · simp at hi
  · have hlt : i < es.length := (List.getElem?_eq_some_iff.1 hi).1
    refine ⟨id, g, s + i, fun h' e' => ⟨fun k => ?_, fun ag off m => ?_⟩⟩
    · have : rowSz h' id n = true := by simp only [rowSz, e'.row h2, nbeq_true]; exact h4
      simp only [iadrA, asNat_nat, nblt_true.2 hlt, this, Bool.and_self, cond_true]
    · have hn : nth r.es (s + i) = some e := by
        rw [nth_eq]
        rw [← h5, List.getElem?_take] at hi
        simp only [hlt, if_true, List.getElem?_drop] at hi
        exact hi
      simp only [loadA, e'.row h2, nble_true.2 h3, cond_true, hn]

theorem lt_10 {n : Int} {i : Nat} {k : AV → Bool} : (optB (binA .lss (.int .i64 (i : Int)) (.int .i64 n)) fun v68 => optB (grdO (wantV v68 true) (some (.int .i64 (i : Int)))) fun v69 => optB (grdO (wantV v68 true) (binA .lss v69 (.int .i64 10))) fun v70 => optB (pickV v68 v70 (.bool false)) fun v71 => k v71) = k (.bool (decide ((i : Int) < n) && decide (i < 10))) := by
  have e : decide ((i : Int) < 10) = decide (i < 10) := by congr 1; apply propext; omega
  rw [binA_lss, optB_some]
  cases hd : decide ((i : Int) < n)
  · rfl
  · simp only [wantV_true, grdO_true, optB_some, binA_lss, pickV_true, Bool.true_and, e]

structure FitE (h : AHeap) (t lv fv vv hv : AV) (p : Nat) (l : List Cls) (F : List Fld) (V : List Val) (H : List Fct) : Prop where
  t : TableRep h t l
  c : CV h lv l
  f : View h 3 fv (F.map encF)
  v : VV h vv V
  hh : FV h hv H
  var : Var h p [lv, fv, vv, hv]
theorem FitE.ext {h h' : AHeap} {t lv fv vv hv : AV} {p : Nat} {l : List Cls} {F : List Fld} {V : List Val} {H : List Fct} (O : FitE h t lv fv vv hv p l F V H) (e : Ext h h') : FitE h' t lv fv vv hv p l F V H :=
  ⟨O.t.ext e, O.c.ext e, O.f.ext e, O.v.ext e, O.hh.ext e, O.var.ext e⟩

theorem eqV_n (h : AHeap) (r : Bool) : eqV h true .bool (.bool r) (.bool r) = some (.bool false) := by
  rw [eqV_bool]; cases r <;> rfl

theorem l738 {n : Nat} {h0 : AHeap} {t lv fv vv hv : AV} {p i : Nat} {l : List Cls} {F : List Fld} {V : List Val} {H : List Fct} {f : Fld} {B : AV → AV → AV → AV → AHeap → Bool} {K : Kont} (O0 : FitE h0 t lv fv vv hv p l F V H) (A : Asc l) (hl : l.length ≤ 64) (hn : 5000 < n) (hL : n + 20 < lim) (hV : szVs V + 100 ≤ n) (hH : H.length + 100 ≤ n) (hf : F[i]? = some f)
    (k : ∀ h', Ext h0 h' → h'.Ok → p7_55 (callN E (n + 7)) (n + 7) B (.ptr p 0 0 0) t (.fn (.func 25) [] [.ptr p 0 0 0]) (.int .i64 (i : Int)) h' K = true) :
    ∀ (m j : Nat) (h : AHeap), Ext h0 h → h.Ok → j ≤ V.length → 10 - j < m →
      l7_38 (callN E (n + 7)) (n + 7) B m (.ptr p 0 0 0) t (.fn (.func 25) [] [.ptr p 0 0 0]) (.int .i64 (i : Int)) (.int .i64 (j : Int)) h K = true := by
  intro m
  induction m with
  | zero => intro j h _ _ _ hm; omega
  | succ m ih =>
    intro j h e o hj hm
    rw [l7_38_s]
    unfold b7_38
    have O1 := O0.ext e
    have ld : ∀ h', Ext h h' → loadA h' false 1 (.ptr p 0 0 0) = some lv ∧ loadA h' false 1 (.ptr p 0 0 1) = some fv ∧ loadA h' false 1 (.ptr p 0 0 2) = some vv ∧ loadA h' false 1 (.ptr p 0 0 3) = some hv := by
      intro h' e'
      have := O1.var.ext e'
      exact ⟨by rw [this.load]; rfl, by rw [this.load]; rfl, by rw [this.load]; rfl, by rw [this.load]; rfl⟩
    obtain ⟨a0, a1, a2, a3⟩ := ld h (Ext.refl h)
    rw [fadrA_ptr, optB_some, Nat.zero_add, a2, optB_some, O1.v.len, optB_some, lt_10]
    by_cases hc : j < V.length ∧ j < 10
    · have hvj := List.getElem?_eq_getElem hc.1
      have hmem := szVs_mem (List.getElem_mem hc.1)
      obtain ⟨es, W, A2⟩ := O1.v
      obtain ⟨a, ha, R⟩ := A2.get hvj
      generalize V[j] = w at *
      obtain ⟨i1, g1, j1, q1⟩ := O1.f.atE (i := i) (e := encF f) (by simp [hf])
      obtain ⟨i2, g2', j2, q2⟩ := W.atE ha
      have fl : ∀ h', Ext h h' → iadrA h' 3 fv (.int .i64 (i : Int)) = some (.ptr i1 g1 j1 0) ∧ loadA h' true 3 (.ptr i1 g1 j1 0) = some (.agg (encF f)) := by
        intro h' e'
        obtain ⟨z1, z2⟩ := q1 h' e'
        exact ⟨z1 _, by rw [z2]; rfl⟩
      have vl : ∀ h', Ext h h' → iadrA h' 5 vv (.int .i64 (j : Int)) = some (.ptr i2 g2' j2 0) ∧ loadA h' true 5 (.ptr i2 g2' j2 0) = some (.agg a) := by
        intro h' e'
        obtain ⟨z1, z2⟩ := q2 h' e'
        exact ⟨z1 _, by rw [z2]; exact R.agg.1⟩
      have slv : AV.same lv lv = true := by obtain ⟨x, X, _⟩ := O1.c; exact view_same X
      have sfv : AV.same fv fv = true := view_same O1.f
      have svv : AV.same vv vv = true := view_same W
      have shv : AV.same hv hv = true := by obtain ⟨x, X, _⟩ := O1.hh; exact view_same X
      have sf := fld_same f
      have sv := val_same R
      obtain ⟨f1, f2⟩ := fl h (Ext.refl h)
      obtain ⟨v1, v2⟩ := vl h (Ext.refl h)
      rw [condB_t (by simp [hc]), fadrA_ptr, optB_some, Nat.zero_add, a1, optB_some, f1, optB_some, f2, optB_some, optB_some, a2, optB_some, v1, optB_some, v2, optB_some, fadrA_ptr, optB_some, Nat.zero_add, a0, optB_some, optB_some, a1, optB_some, f1, optB_some, f2, optB_some, optB_some, a2, optB_some, v1, optB_some, v2, optB_some, fadrA_ptr, optB_some, Nat.zero_add, a3, optB_some]
      refine c27 (n := n + 3) O1.t A o R (.inr ⟨p, lv, fv, vv, hv, rfl, O1.var, O1.hh⟩) hl (by omega) (by omega) (by omega) (by omega) ?_
      intro h2 e2 o2
      obtain ⟨b0, b1, b2, b3⟩ := ld h2 e2
      obtain ⟨f3, f4⟩ := fl h2 e2
      obtain ⟨v3, v4⟩ := vl h2 e2
      rw [b0, smw slv, b1, smw sfv, f3, sm_ptr, f4, smw sf, b2, smw svv, v3, sm_ptr, v4, smw sv, b3, smw shv]
      refine c28 (n := n + 3) (O1.c.ext e2) A o2 (RV.ext e2 R) (O1.hh.ext e2) hl (by omega) (by omega) (by omega) (by omega) ?_
      intro h3 e3 o3
      have E3 := e2.trans e3
      obtain ⟨d0, d1, d2, d3⟩ := ld h3 E3
      obtain ⟨f5, f6⟩ := fl h3 E3
      obtain ⟨v5, v6⟩ := vl h3 E3
      rw [eqV_n, optB_some, g2, optB_some, optB_some, d1, optB_some, optB_some, f5, optB_some, f6, optB_some, optB_some, d2, optB_some, optB_some, v5, optB_some, v6, optB_some, optB_some, d0, optB_some, optB_some, d1, optB_some, optB_some, f5, optB_some, f6, optB_some, optB_some, d2, optB_some, optB_some, v5, optB_some, v6, optB_some]
      refine c27 (n := n + 3) (facts := []) (O1.t.ext E3) A o3 (RV.ext E3 R) (.inl ⟨rfl, rfl⟩) hl (by omega) (by omega) (by omega) (by simp; omega) ?_
      intro h4 e4 o4
      have E4 := E3.trans e4
      obtain ⟨b0, b1, b2, b3⟩ := ld h4 E4
      obtain ⟨f3, f4⟩ := fl h4 E4
      obtain ⟨v3, v4⟩ := vl h4 E4
      rw [b0, smw slv, b1, smw sfv, f3, sm_ptr, f4, smw sf, b2, smw svv, v3, sm_ptr, v4, smw sv]
      refine c28 (n := n + 3) (facts := []) (O1.c.ext E4) A o4 (RV.ext E4 R) (FV.nil _) hl (by omega) (by omega) (by omega) (by simp; omega) ?_
      intro h5 e5 o5
      rw [eqV_n, optB_some, condB_false, inc64 (by unfold lim; omega), optB_some]
      exact ih (j + 1) h5 (e.trans (E4.trans e5)) o5 hc.1 (by omega)
    · rw [condB_f (by simp; omega)]
      exact k h e o

theorem l726 {n : Nat} {h0 : AHeap} {t lv fv vv hv : AV} {p : Nat} {l : List Cls} {F : List Fld} {V : List Val} {H : List Fct} {K : Kont} (O0 : FitE h0 t lv fv vv hv p l F V H) (A : Asc l) (hl : l.length ≤ 64) (hn : 5000 < n) (hL : n + 20 < lim) (hV : szVs V + 100 ≤ n) (hH : H.length + 100 ≤ n)
    (k : ∀ h', Ext h0 h' → h'.Ok → K (.bool true) h' = true) :
    ∀ (m j : Nat) (h : AHeap), Ext h0 h → h.Ok → j ≤ F.length → 10 - j < m →
      l7_26 (callN E (n + 7)) (n + 7) m (.ptr p 0 0 0) t (.fn (.func 25) [] [.ptr p 0 0 0]) (.int .i64 (j : Int)) h K = true := by
  intro m
  induction m with
  | zero => intro j h _ _ _ hm; omega
  | succ m ih =>
    intro j h e o hj hm
    rw [l7_26_s]
    unfold b7_26
    have O1 := O0.ext e
    have a1 : loadA h false 1 (.ptr p 0 0 1) = some fv := by rw [O1.var.load]; rfl
    have hlen := O1.f.len
    rw [List.length_map] at hlen
    rw [fadrA_ptr, optB_some, Nat.zero_add, a1, optB_some, hlen, optB_some, lt_10]
    by_cases hc : j < F.length ∧ j < 10
    · rw [condB_t (by simp [hc])]
      unfold p7_33
      refine l738 O1 A hl hn hL hV hH (List.getElem?_eq_getElem hc.1) ?_ (n + 7) 0 h (Ext.refl _) o (Nat.zero_le _) (by omega)
      intro h2 e2 o2
      unfold p7_55
      rw [inc64 (by unfold lim; omega), optB_some]
      exact ih (j + 1) h2 (e.trans e2) o2 hc.1 (by omega)
    · rw [condB_f (by simp; omega)]
      unfold p7_56
      refine c9 o hn (by omega) ?_
      intro h' e' o'
      exact k h' (e.trans e') o'

theorem or_size {call : CallFn} {h : AHeap} {p : Nat} {vv : AV} {b : Bool} {k : AV → AHeap → Bool} (l2 : loadA h false 1 (.ptr p 0 0 2) = some vv) (h0 : b = true → k (.bool true) h = true) (h1 : b = false → call (.func 24) [vv] h (fun v h => optB (binA .gtr v (.int .i64 1000)) fun w => k w h) = true) :
    (optB (grdO (wantV (.bool b) false) (fadrA 2 (.ptr p 0 0 0))) fun v6 => optB (grdO (wantV (.bool b) false) (loadA h false 1 v6)) fun v7 => grdC (wantV (.bool b) false) (fun k => call (.func 24) [v7] h k) h fun v8 h => optB (grdO (wantV (.bool b) false) (binA .gtr v8 (.int .i64 1000))) fun v9 => optB (pickV (.bool b) (.bool true) v9) fun v10 => k v10 h) = true := by
  cases b with
  | true => exact h0 rfl
  | false =>
    have := h1 rfl
    simp only [wantV_false, Bool.not_false, grdO_true, optB_some, fadrA_ptr, Nat.zero_add, l2, grdC_true, pickV_false]
    exact this
theorem or_len {h : AHeap} {p : Nat} {hv : AV} {b : Bool} {len : Nat} {k : AV → Bool} (l3 : loadA h false 1 (.ptr p 0 0 3) = some hv) (L : lenA h 1 hv = some (.int .i64 (len : Int))) (hk : ∀ c, (c = false → b = false) → k (.bool c) = true) :
    (optB (grdO (wantV (.bool b) false) (fadrA 3 (.ptr p 0 0 0))) fun v11 => optB (grdO (wantV (.bool b) false) (loadA h false 1 v11)) fun v12 => optB (grdO (wantV (.bool b) false) (lenA h 1 v12)) fun v13 => optB (grdO (wantV (.bool b) false) (binA .gtr v13 (.int .i64 50))) fun v14 => optB (pickV (.bool b) (.bool true) v14) fun v15 => k v15) = true := by
  cases b with
  | true => exact hk true (fun h => by cases h)
  | false =>
    simp only [wantV_false, Bool.not_false, grdO_true, optB_some, fadrA_ptr, Nat.zero_add, l3, L, binA_gtr, pickV_false]
    exact hk _ (fun _ => rfl)

theorem leaf4 {a b c d : AV} (ha : a.leaf = true) (hb : b.leaf = true) (hc : c.leaf = true) (hd : d.leaf = true) : (AV.agg [a, b, c, d]).cells = [a, b, c, d] ∧ allLeaf [a, b, c, d] = true := by
  refine ⟨rfl, ?_⟩
  show (bif a.leaf then (bif b.leaf then (bif c.leaf then (bif d.leaf then true else false) else false) else false) else false) = true
  rw [ha, hb, hc, hd]; rfl

theorem c7 {n : Nat} {h : AHeap} {lv fv vv hv : AV} {l : List Cls} {F : List Fld} {V : List Val} {H : List Fct} {K : Kont} (ho : h.Ok) (C : CV h lv l) (Fw : View h 3 fv (F.map encF)) (Vw : VV h vv V) (Hw : FV h hv H) (R : Room n l) (hR : n + 20 < lim) (hld : load l < lim) (hll : l.length < n) (hV : szVs V + 110 ≤ n) (hH : H.length + 100 ≤ n)
    (k : ∀ h', Ext h h' → h'.Ok → K (.bool true) h' = true) : callN E (n + 8) (.func 7) [.agg [lv, fv, vv, hv]] h K = true := by
  have hbig := R.big
  have htop := R.top
  have llv : lv.leaf = true := by obtain ⟨es, V, _⟩ := C; exact V.leaf
  obtain ⟨lf1, lf2⟩ := leaf4 llv Fw.leaf Vw.leaf Hw.leaf
  apply d7
  unfold s7
  rw [box_eq (n := 4) (v := .agg [lv, fv, vv, hv]) (by rw [lf1]; rfl) (by decide) (by rw [lf1]; exact lf2), optP_some, lf1]
  have e1 := ext_newRow ho [[lv, fv, vv, hv]] 4
  have o1 := ok_newRow ho [[lv, fv, vv, hv]] 4
  have V1 := var_new h [lv, fv, vv, hv]
  simp only [List.length_cons, List.length_nil, Nat.zero_add] at V1
  generalize Ab.newRow h [[lv, fv, vv, hv]] 4 = h1 at *
  generalize h.sz = p at *
  have C1 := C.ext e1
  have a0 : loadA h1 false 1 (.ptr p 0 0 0) = some lv := by rw [V1.load]; rfl
  have a2 : loadA h1 false 1 (.ptr p 0 0 2) = some vv := by rw [V1.load]; rfl
  have a3 : loadA h1 false 1 (.ptr p 0 0 3) = some hv := by rw [V1.load]; rfl
  rw [fadrA_ptr, optB_some, Nat.zero_add, a0, optB_some]
  refine c8 C1 hld (by omega) (by omega) ?_
  have wk : ∀ h', Ext h1 h' → h'.Ok → callN E (n + 7) (.func 9) [] h' (fun v h => K v h) = true := fun h' e o => c9 o R.big R.top fun h'' e' o' => k h'' (e1.trans (e.trans e')) o'
  rw [notA_bool, optB_some]
  have rest : ∀ b : Bool, (optB (grdO (wantV (.bool b) false) (fadrA 3 (.ptr p 0 0 0))) fun v11 => optB (grdO (wantV (.bool b) false) (loadA h1 false 1 v11)) fun v12 => optB (grdO (wantV (.bool b) false) (lenA h1 1 v12)) fun v13 => optB (grdO (wantV (.bool b) false) (binA .gtr v13 (.int .i64 50))) fun v14 => optB (pickV (.bool b) (.bool true) v14) fun v15 => condB v15 (callN E (n + 7) (.func 9) [] h1 fun v16 h => K v16 h) (p7_10 (callN E (n + 7)) (n + 7) (.ptr p 0 0 0) h1 K)) = true := by
    intro b
    refine or_len (len := H.length) a3 (Hw.ext e1).len ?_
    intro c _
    cases c with
    | true =>
      show condB (.bool true) _ _ = true
      rw [condB_true]
      exact wk h1 (Ext.refl h1) o1
    | false =>
      show condB (.bool false) _ _ = true
      rw [condB_false]
      unfold p7_10
      rw [fadrA_ptr, optB_some, Nat.zero_add, a0, optB_some]
      have R1 : Room (n + 1) l := ⟨by omega, by omega, fun c hc => ⟨Nat.le_succ_of_le (R.name c hc).1, fun f hf => Nat.le_succ_of_le ((R.name c hc).2 f hf)⟩⟩
      refine c11 o1 C1 R1 ?_ ?_
      · intro _ h2 e2 o2
        rw [ext01, new_bad, condB_true]
        exact wk h2 e2 o2
      · intro hv' G h2 t e2 o2 T
        have hl : l.length ≤ 64 := by
          simp only [valid, Bool.and_eq_true, decide_eq_true_eq] at hv'
          exact hv'.1
        obtain ⟨id, lv', mid, rfl, _⟩ := id T
        rw [ext01, new_ok, condB_false]
        unfold p7_20
        rw [optB_some]
        have E2 := e1.trans e2
        refine l726 (h0 := h2) ⟨T, C.ext E2, Fw.ext E2, Vw.ext E2, Hw.ext E2, V1.ext e2⟩ G.asc hl hbig hR (by omega) hH ?_ (n + 7) 0 h2 (Ext.refl _) o2 (Nat.zero_le _) (by omega)
        intro h3 e3 o3
        exact k h3 (E2.trans e3) o3
  refine or_size (k := fun v10 h1 => optB (grdO (wantV v10 false) (fadrA 3 (.ptr p 0 0 0))) fun v11 => optB (grdO (wantV v10 false) (loadA h1 false 1 v11)) fun v12 => optB (grdO (wantV v10 false) (lenA h1 1 v12)) fun v13 => optB (grdO (wantV v10 false) (binA .gtr v13 (.int .i64 50))) fun v14 => optB (pickV v10 (.bool true) v14) fun v15 => condB v15 (callN E (n + 7) (.func 9) [] h1 fun v16 h => K v16 h) (p7_10 (callN E (n + 7)) (n + 7) (.ptr p 0 0 0) h1 K)) a2 ?_ ?_
  · intro _
    exact rest true
  · intro _
    refine c24 (n := n + 5) (Vw.ext e1) (by omega) (by omega) ?_
    intro x
    rw [binA_gtr, optB_some]
    exact rest _
end Go.Proofs.Ytjdpdjmmbajglaa
