/-
  Whether a value fits a field, walked.
-/
import Derived.Test.YtjdpdjmmbajglaaVE
namespace Go.Proofs.Ytjdpdjmmbajglaa
open Go.Ab
set_option linter.unusedSimpArgs false
set_option linter.unusedVariables false

theorem c27 {n : Nat} {h : AHeap} {t of : AV} {l : List Cls} {f : Fld} {a : List AV} {v : Val} {facts : List Fct} {K : Kont} (T : TableRep h t l) (A : Asc l) (ho : h.Ok) (R : RV h a v) (O : OfRep h of facts) (hl : l.length ≤ 64) (hn : 5000 < n) (hL : n + 10 < lim) (hv : szV v + 100 ≤ n) (hf : facts.length + 100 ≤ n)
    (k : ∀ h', Ext h h' → h'.Ok → K (.bool (fitV l f v facts)) h' = true) : callN E (n + 4) (.func 27) [t, .agg (encF f), .agg a, of] h K = true := by
  obtain ⟨g1, g2, g3, g4⟩ := R.agg
  have hel : a.length = 5 := by rw [← g4]; exact g2
  apply d27
  unfold s27
  rw [box_eq (n := 3) (v := .agg (encF f)) rfl (by decide) rfl, optP_some]
  have hcc : (AV.agg (encF f)).cells = encF f := rfl
  rw [hcc]
  have e1 := ext_newRow ho [encF f] 3
  have o1 := ok_newRow ho [encF f] 3
  have V1 : Var (Ab.newRow h [encF f] 3) h.sz (encF f) := var_new h (encF f)
  generalize Ab.newRow h [encF f] 3 = h1 at *
  generalize h.sz = p at *
  rw [box_eq (n := 5) g2 (by decide) g3, optP_some, g4]
  have e2 := ext_newRow o1 [a] 5
  have o2 := ok_newRow o1 [a] 5
  have Q2 := var_new h1 a
  rw [hel] at Q2
  have V2 := V1.ext e2
  generalize Ab.newRow h1 [a] 5 = h2 at *
  generalize h1.sz = q at *
  have E2 := e1.trans e2
  rw [Q2.load, g1, optB_some]
  refine c41 (n := n + 1) (RV.ext E2 R) o2 (by omega) (by omega) ?_
  intro h3 e3 o3
  have E3 := E2.trans e3
  have V3 := V2.ext e3
  have Q3 := Q2.ext e3
  have hk := k h3 E3 o3
  cases v with
  | mk kind b x s vl =>
    obtain ⟨lv, rfl, VL, _⟩ := R.cells
    have q0 : loadA h3 false 1 (.ptr q 0 0 0) = some (.int .i64 kind) := by rw [Q3.load]; rfl
    have q2 : loadA h3 false 1 (.ptr q 0 0 2) = some (.int .i64 x) := by rw [Q3.load]; rfl
    have v1 : loadA h3 false 1 (.ptr p 0 0 1) = some (.int .i64 f.ty) := by rw [V3.load]; rfl
    have v2 : ∀ h', Ext h3 h' → loadA h' false 1 (.ptr p 0 0 2) = some (.str f.cls) := fun h' e => by rw [(V3.ext e).load]; rfl
    rw [notA_bool, optB_some]
    unfold fitV at hk
    cases hck : ckV 30 (.mk kind b x s vl) with
    | false =>
      rw [hck, Bool.false_and] at hk
      rw [Bool.not_false, condB_true]; exact hk
    | true =>
      rw [hck, Bool.true_and] at hk
      simp only at hk
      rw [Bool.not_true, condB_false, fadrA_ptr, optB_some, Nat.zero_add, q0, optB_some, binA_eql, optB_some]
      by_cases k0 : kind = 0
      · rw [if_pos k0] at hk
        rw [condB_t (by simp [k0])]; exact hk
      rw [if_neg k0] at hk
      rw [condB_f (by simp [k0]), fadrA_ptr, optB_some, Nat.zero_add, v1, optB_some, binA_eql, optB_some]
      by_cases t0 : f.ty = 0
      · rw [if_pos t0] at hk
        rw [condB_t (by simp [t0])]; exact hk
      rw [if_neg t0] at hk
      rw [condB_f (by simp [t0]), binA_eql, optB_some]
      by_cases t1 : f.ty = 1
      · rw [if_pos t1] at hk
        rw [condB_t (by simp [t1]), optB_some, q0, optB_some, binA_eql, optB_some]; exact hk
      rw [if_neg t1] at hk
      rw [condB_f (by simp [t1]), binA_eql, optB_some]
      by_cases t2 : f.ty = 2
      · rw [if_pos t2] at hk
        rw [condB_t (by simp [t2]), optB_some, q0, optB_some, binA_eql, optB_some]; exact hk
      rw [if_neg t2] at hk
      rw [condB_f (by simp [t2]), binA_eql, optB_some]
      by_cases t3 : f.ty = 3
      · rw [if_pos t3] at hk
        rw [condB_t (by simp [t3]), optB_some, q0, optB_some, binA_eql, optB_some]; exact hk
      rw [if_neg t3] at hk
      rw [condB_f (by simp [t3]), binA_eql, optB_some]
      by_cases t4 : f.ty = 4
      · rw [if_pos t4] at hk
        rw [condB_t (by simp [t4]), optB_some, q0, optB_some, binA_eql, optB_some]; exact hk
      rw [if_neg t4] at hk
      rw [condB_f (by simp [t4]), binA_eql, optB_some]
      by_cases t5 : f.ty = 5
      · rw [condB_t (by simp [t5]), optB_some, q0, optB_some]
        have kk : ∀ h', Ext h3 h' → h'.Ok → K (.bool (decide (kind = 5) && match ofF x facts with
            | none => false
            | some s => isB l s f.cls)) h' = true := by
          intro h' e' o'
          have := k h' (E3.trans e') o'
          unfold fitV at this
          rw [hck, Bool.true_and] at this
          simp only at this
          rw [if_neg k0, if_neg t0, if_neg t1, if_neg t2, if_neg t3, if_neg t4, if_pos t5] at this
          exact this
        rcases O with ⟨rfl, rfl⟩ | ⟨pp, lv', fv, vv, hv', rfl, W, F⟩
        · rw [nil_chk true rfl, Bool.or_true, condB_true]
          have := kk h3 (Ext.refl _) o3
          have e : ofF x [] = none := rfl
          rw [e, Bool.and_false] at this
          exact this
        · rw [nil_chk false rfl, Bool.or_false]
          by_cases k5 : kind = 5
          · rw [decide_eq_true k5, Bool.not_true, condB_false, fadrA_ptr, optB_some, Nat.zero_add, q2, optB_some, callV_fn, List.nil_append]
            refine c25 (n := n + 1) (W.ext E3) (F.ext E3) (by omega) (by omega) ?_
            rw [extA_tup, nth_zero, optB_some, extA_tup, nth_succ, nth_zero, optB_some]
            have kk := fun h' e o => kk h' e o
            rw [decide_eq_true k5] at kk
            simp only [Bool.true_and] at kk
            refine is_chk (v2 h3 (Ext.refl _)) ?_ ?_
            · intro hno
              have := kk h3 (Ext.refl _) o3
              cases hx : ofF x facts with
              | none => rw [hx] at this; exact this
              | some w => rw [hx] at hno; cases hno
            · intro hyes
              cases hx : ofF x facts with
              | none => rw [hx] at hyes; cases hyes
              | some w =>
                rw [hx] at kk
                refine c14 (n := n + 1) (T.ext E3) A o3 (by omega) ?_
                intro h4 e4 o4
                exact kk h4 e4 o4
          · rw [decide_eq_false k5, Bool.not_false, condB_true]
            have := kk h3 (Ext.refl _) o3
            rw [decide_eq_false k5, Bool.false_and] at this
            exact this
      · rw [if_neg t5] at hk
        rw [condB_f (by simp [t5])]; exact hk

theorem ref_chk {call : CallFn} {h : AHeap} {x0 x3 : AV} {kind : Int} {i : Option Nat} {p : Nat} {u : Str} {s : Str} {id g j : Nat} {k : AV → AHeap → Bool} (hp : loadA h false 1 (.ptr p 0 0 2) = some (.str u)) (hi : ∀ q, i = some q → iadrA h 6 x3 (.int .i64 (q : Int)) = some (.ptr id g j 0) ∧ loadA h false 1 (.ptr id g j 1) = some (.str s))
    (h0 : (decide (kind = 5) && i.isSome) = false → k (.bool false) h = true) (h1 : (decide (kind = 5) && i.isSome) = true → call (.func 15) [x0, .str s, .str u] h (fun v h => k v h) = true) :
    (optB (binA .eql (.int .i64 kind) (.int .i64 5)) fun v34 => optB (grdO (wantV v34 true) (some (.int .i64 (fint i)))) fun v35 => optB (grdO (wantV v34 true) (binA .geq v35 (.int .i64 0))) fun v36 => optB (pickV v34 v36 (.bool false)) fun v37 => optB (grdO (wantV v37 true) (some x0)) fun v38 => optB (grdO (wantV v37 true) (some x3)) fun v39 => optB (grdO (wantV v37 true) (some (.int .i64 (fint i)))) fun v40 => optB (grdO (wantV v37 true) (iadrA h 6 v39 v40)) fun v41 => optB (grdO (wantV v37 true) (fadrA 1 v41)) fun v42 => optB (grdO (wantV v37 true) (loadA h false 1 v42)) fun v43 => optB (grdO (wantV v37 true) (fadrA 2 (.ptr p 0 0 0))) fun v44 => optB (grdO (wantV v37 true) (loadA h false 1 v44)) fun v45 => grdC (wantV v37 true) (fun k => call (.func 15) [v38, v43, v45] h k) h fun v46 h => optB (pickV v37 v46 (.bool false)) fun v47 => k v47 h) = true := by
  rw [binA_eql, optB_some]
  cases hd : decide (kind = 5) with
  | false =>
    rw [hd, Bool.false_and] at h0
    exact h0 rfl
  | true =>
    rw [hd, Bool.true_and] at h0 h1
    rw [wantV_true, grdO_true, optB_some, grdO_true, binA_geq, optB_some, pickV_true, optB_some]
    cases i with
    | none => exact h0 rfl
    | some q =>
      obtain ⟨i1, i2⟩ := hi q rfl
      have hfi : fint (some q) = (q : Int) := rfl
      have := h1 rfl
      rw [hfi, decide_eq_true (show (0 : Int) ≤ (q : Int) by omega)]
      simp only [wantV_true, grdO_true, optB_some, i1, fadrA_ptr, Nat.zero_add, i2, hp, grdC_true, pickV_true]
      exact this

theorem c28 {n : Nat} {h : AHeap} {lw fw : AV} {l : List Cls} {f : Fld} {a : List AV} {v : Val} {facts : List Fct} {K : Kont} (C : CV h lw l) (A : Asc l) (ho : h.Ok) (R : RV h a v) (F : FV h fw facts) (hl : l.length ≤ 64) (hn : 5000 < n) (hL : n + 10 < lim) (hv : szV v + 100 ≤ n) (hf : facts.length + 100 ≤ n)
    (k : ∀ h', Ext h h' → h'.Ok → K (.bool (fitV l f v facts)) h' = true) : callN E (n + 4) (.func 28) [lw, .agg (encF f), .agg a, fw] h K = true := by
  obtain ⟨g1, g2, g3, g4⟩ := R.agg
  have hel : a.length = 5 := by rw [← g4]; exact g2
  apply d28
  unfold s28
  rw [box_eq (n := 3) (v := .agg (encF f)) rfl (by decide) rfl, optP_some]
  have hcc : (AV.agg (encF f)).cells = encF f := rfl
  rw [hcc]
  have e1 := ext_newRow ho [encF f] 3
  have o1 := ok_newRow ho [encF f] 3
  have V1 : Var (Ab.newRow h [encF f] 3) h.sz (encF f) := var_new h (encF f)
  generalize Ab.newRow h [encF f] 3 = h1 at *
  generalize h.sz = p at *
  rw [box_eq (n := 5) g2 (by decide) g3, optP_some, g4]
  have e2 := ext_newRow o1 [a] 5
  have o2 := ok_newRow o1 [a] 5
  have Q2 := var_new h1 a
  rw [hel] at Q2
  have V2 := V1.ext e2
  generalize Ab.newRow h1 [a] 5 = h2 at *
  generalize h1.sz = q at *
  have E2 := e1.trans e2
  rw [Q2.load, g1, optB_some]
  refine c42 (n := n + 1) (RV.ext E2 R) o2 (by omega) (by omega) ?_
  intro h3 e3 o3
  have E3 := E2.trans e3
  have V3 := V2.ext e3
  have Q3 := Q2.ext e3
  have hk := k h3 E3 o3
  cases v with
  | mk kind b x s vl =>
    obtain ⟨lv, rfl, VL, _⟩ := R.cells
    have q0 : loadA h3 false 1 (.ptr q 0 0 0) = some (.int .i64 kind) := by rw [Q3.load]; rfl
    have q2 : loadA h3 false 1 (.ptr q 0 0 2) = some (.int .i64 x) := by rw [Q3.load]; rfl
    have v1 : loadA h3 false 1 (.ptr p 0 0 1) = some (.int .i64 f.ty) := by rw [V3.load]; rfl
    have v2 : loadA h3 false 1 (.ptr p 0 0 2) = some (.str f.cls) := by rw [V3.load]; rfl
    rw [notA_bool, optB_some]
    unfold fitV at hk
    cases hck : ckV 30 (.mk kind b x s vl) with
    | false =>
      rw [hck, Bool.false_and] at hk
      rw [Bool.not_false, condB_true]; exact hk
    | true =>
      rw [hck, Bool.true_and] at hk
      simp only at hk
      rw [Bool.not_true, condB_false, fadrA_ptr, optB_some, Nat.zero_add, q0, optB_some, binA_eql, optB_some]
      by_cases k0 : kind = 0
      · rw [if_pos k0] at hk
        rw [condB_t (by simp [k0])]; exact hk
      rw [if_neg k0] at hk
      rw [condB_f (by simp [k0]), fadrA_ptr, optB_some, Nat.zero_add, v1, optB_some, binA_eql, optB_some]
      by_cases t0 : f.ty = 0
      · rw [if_pos t0] at hk
        rw [condB_t (by simp [t0])]; exact hk
      rw [if_neg t0] at hk
      rw [condB_f (by simp [t0]), binA_eql, optB_some]
      by_cases t1 : f.ty = 1
      · rw [if_pos t1] at hk
        rw [condB_t (by simp [t1]), optB_some, q0, optB_some, binA_eql, optB_some]; exact hk
      rw [if_neg t1] at hk
      rw [condB_f (by simp [t1]), binA_eql, optB_some]
      by_cases t2 : f.ty = 2
      · rw [if_pos t2] at hk
        rw [condB_t (by simp [t2]), optB_some, q0, optB_some, binA_eql, optB_some]; exact hk
      rw [if_neg t2] at hk
      rw [condB_f (by simp [t2]), binA_eql, optB_some]
      by_cases t3 : f.ty = 3
      · rw [if_pos t3] at hk
        rw [condB_t (by simp [t3]), optB_some, q0, optB_some, binA_eql, optB_some]; exact hk
      rw [if_neg t3] at hk
      rw [condB_f (by simp [t3]), binA_eql, optB_some]
      by_cases t4 : f.ty = 4
      · rw [if_pos t4] at hk
        rw [condB_t (by simp [t4]), optB_some, q0, optB_some, binA_eql, optB_some]; exact hk
      rw [if_neg t4] at hk
      rw [condB_f (by simp [t4]), binA_eql, optB_some]
      by_cases t5 : f.ty = 5
      · rw [if_pos t5] at hk
        rw [condB_t (by simp [t5]), fadrA_ptr, optB_some, Nat.zero_add, q2, optB_some]
        refine c26 (n := n + 2) (F.ext E3) (by omega) (by omega) ?_
        rw [optB_some, q0, optB_some]
        cases hx : atF x facts with
        | none =>
          have e : ofF x facts = none := by unfold ofF; rw [hx]
          rw [e, Bool.and_false] at hk
          refine ref_chk (s := []) (id := 0) (g := 0) (j := 0) v2 (fun q hq => by cases hq) (fun _ => hk) (fun hh => by rw [Option.isSome_none, Bool.and_false] at hh; cases hh)
        | some i =>
          have hlt := atF_lt hx
          have hci := List.getElem?_eq_getElem hlt
          obtain ⟨id, g, j, p1, p2, p3⟩ := (F.ext E3).at hci
          have e : ofF x facts = some facts[i].cls := by unfold ofF; rw [hx]; simp [hci]
          rw [e] at hk
          refine ref_chk (s := facts[i].cls) (id := id) (g := g) (j := j) v2 (fun q hq => by cases hq; exact ⟨p1 _, p3⟩) ?_ ?_
          · intro hh
            rw [Option.isSome_some, Bool.and_true] at hh
            rw [hh, Bool.false_and] at hk
            exact hk
          · intro hh
            rw [Option.isSome_some, Bool.and_true] at hh
            rw [hh, Bool.true_and] at hk
            exact c15 (n := n + 1) (C.ext E3) A (by omega) (by unfold lim; omega) hk
      · rw [if_neg t5] at hk
        rw [condB_f (by simp [t5])]; exact hk
end Go.Proofs.Ytjdpdjmmbajglaa
