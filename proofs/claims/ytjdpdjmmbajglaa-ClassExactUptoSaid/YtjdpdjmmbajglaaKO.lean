/-
  The document's own answer: may a table be?
-/
import Derived.Test.YtjdpdjmmbajglaaKN
namespace Go.Proofs.Ytjdpdjmmbajglaa
open Go.Ab
set_option linter.unusedSimpArgs false
set_option linter.unusedVariables false

def fOk (all fn : List Str) (k : Nat) (f : Fld) : Bool :=
  isName f.name && decide (idx f.name fn = some k) && decide (0 ≤ f.ty) && decide (f.ty ≤ 5) && !(if f.ty = 5 then (idx f.cls all).isNone else !decide (f.cls = []))
def fGo (all fn : List Str) : Nat → List Fld → Bool
  | _, [] => true
  | k, f :: r => fOk all fn k f && fGo all fn (k + 1) r
def clsOk (l : List Cls) (i : Nat) (c : Cls) : Bool :=
  isName c.name && decide (idx c.name (names l) = some i) && (decide (c.super = []) || (idx c.super (names (l.take i))).isSome) && decide (c.fields.length ≤ 62) && (decide ((refF (l.length + 1) l c.name).length ≤ 62) && fGo (names l) (fnames (refF (l.length + 1) l c.name)) 0 (refF (l.length + 1) l c.name))
def mayGo (l : List Cls) : Nat → List Cls → Bool
  | _, [] => true
  | i, c :: r => clsOk l i c && mayGo l (i + 1) r
def mayB (l : List Cls) : Bool := decide (l.length ≤ 64) && mayGo l 0 l

theorem fork1 {call : CallFn} {h : AHeap} {x5 : AV} {i : Nat} {id g j : Nat} {s : Str} {nm : Bool} {k : AV → AHeap → Bool} (p1 : iadrA h 3 x5 (.int .i64 (i : Int)) = some (.ptr id g j 0)) (p2 : loadA h false 1 (.ptr id g j 0) = some (.str s))
    (h0 : nm = false → k (.bool true) h = true) (h1 : nm = true → call (.func 35) [x5, .str s] h (fun w h => optB (binA .neq w (.int .i64 (i : Int))) fun x => k x h) = true) :
    (optB (notA (.bool nm)) fun v49 => optB (grdO (wantV v49 false) (some x5)) fun v50 => optB (grdO (wantV v49 false) (some x5)) fun v51 => optB (grdO (wantV v49 false) (some (.int .i64 (i : Int)))) fun v52 => optB (grdO (wantV v49 false) (iadrA h 3 v51 v52)) fun v53 => optB (grdO (wantV v49 false) (fadrA 0 v53)) fun v54 => optB (grdO (wantV v49 false) (loadA h false 1 v54)) fun v55 => grdC (wantV v49 false) (fun k => call (.func 35) [v50, v55] h k) h fun v56 h => optB (grdO (wantV v49 false) (some (.int .i64 (i : Int)))) fun v57 => optB (grdO (wantV v49 false) (binA .neq v56 v57)) fun v58 => optB (pickV v49 (.bool true) v58) fun v59 => k v59 h) = true := by
  cases nm with
  | false => exact h0 rfl
  | true =>
    have := h1 rfl
    simp only [notA_bool, Bool.not_true, optB_some, wantV_false, Bool.not_false, grdO_true, p1, fadrA_ptr, Nat.zero_add, p2, grdC_true, pickV_false]
    exact this

theorem fork2 {h : AHeap} {x5 : AV} {i : Nat} {id g j : Nat} {ty : Int} {b : Bool} {k : AV → Bool} (p1 : iadrA h 3 x5 (.int .i64 (i : Int)) = some (.ptr id g j 0)) (p2 : loadA h false 1 (.ptr id g j 1) = some (.int .i64 ty)) :
    (optB (grdO (wantV (.bool b) false) (some x5)) fun v60 => optB (grdO (wantV (.bool b) false) (some (.int .i64 (i : Int)))) fun v61 => optB (grdO (wantV (.bool b) false) (iadrA h 3 v60 v61)) fun v62 => optB (grdO (wantV (.bool b) false) (fadrA 1 v62)) fun v63 => optB (grdO (wantV (.bool b) false) (loadA h false 1 v63)) fun v64 => optB (grdO (wantV (.bool b) false) (binA .lss v64 (.int .i64 0))) fun v65 => optB (pickV (.bool b) (.bool true) v65) fun v66 => optB (grdO (wantV v66 false) (some x5)) fun v67 => optB (grdO (wantV v66 false) (some (.int .i64 (i : Int)))) fun v68 => optB (grdO (wantV v66 false) (iadrA h 3 v67 v68)) fun v69 => optB (grdO (wantV v66 false) (fadrA 1 v69)) fun v70 => optB (grdO (wantV v66 false) (loadA h false 1 v70)) fun v71 => optB (grdO (wantV v66 false) (binA .gtr v71 (.int .i64 5))) fun v72 => optB (pickV v66 (.bool true) v72) fun v73 => k v73)
      = k (.bool (!(!b && decide (0 ≤ ty) && decide (ty ≤ 5)))) := by
  have t0 : decide (ty < 0) = !decide (0 ≤ ty) := by by_cases h : ty < 0 <;> simp [h] <;> omega
  have t5 : decide (5 < ty) = !decide (ty ≤ 5) := by by_cases h : 5 < ty <;> simp [h] <;> omega
  cases b
  · by_cases a0 : 0 ≤ ty
    · simp [p1, p2, t0, t5, a0]
    · simp [p1, p2, t0, t5, a0]
  · simp

theorem fork3 {call : CallFn} {h : AHeap} {x0 x5 : AV} {i : Nat} {id g j : Nat} {ty : Int} {cl : Str} {k : AV → AHeap → Bool} (p1 : iadrA h 3 x5 (.int .i64 (i : Int)) = some (.ptr id g j 0)) (p2 : loadA h false 1 (.ptr id g j 1) = some (.int .i64 ty)) (p3 : loadA h false 1 (.ptr id g j 2) = some (.str cl))
    (h0 : ty ≠ 5 → k (.bool (!decide (cl = []))) h = true) (b : Bool) (h1 : ty = 5 → ∀ R : AV → AHeap → Bool, R (.bool b) h = true → call (.func 33) [x0, .str cl] h (fun w h => optB (binA .lss w (.int .i64 0)) fun x => R x h) = true) (h2 : ty = 5 → k (.bool b) h = true) :
    (optB (binA .eql (.int .i64 ty) (.int .i64 5)) fun v77 => optB (grdO (wantV v77 true) (some x0)) fun v78 => optB (grdO (wantV v77 true) (some x5)) fun v79 => optB (grdO (wantV v77 true) (some (.int .i64 (i : Int)))) fun v80 => optB (grdO (wantV v77 true) (iadrA h 3 v79 v80)) fun v81 => optB (grdO (wantV v77 true) (fadrA 2 v81)) fun v82 => optB (grdO (wantV v77 true) (loadA h false 1 v82)) fun v83 => grdC (wantV v77 true) (fun k => call (.func 33) [v78, v83] h k) h fun v84 h => optB (grdO (wantV v77 true) (binA .lss v84 (.int .i64 0))) fun v85 => optB (pickV v77 v85 (.bool false)) fun v86 => optB (grdO (wantV v86 false) (some x5)) fun v87 => optB (grdO (wantV v86 false) (some (.int .i64 (i : Int)))) fun v88 => optB (grdO (wantV v86 false) (iadrA h 3 v87 v88)) fun v89 => optB (grdO (wantV v86 false) (fadrA 1 v89)) fun v90 => optB (grdO (wantV v86 false) (loadA h false 1 v90)) fun v91 => optB (grdO (wantV v86 false) (binA .neq v91 (.int .i64 5))) fun v92 => optB (grdO (wantV v86 false) (some v92)) fun v93 => optB (grdO (wantV v93 true) (some x5)) fun v94 => optB (grdO (wantV v93 true) (some (.int .i64 (i : Int)))) fun v95 => optB (grdO (wantV v93 true) (iadrA h 3 v94 v95)) fun v96 => optB (grdO (wantV v93 true) (fadrA 2 v96)) fun v97 => optB (grdO (wantV v93 true) (loadA h false 1 v97)) fun v98 => optB (grdO (wantV v93 true) (binA .neq v98 (.str []))) fun v99 => optB (grdO (wantV v86 false) (pickV v93 v99 (.bool false))) fun v100 => optB (pickV v86 (.bool true) v100) fun v101 => k v101 h) = true := by
  rw [binA_eql, optB_some]
  by_cases e : ty = 5
  · have h2 := h2 e
    simp only [e, decide_true, wantV_true, grdO_true, optB_some, p1, fadrA_ptr, Nat.zero_add, p3, grdC_true, pickV_true]
    refine h1 e _ ?_
    cases b with
    | true => exact h2
    | false =>
      rw [e] at p2
      simp only [wantV_false, Bool.not_false, grdO_true, optB_some, p1, fadrA_ptr, Nat.zero_add, p2, binA_neq, decide_true, Bool.not_true, wantV_true, grdO_false, pickV_false]
      exact h2
  · have h0 := h0 e
    simp only [e, decide_false, wantV_true, grdO_false, optB_some, grdC_false, pickV_false, wantV_false, Bool.not_false, grdO_true, p1, fadrA_ptr, Nat.zero_add, p2, binA_neq, p3, binA_sneq, pickV_true]
    exact h0

theorem fork4 {call : CallFn} {h : AHeap} {x0 x3 : AV} {p : Nat} {s u : Str} {g : AV} {nm : Bool} {k : AV → AHeap → Bool} (V : Var h p [.str s, .str u, g])
    (h0 : nm = false → k (.bool true) h = true) (h1 : nm = true → call (.func 33) [x0, .str s] h (fun w h => optB (binA .neq w x3) fun x => k x h) = true) :
    (optB (notA (.bool nm)) fun v12 => optB (grdO (wantV v12 false) (some x0)) fun v13 => optB (grdO (wantV v12 false) (fadrA 0 (.ptr p 0 0 0))) fun v14 => optB (grdO (wantV v12 false) (loadA h false 1 v14)) fun v15 => optB (grdO (wantV v12 false) (some x3)) fun v16 => grdC (wantV v12 false) (fun k => call (.func 33) [v13, v15] h k) h fun v17 h => optB (grdO (wantV v12 false) (binA .neq v17 v16)) fun v18 => optB (pickV v12 (.bool true) v18) fun v19 => k v19 h) = true := by
  cases nm with
  | false => exact h0 rfl
  | true =>
    have := h1 rfl
    simp only [notA_bool, Bool.not_true, optB_some, wantV_false, Bool.not_false, grdO_true, fadrA_ptr, Nat.zero_add, V.load, partA_false, nth_zero, grdC_true, pickV_false]
    exact this

theorem fork5 {call : CallFn} {h : AHeap} {x0 x3 y : AV} {p : Nat} {s u : Str} {g : AV} {b : Bool} {k : AV → AHeap → Bool} (V : Var h p [.str s, .str u, g]) (hs : sliceV h 3 x0 none (some x3) none = some y)
    (h0 : b = true → k (.bool true) h = true) (h1 : b = false → u = [] → k (.bool false) h = true) (h2 : b = false → u ≠ [] → call (.func 33) [y, .str u] h (fun v h => optB (binA .lss v (.int .i64 0)) fun w => k w h) = true) :
    (optB (grdO (wantV (.bool b) false) (fadrA 1 (.ptr p 0 0 0))) fun v20 => optB (grdO (wantV (.bool b) false) (loadA h false 1 v20)) fun v21 => optB (grdO (wantV (.bool b) false) (binA .neq v21 (.str []))) fun v22 => optB (grdO (wantV (.bool b) false) (some v22)) fun v23 => optB (grdO (wantV v23 true) (some x0)) fun v24 => optB (grdO (wantV v23 true) (some x3)) fun v25 => optB (grdO (wantV v23 true) (sliceV h 3 v24 none (some v25) none)) fun v26 => optB (grdO (wantV v23 true) (fadrA 1 (.ptr p 0 0 0))) fun v27 => optB (grdO (wantV v23 true) (loadA h false 1 v27)) fun v28 => grdC (wantV v23 true) (fun k => call (.func 33) [v26, v28] h k) h fun v29 h => optB (grdO (wantV v23 true) (binA .lss v29 (.int .i64 0))) fun v30 => optB (grdO (wantV (.bool b) false) (pickV v23 v30 (.bool false))) fun v31 => optB (pickV (.bool b) (.bool true) v31) fun v32 => k v32 h) = true := by
  cases b with
  | true => exact h0 rfl
  | false =>
    simp only [wantV_false, Bool.not_false, grdO_true, fadrA_ptr, optB_some, Nat.zero_add, V.load, partA_false, nth_zero, nth_succ, binA_sneq]
    by_cases hu : u = []
    · have := h1 rfl hu
      simp only [hu, decide_true, Bool.not_true, wantV_true, grdO_false, optB_some, grdC_false, pickV_false]
      exact this
    · have := h2 rfl hu
      simp only [hu, decide_false, Bool.not_false, wantV_true, grdO_true, optB_some, hs, fadrA_ptr, Nat.zero_add, V.load, partA_false, nth_succ, nth_zero, grdC_true, pickV_true, pickV_false]
      exact this

theorem fork6 {h : AHeap} {p m : Nat} {s u : Str} {g : AV} {b : Bool} {k : AV → Bool} (V : Var h p [.str s, .str u, g]) (hl : lenA h 1 g = some (.int .i64 (m : Int))) :
    (optB (grdO (wantV (.bool b) false) (fadrA 2 (.ptr p 0 0 0))) fun v33 => optB (grdO (wantV (.bool b) false) (loadA h false 1 v33)) fun v34 => optB (grdO (wantV (.bool b) false) (lenA h 1 v34)) fun v35 => optB (grdO (wantV (.bool b) false) (binA .gtr v35 (.int .i64 62))) fun v36 => optB (pickV (.bool b) (.bool true) v36) fun v37 => k v37) = k (.bool (b || decide (62 < m))) := by
  cases b with
  | true => rfl
  | false =>
    have e : decide ((62 : Int) < (m : Int)) = decide (62 < m) := by congr 1; apply propext; omega
    simp [V.load, hl, e]

theorem _root_.Go.Ab.View.fld {h : AHeap} {v : AV} {fs : List Fld} (V : View h 3 v (fs.map encF)) {i : Nat} (hi : i < fs.length) :
    ∃ id g j, iadrA h 3 v (.int .i64 (i : Int)) = some (.ptr id g j 0) ∧ loadA h false 1 (.ptr id g j 0) = some (.str fs[i].name) ∧ loadA h false 1 (.ptr id g j 1) = some (.int .i64 fs[i].ty) ∧ loadA h false 1 (.ptr id g j 2) = some (.str fs[i].cls) := by
  obtain ⟨id, g, j, p1, p2⟩ := V.at (i := i) (e := encF fs[i]) (by simp [hi])
  exact ⟨id, g, j, p1 _, by rw [p2]; rfl, by rw [p2]; rfl, by rw [p2]; rfl⟩

theorem flds_named (fs : List Fld) : Named (fs.map encF) (fnames fs) := by
  induction fs with
  | nil => exact .nil
  | cons f fs ih => exact .cons rfl ih

theorem lt0 (o : Option Nat) : decide (fint o < 0) = o.isNone := by
  cases o with
  | none => rfl
  | some x => exact decide_eq_false (by show ¬ ((x : Int) < 0); omega)

theorem neqi (o : Option Nat) (i : Nat) : (!decide (fint o = (i : Int))) = !decide (o = some i) := by
  cases o with
  | none => rw [decide_eq_false (by show ¬ ((-1 : Int) = (i : Int)); omega), decide_eq_false (by simp)]
  | some x =>
    have : decide (fint (some x) = (i : Int)) = decide (some x = some i) := by
      congr 1; apply propext; show ((x : Int) = (i : Int)) ↔ some x = some i; rw [Option.some.injEq]; omega
    rw [this]

theorem l12f {n : Nat} {h0 : AHeap} {x0 x3 x5 : AV} {l : List Cls} {F : List Fld} {B : AV → AV → AHeap → Bool} {K : Kont} (C : CV h0 x0 l) (V : View h0 3 x5 (F.map encF)) (hl : l.length < n) (hl2 : l.length < lim) (hF : F.length ≤ n) (hn : 40 < n) (hL : n < lim) (hs : ∀ f ∈ F, f.name.length ≤ n)
    (kbad : fGo (names l) (fnames F) 0 F = false → ∀ h', Ext h0 h' → h'.Ok → K (.bool false) h' = true)
    (kgood : fGo (names l) (fnames F) 0 F = true → ∀ h', Ext h0 h' → h'.Ok → p12_71 (callN E (n + 3)) (n + 3) B x0 x3 h' K = true) :
    ∀ (m i : Nat) (h : AHeap), Ext h0 h → h.Ok → i ≤ F.length → F.length - i < m → fGo (names l) (fnames F) 0 F = fGo (names l) (fnames F) i (F.drop i) →
      l12_46 (callN E (n + 3)) (n + 3) B m x0 x3 x5 (.int .i64 (i : Int)) h K = true := by
  intro m
  induction m with
  | zero => intro i h _ _ _ hm; omega
  | succ m ih =>
    intro i h e o hi hm hg
    rw [l12_46_s]
    unfold b12_46
    have V1 := V.ext e
    rw [V1.len, optB_some, List.length_map, binA_lss, optB_some]
    by_cases hlt : i < F.length
    · obtain ⟨id, g, j, p1, p2, p3, p4⟩ := V1.fld hlt
      have hd : F.drop i = F[i] :: F.drop (i + 1) := by rw [List.drop_eq_getElem_cons hlt]
      have hg2 : fGo (names l) (fnames F) 0 F = (fOk (names l) (fnames F) i F[i] && fGo (names l) (fnames F) (i + 1) (F.drop (i + 1))) := by rw [hg, hd]; rfl
      have hsf := hs F[i] (List.getElem_mem hlt)
      have bad : ∀ h', fOk (names l) (fnames F) i F[i] = false → Ext h0 h' → h'.Ok → K (.bool false) h' = true := by
        intro h' hf e' o'
        exact kbad (by rw [hg2, hf, Bool.false_and]) h' e' o'
      rw [condB_t (by simpa using hlt), p1, optB_some, fadrA_ptr, optB_some, Nat.zero_add, p2, optB_some]
      refine c32 o (by omega) (by omega) (by omega) ?_
      intro h1 e1 o1
      have V2 := V1.ext e1
      obtain ⟨id, g, j, p1, p2, p3, p4⟩ := V2.fld hlt
      have E1 := e.trans e1
      refine fork1 p1 p2 ?_ ?_
      · intro hnm
        rw [fork2 p1 p3]
        rw [condB_t (by simp)]
        exact bad h1 (by simp [fOk, hnm]) E1 o1
      · intro hnm
        refine c35 V2 (flds_named F) (by simp [fnames]; omega) (by simp [fnames]; omega) ?_
        rw [binA_neq, optB_some, neqi, fork2 p1 p3, Bool.not_not]
        cases hx : (decide (idx F[i].name (fnames F) = some i) && decide (0 ≤ F[i].ty) && decide (F[i].ty ≤ 5)) with
        | false =>
          rw [condB_t (by rfl)]
          exact bad h1 (by simp only [fOk, hnm, Bool.true_and, hx, Bool.false_and]) E1 o1
        | true =>
          have hfo : fOk (names l) (fnames F) i F[i] = !(if F[i].ty = 5 then (idx F[i].cls (names l)).isNone else !decide (F[i].cls = [])) := by simp only [fOk, hnm, Bool.true_and, hx]
          have fin : ∀ (b : Bool), fOk (names l) (fnames F) i F[i] = !b → (condB (.bool b) (K (.bool false) h1) (optB (binA .add (.int .i64 (i : Int)) (.int .i64 1)) fun v102 => l12_46 (callN E (n + 3)) (n + 3) B m x0 x3 x5 v102 h1 K)) = true := by
            intro b hb
            cases b with
            | true => exact bad h1 hb E1 o1
            | false =>
              rw [condB_false, inc64 (by unfold lim at *; omega), optB_some]
              refine ih (i + 1) h1 E1 o1 hlt (by omega) ?_
              rw [hg2, hb]; rfl
          rw [condB_f (by rfl), p1, optB_some, fadrA_ptr, optB_some, Nat.zero_add, p3, optB_some]
          refine fork3 p1 p3 p4 ?_ (idx F[i].cls (names l)).isNone ?_ ?_
          · intro hne
            exact fin _ (by rw [hfo, if_neg hne])
          · intro he R hR
            obtain ⟨es, W, A, N⟩ := (C.ext E1).named
            refine c33 W N (by rw [names_length]; omega) (by rw [names_length]; omega) ?_
            rw [binA_lss, optB_some, lt0]
            exact hR
          · intro he
            exact fin _ (by rw [hfo, if_pos he])
    · have hd : F.drop i = [] := List.drop_of_length_le (by omega)
      rw [hd] at hg
      rw [condB_f (by simpa using hlt)]
      exact kgood hg h e o

theorem refF_name {n : Nat} : ∀ (k : Nat) (l : List Cls) (s : Str), (∀ c ∈ l, ∀ f ∈ c.fields, f.name.length ≤ n) → ∀ f ∈ refF k l s, f.name.length ≤ n
  | 0, _, _, _, f, hf => by cases hf
  | k + 1, l, s, hs, f, hf => by
    simp only [refF] at hf
    cases hi : idx s (names l) with
    | none => rw [hi] at hf; cases hf
    | some i =>
      rw [hi] at hf
      simp only at hf
      cases hc : l[i]? with
      | none => rw [hc] at hf; cases hf
      | some c =>
        rw [hc] at hf
        simp only [List.mem_append] at hf
        rcases hf with hf | hf
        · by_cases h : c.super = []
          · rw [if_pos h] at hf; cases hf
          · rw [if_neg h] at hf
            exact refF_name k _ _ (fun c hc => hs c (List.mem_of_mem_take hc)) f hf
        · exact hs c (List.mem_of_getElem? hc) f hf

/-- What is left of a class's test behind its name. -/
def q12 (call : CallFn) (n : Nat) (B14 : AV → AV → AHeap → Bool) (K : Kont) (x0 x3 p : AV) (v19 : AV) (h : AHeap) : Bool :=
  optB (grdO (wantV v19 false) (fadrA 1 p)) fun v20 => optB (grdO (wantV v19 false) (loadA h false 1 v20)) fun v21 => optB (grdO (wantV v19 false) (binA .neq v21 (.str []))) fun v22 => optB (grdO (wantV v19 false) (some v22)) fun v23 => optB (grdO (wantV v23 true) (some x0)) fun v24 => optB (grdO (wantV v23 true) (some x3)) fun v25 => optB (grdO (wantV v23 true) (sliceV h 3 v24 none (some v25) none)) fun v26 => optB (grdO (wantV v23 true) (fadrA 1 p)) fun v27 => optB (grdO (wantV v23 true) (loadA h false 1 v27)) fun v28 => grdC (wantV v23 true) (fun k => call (.func 33) [v26, v28] h k) h fun v29 h => optB (grdO (wantV v23 true) (binA .lss v29 (.int .i64 0))) fun v30 => optB (grdO (wantV v19 false) (pickV v23 v30 (.bool false))) fun v31 => optB (pickV v19 (.bool true) v31) fun v32 => optB (grdO (wantV v32 false) (fadrA 2 p)) fun v33 => optB (grdO (wantV v32 false) (loadA h false 1 v33)) fun v34 => optB (grdO (wantV v32 false) (lenA h 1 v34)) fun v35 => optB (grdO (wantV v32 false) (binA .gtr v35 (.int .i64 62))) fun v36 => optB (pickV v32 (.bool true) v36) fun v37 => condB v37 (K (.bool false) h) (p12_33 call n B14 x0 x3 p h K)

theorem q12_ok {n : Nat} {h : AHeap} {x0 f : AV} {l : List Cls} {c : Cls} {i p : Nat} {B : AV → AV → AHeap → Bool} {K : Kont} (C : CV h x0 l) (o : h.Ok) (V : Var h p [.str c.name, .str c.super, f]) (Vf : View h 3 f (c.fields.map encF)) (hl : l.length ≤ 64) (hld : load l ≤ 100000) (hn : 200 < n) (hL : n + 10 < lim) (hlt : i < l.length) (b : Bool)
    (hrs : ∀ f ∈ refF (l.length + 1) l c.name, f.name.length ≤ n)
    (kbad : b = true ∨ ((decide (c.super = []) || (idx c.super (names (l.take i))).isSome) && decide (c.fields.length ≤ 62)) = false → K (.bool false) h = true)
    (kbad2 : b = false → ((decide (c.super = []) || (idx c.super (names (l.take i))).isSome) && decide (c.fields.length ≤ 62)) = true → (decide ((refF (l.length + 1) l c.name).length ≤ 62) && fGo (names l) (fnames (refF (l.length + 1) l c.name)) 0 (refF (l.length + 1) l c.name)) = false → ∀ h', Ext h h' → h'.Ok → K (.bool false) h' = true)
    (kgood : b = false → ((decide (c.super = []) || (idx c.super (names (l.take i))).isSome) && decide (c.fields.length ≤ 62)) = true → (decide ((refF (l.length + 1) l c.name).length ≤ 62) && fGo (names l) (fnames (refF (l.length + 1) l c.name)) 0 (refF (l.length + 1) l c.name)) = true → ∀ h', Ext h h' → h'.Ok → p12_71 (callN E (n + 3)) (n + 3) B x0 (.int .i64 (i : Int)) h' K = true) :
    q12 (callN E (n + 3)) (n + 3) B K x0 (.int .i64 (i : Int)) (.ptr p 0 0 0) (.bool b) h = true := by
  obtain ⟨v7, f1, f2⟩ := C.front (i := i) (by omega)
  unfold q12
  -- from the super on
  have t6 : ∀ b' : Bool, (b' = true → b = true ∨ ((decide (c.super = []) || (idx c.super (names (l.take i))).isSome) && decide (c.fields.length ≤ 62)) = false) → (b' = false → b = false ∧ (decide (c.super = []) || (idx c.super (names (l.take i))).isSome) = true) →
      (optB (grdO (wantV (.bool b') false) (fadrA 2 (.ptr p 0 0 0))) fun v33 => optB (grdO (wantV (.bool b') false) (loadA h false 1 v33)) fun v34 => optB (grdO (wantV (.bool b') false) (lenA h 1 v34)) fun v35 => optB (grdO (wantV (.bool b') false) (binA .gtr v35 (.int .i64 62))) fun v36 => optB (pickV (.bool b') (.bool true) v36) fun v37 => condB v37 (K (.bool false) h) (p12_33 (callN E (n + 3)) (n + 3) B x0 (.int .i64 (i : Int)) (.ptr p 0 0 0) h K)) = true := by
    intro b' h1 h2
    have hlen := Vf.len
    rw [List.length_map] at hlen
    rw [fork6 V hlen]
    cases hb' : b' with
    | true => rw [condB_t (by simp)]; exact kbad (h1 hb')
    | false =>
      obtain ⟨a1, a2⟩ := h2 hb'
      by_cases h62 : c.fields.length ≤ 62
      · have hall : ((decide (c.super = []) || (idx c.super (names (l.take i))).isSome) && decide (c.fields.length ≤ 62)) = true := by rw [a2, decide_eq_true h62]; rfl
        rw [condB_f (by simp; omega)]
        unfold p12_33
        rw [fadrA_ptr, optB_some, Nat.zero_add, V.load, partA_false, nth_zero, optB_some]
        refine c34 l.length (n + 2) (Nat.le_refl _) (by omega) (by omega) o C hld ?_
        intro h3 u e3 o3 O
        have VF := O.view
        have hlF := VF.len
        rw [List.length_map] at hlF
        rw [hlF, optB_some, binA_gtr, optB_some]
        by_cases hF : (refF (l.length + 1) l c.name).length ≤ 62
        · rw [condB_f (by simp; omega)]
          unfold p12_43
          refine l12f (C.ext e3) VF (by omega) (by unfold lim at *; omega) (by omega) (by omega) (by omega) hrs ?_ ?_ _ 0 h3 (Ext.refl _) o3 (Nat.zero_le _) (by omega) (by simp)
          · intro hg h4 e4 o4
            exact kbad2 a1 hall (by rw [hg]; simp) h4 (e3.trans e4) o4
          · intro hg h4 e4 o4
            exact kgood a1 hall (by rw [hg, decide_eq_true hF]; rfl) h4 (e3.trans e4) o4
        · rw [condB_t (by simp; omega)]
          exact kbad2 a1 hall (by rw [decide_eq_false hF]; rfl) h3 e3 o3
      · rw [condB_t (by simp; omega)]
        exact kbad (.inr (by rw [decide_eq_false h62]; simp))
  refine fork5 V f1 ?_ ?_ ?_
  · intro hb
    exact t6 true (fun _ => .inl hb) (fun hh => by cases hh)
  · intro hb hu
    exact t6 false (fun hh => by cases hh) (fun _ => ⟨hb, by simp [hu]⟩)
  · intro hb hu
    obtain ⟨es, W, A, N⟩ := f2.named
    have hlt2 : (names (l.take i)).length < n := by rw [names_length]; simp; omega
    refine c33 W N (by omega) (by omega) ?_
    rw [binA_lss, optB_some, lt0]
    refine t6 _ (fun hh => .inr ?_) (fun hh => ⟨hb, ?_⟩)
    · rw [Option.isNone_iff_eq_none] at hh
      rw [hh, decide_eq_false hu]; rfl
    · rw [decide_eq_false hu, Bool.false_or]
      cases hx : idx c.super (names (l.take i)) with
      | none => rw [hx] at hh; cases hh
      | some x => rfl

theorem l12c {n : Nat} {h0 : AHeap} {x0 : AV} {l : List Cls} {K : Kont} (C : CV h0 x0 l) (hl : l.length ≤ 64) (hld : load l ≤ 100000) (hn : 200 < n) (hL : n + 10 < lim) (hs : ∀ c ∈ l, c.name.length ≤ n ∧ ∀ f ∈ c.fields, f.name.length ≤ n)
    (k : ∀ h', Ext h0 h' → h'.Ok → K (.bool (mayGo l 0 l)) h' = true) :
    ∀ (m i : Nat) (h : AHeap), Ext h0 h → h.Ok → i ≤ l.length → l.length - i < m → mayGo l 0 l = mayGo l i (l.drop i) →
      l12_14 (callN E (n + 3)) (n + 3) m x0 (.int .i64 (i : Int)) h K = true := by
  intro m
  induction m with
  | zero => intro i h _ _ _ hm; omega
  | succ m ih =>
    intro i h e o hi hm hg
    rw [l12_14_s]
    unfold b12_14
    have C1 := C.ext e
    rw [C1.len, optB_some, binA_lss, optB_some]
    by_cases hlt : i < l.length
    · have hci := List.getElem?_eq_getElem hlt
      obtain ⟨id, g, j, f, p1, p2, p3, p4, p5, p6⟩ := C1.at hci
      have hd : l.drop i = l[i] :: l.drop (i + 1) := by rw [List.drop_eq_getElem_cons hlt]
      have hg2 : mayGo l 0 l = (clsOk l i l[i] && mayGo l (i + 1) (l.drop (i + 1))) := by rw [hg, hd]; rfl
      have hsc := hs l[i] (List.getElem_mem hlt)
      have hcl : clsOk l i l[i] = (isName l[i].name && decide (idx l[i].name (names l) = some i) && (decide (l[i].super = []) || (idx l[i].super (names (l.take i))).isSome) && decide (l[i].fields.length ≤ 62) && (decide ((refF (l.length + 1) l l[i].name).length ≤ 62) && fGo (names l) (fnames (refF (l.length + 1) l l[i].name)) 0 (refF (l.length + 1) l l[i].name))) := rfl
      have hrs := refF_name (l.length + 1) l l[i].name (fun c hc f hf => (hs c hc).2 f hf)
      generalize l[i] = c at *
      have bad : ∀ h', clsOk l i c = false → Ext h0 h' → h'.Ok → K (.bool false) h' = true := by
        intro h' hf e' o'
        have := k h' e' o'
        rw [hg2, hf, Bool.false_and] at this
        exact this
      rw [condB_t (by simpa using hlt)]
      unfold p12_21
      rw [p1, optB_some, p2, optB_some, alloc_set (n := 3) rfl (by decide) rfl rfl (leaf3 p6.leaf)]
      have e1 := ext_newRow o [[AV.str c.name, AV.str c.super, f]] 3
      have o1 := ok_newRow o [[AV.str c.name, AV.str c.super, f]] 3
      have V1 := var_new h [AV.str c.name, AV.str c.super, f]
      have hcc : (AV.agg [AV.str c.name, AV.str c.super, f]).cells = [AV.str c.name, AV.str c.super, f] := rfl
      rw [hcc]
      simp only [List.length_cons, List.length_nil, Nat.zero_add] at V1
      generalize Ab.newRow h [[AV.str c.name, AV.str c.super, f]] 3 = h1 at *
      generalize h.sz = hq at *
      rw [fadrA_ptr, optB_some, Nat.zero_add, V1.load, partA_false, nth_zero, optB_some]
      refine c32 o1 (by omega) (by omega) (by omega) ?_
      intro h2 e2 o2
      have V2 := V1.ext e2
      have E2 := e.trans (e1.trans e2)
      have C2 := C.ext E2
      obtain ⟨es, W, A, N⟩ := C2.named
      obtain ⟨v7, f1, f2⟩ := C2.front (i := i) (by omega)
      have p6' := p6.ext (e1.trans e2)
      have t5 : ∀ b : Bool, (b = true → clsOk l i c = false) → (b = false → isName c.name = true ∧ idx c.name (names l) = some i) → q12 (callN E (n + 3)) (n + 3) (fun x0 x3 h => l12_14 (callN E (n + 3)) (n + 3) m x0 x3 h K) K x0 (.int .i64 (i : Int)) (.ptr hq 0 0 0) (.bool b) h2 = true := by
        intro b hb1 hb2
        have hcl2 : clsOk l i c = ((isName c.name && decide (idx c.name (names l) = some i)) && (((decide (c.super = []) || (idx c.super (names (l.take i))).isSome) && decide (c.fields.length ≤ 62)) && (decide ((refF (l.length + 1) l c.name).length ≤ 62) && fGo (names l) (fnames (refF (l.length + 1) l c.name)) 0 (refF (l.length + 1) l c.name)))) := by
          rw [hcl]; simp only [Bool.and_assoc]
        refine q12_ok C2 o2 V2 p6' hl hld hn hL (i := i) hlt b hrs ?_ ?_ ?_
        · intro hf
          refine bad h2 ?_ E2 o2
          rcases hf with hf | hf
          · exact hb1 hf
          · rw [hcl2, hf, Bool.false_and, Bool.and_false]
        · intro hb hx hf h' e' o'
          exact bad h' (by rw [hcl2, hf, Bool.and_false, Bool.and_false]) (E2.trans e') o'
        · intro hb hx hf h' e' o'
          obtain ⟨a1, a2⟩ := hb2 hb
          have hok : clsOk l i c = true := by rw [hcl2, hx, hf, a1, a2]; simp
          unfold p12_71
          rw [inc64 (by unfold lim; omega), optB_some]
          refine ih (i + 1) h' (E2.trans e') o' hlt (by omega) ?_
          rw [hg2, hok]; rfl
      refine fork4 (k := fun v h => q12 (callN E (n + 3)) (n + 3) (fun x0 x3 h => l12_14 (callN E (n + 3)) (n + 3) m x0 x3 h K) K x0 (.int .i64 (i : Int)) (.ptr hq 0 0 0) v h) V2 ?_ ?_
      · intro hnm
        exact t5 true (fun _ => by rw [hcl, hnm]; rfl) (fun hh => by cases hh)
      · intro hnm
        refine c33 W N (by rw [names_length]; omega) (by rw [names_length]; omega) ?_
        rw [binA_neq, optB_some, neqi]
        refine t5 _ (fun hh => ?_) (fun hh => ⟨hnm, by simpa using hh⟩)
        rw [Bool.not_eq_true'] at hh
        rw [hcl, hh]; simp
    · have hd : l.drop i = [] := List.drop_of_length_le (by omega)
      rw [condB_f (by simpa using hlt)]
      have := k h e o
      rw [hg, hd] at this
      exact this

theorem c12 {n : Nat} {h : AHeap} {x0 : AV} {l : List Cls} {K : Kont} (o : h.Ok) (C : CV h x0 l) (hld : load l ≤ 100000) (hll : load l < lim) (hn : 200 < n) (hL : n + 10 < lim) (hs : ∀ c ∈ l, c.name.length ≤ n ∧ ∀ f ∈ c.fields, f.name.length ≤ n)
    (k : ∀ h', Ext h h' → h'.Ok → K (.bool (mayB l)) h' = true) : callN E (n + 4) (.func 12) [x0] h K = true := by
  apply d12
  unfold s12
  rw [C.len, optB_some, binA_gtr, optB_some]
  by_cases hl : l.length ≤ 64
  · rw [condB_f (by simp; omega)]
    unfold p12_10
    refine l12c C hl hld hn hL hs ?_ _ 0 h (Ext.refl h) o (Nat.zero_le _) (by omega) (by simp)
    intro h' e o'
    have := k h' e o'
    unfold mayB at this
    rw [decide_eq_true hl, Bool.true_and] at this
    exact this
  · rw [condB_t (by simp; omega)]
    have := k h (Ext.refl h) o
    unfold mayB at this
    rw [decide_eq_false hl, Bool.false_and] at this
    exact this
end Go.Proofs.Ytjdpdjmmbajglaa
