/-
  The law of subs: what it does.
-/
import Derived.Test.YtjdpdjmmbajglaaKE
namespace Go.Proofs.Ytjdpdjmmbajglaa
open Go.Ab
set_option linter.unusedSimpArgs false
set_option linter.unusedVariables false

theorem named_one : ∀ (A : List Str), Named (A.map one) A
  | [] => .nil
  | _ :: A => .cons rfl (named_one A)

theorem fint_lt {s : Str} {l : List Str} (h : s ∈ l) : decide (fint (idx s l) < 0) = false := by
  have := idx_some_of_mem h
  cases hx : idx s l with
  | none => rw [hx] at this; cases this
  | some i => exact decide_eq_false (by show ¬ ((i : Int) < 0); omega)

/-- All of a list are in another one. -/
theorem l92 {n : Nat} {h : AHeap} {B38 : AV → AV → AV → AV → AHeap → Bool} {B62 : AV → AV → AV → AV → AV → AV → AHeap → Bool} {x0 x3 x6 x7 x8 x12 x13 : AV} {A S : List Str} {K : Kont} (VA : View h 1 x13 (A.map one)) (VS : View h 1 x8 (S.map one)) (hA : A.length < lim) (hS : S.length < lim) (hSn : S.length < n)
    (hsub : ∀ v ∈ A, v ∈ S) (k : p5_109 (callN E (n + 1)) (n + 1) B38 B62 x0 x3 x6 x7 x8 x12 h K = true) : ∀ (m i : Nat), i ≤ A.length → A.length - i < m →
    l5_92 (callN E (n + 1)) (n + 1) B38 B62 m x0 x3 x6 x7 x8 x12 x13 (.int .i64 (i : Int)) h K = true := by
  intro m
  induction m with
  | zero => intro i _ hm; omega
  | succ m ih =>
    intro i hi hm
    rw [l5_92_s]
    unfold b5_92
    rw [VA.len, optB_some, List.length_map, binA_lss, optB_some]
    by_cases hlt : i < A.length
    · obtain ⟨i1, g1, j1, p1, p2⟩ := VA.at (i := i) (e := one A[i]) (by simp [hlt])
      rw [condB_t (by simpa using hlt), p1, optB_some, p2, one, partA_false, nth_zero, optB_some]
      refine c22 VS (named_one S) hSn hS ?_
      rw [binA_lss, optB_some, condB_f (fint_lt (hsub _ (List.getElem_mem hlt))), inc64 (by omega), optB_some]
      exact ih (i + 1) (by omega) (by omega)
    · rw [condB_f (by simpa using hlt)]
      exact k


theorem is_fork {call : CallFn} {h : AHeap} {x6 x8 x12 : AV} {z : Str} {id g j : Nat} {w : AV} {k : AV → AHeap → Bool} (h1 : iadrA h 1 x8 x12 = some (.ptr id g j 0)) (h2 : loadA h false 1 (.ptr id g j 0) = some w) (h3 : call (.func 14) [x6, .str z, w] h (fun v h => k v h) = true) :
    (optB (notA (.bool true)) fun v73 => optB (grdO (wantV v73 false) (some x6)) fun v74 => optB (grdO (wantV v73 false) (some x8)) fun v75 => optB (grdO (wantV v73 false) (some x12)) fun v76 => optB (grdO (wantV v73 false) (iadrA h 1 v75 v76)) fun v77 => optB (grdO (wantV v73 false) (loadA h false 1 v77)) fun v78 => grdC (wantV v73 false) (fun k => call (.func 14) [v74, (.str z), v78] h k) h fun v79 h => optB (pickV v73 (.bool true) v79) fun v80 => k v80 h) = true := by
  simp only [notA_bool, Bool.not_true, optB_some, wantV_false, Bool.not_false, grdO_true, h1, h2, grdC_true, pickV_false]
  exact h3

structure SubsTab (h : AHeap) (x0 x3 x6 : AV) (l m : List Cls) : Prop where
  c : CV h x0 l
  t : TableRep h x3 l
  u : TableRep h x6 m

theorem SubsTab.ext {h h' : AHeap} {x0 x3 x6 : AV} {l m : List Cls} (T : SubsTab h x0 x3 x6 l m) (e : Ext h h') : SubsTab h' x0 x3 x6 l m := ⟨T.c.ext e, T.t.ext e, T.u.ext e⟩

theorem l62 {n : Nat} {h0 : AHeap} {B38 : AV → AV → AV → AV → AHeap → Bool} {x0 x3 x6 x8 : AV} {l m : List Cls} {s : Str} {i : Nat} {K : Kont} (T : SubsTab h0 x0 x3 x6 l m) (A : Asc l) (B : Asc m) (L : SubsLaw l m) (hl : l.length ≤ 64) (hm : m.length ≤ 65) (hn : 5000 < n)
    (V : View h0 1 x8 ((subsOf l s).map one)) (hi : i < l.length) (hs : ∃ c, l[i]? = some c ∧ c.name = s)
    (k : ∀ h', Ext h0 h' → h'.Ok → p5_110 (callN E (n + 4)) (n + 4) B38 x0 x3 x6 (.int .i64 (i : Int)) h' K = true) : ∀ (q j : Nat) (h : AHeap), Ext h0 h → h.Ok → j ≤ (subsOf l s).length → (subsOf l s).length - j < q →
    l5_62 (callN E (n + 4)) (n + 4) B38 q x0 x3 x6 (.int .i64 (i : Int)) x8 (.int .i64 (j : Int)) h K = true := by
  intro q
  induction q with
  | zero => intro j h _ _ _ hq; omega
  | succ q ih =>
    intro j h e o hj hq
    have hsl := subs_len l s
    rw [l5_62_s]
    unfold b5_62
    have T1 := T.ext e
    have V1 := V.ext e
    rw [V1.len, optB_some, List.length_map, binA_lss, optB_some]
    by_cases hlt : j < (subsOf l s).length
    · have hmem := List.getElem_mem hlt
      obtain ⟨i1, g1, j1, p1, p2⟩ := V1.at (i := j) (e := one (subsOf l s)[j]) (by simp [hlt])
      obtain ⟨c, hc, hcn⟩ := hs
      obtain ⟨i2, g2, j2, f2, q1, q2, q3, q4, q5, q6⟩ := T1.c.at hc
      rw [condB_t (by simpa using hlt)]
      unfold p5_69
      rw [p1, optB_some, p2, one, partA_false, nth_zero, optB_some, q1, optB_some, fadrA_ptr, optB_some, Nat.zero_add, q3, optB_some]
      refine c14 T1.t A o (by omega) ?_
      intro h1 e1 o1
      have V2 := V1.ext e1
      have T2 := T1.ext e1
      have his := L.is s _ hmem
      unfold isB at his
      rw [hcn, his]
      obtain ⟨i3, g3, j3, r1, r2⟩ := V2.at (i := j) (e := one (subsOf l s)[j]) (by simp [hlt])
      refine is_fork (r1 _) (r2 false 0 1) ?_
      refine c14 T2.u B o1 (by omega) ?_
      intro h2 e2 o2
      have hnot := L.not s _ hmem
      unfold isB zz at hnot
      rw [hnot, condB_false]
      have V3 := V2.ext e2
      have T3 := T2.ext e2
      unfold p5_79
      obtain ⟨i4, g4, j4, s1, s2⟩ := V3.at (i := j) (e := one (subsOf l s)[j]) (by simp [hlt])
      rw [s1, optB_some, s2, one, partA_false, nth_zero, optB_some]
      have hw : (idx (subsOf l s)[j] (names l)).isSome = true := isB_some (L.is s _ hmem)
      refine c20 T3.t A o2 (by omega) (by omega) (fun hx => by rw [hx] at hw; cases hw) ?_
      intro ii h3 v3 _ e3 o3 V4
      rw [ext01, binA_neq, optB_some, condB_f (by decide)]
      unfold p5_89
      have hb := subs_len l (subsOf l s)[j]
      refine l92 (n := n + 3) V4 (V3.ext e3) (by unfold lim; omega) (by unfold lim; omega) (by omega) (L.below s _ hmem) ?_ (n + 4) 0 (by omega) (by omega)
      unfold p5_109
      rw [inc64 (by unfold lim; omega), optB_some]
      exact ih (j + 1) h3 (e.trans (e1.trans (e2.trans e3))) o3 (by omega) (by omega)
    · rw [condB_f (by simpa using hlt)]
      exact k h e o

theorem subs_f1 {call : CallFn} {a b : AV} {h : AHeap} {k : AV → AHeap → Bool} : (optB (binA .neq (.int .i64 0) (.int .i64 0)) fun v47 => optB (grdO (wantV v47 false) (some (.int .i64 0))) fun v48 => optB (grdO (wantV v47 false) (binA .neq v48 (.int .i64 0))) fun v49 => optB (pickV v47 (.bool true) v49) fun v50 => optB (grdO (wantV v50 false) (some a)) fun v51 => optB (grdO (wantV v50 false) (some b)) fun v52 => grdC (wantV v50 false) (fun k => call (.func 21) [v51, v52] h k) h fun v53 h => optB (grdO (wantV v50 false) (notA v53)) fun v54 => optB (pickV v50 (.bool true) v54) fun v55 => k v55 h) = call (.func 21) [a, b] h (fun v h => optB (notA v) fun w => k w h) := rfl
theorem subs_f2 {call : CallFn} {a x0 x7 : AV} {h : AHeap} {k : AV → AHeap → Bool} : (optB (grdO (wantV (.bool false) false) (some a)) fun v56 => optB (grdO (wantV (.bool false) false) (some x0)) fun v57 => optB (grdO (wantV (.bool false) false) (some x7)) fun v58 => optB (grdO (wantV (.bool false) false) (iadrA h 3 v57 v58)) fun v59 => optB (grdO (wantV (.bool false) false) (fadrA 0 v59)) fun v60 => optB (grdO (wantV (.bool false) false) (loadA h false 1 v60)) fun v61 => grdC (wantV (.bool false) false) (fun k => call (.func 22) [v56, v61] h k) h fun v62 h => optB (grdO (wantV (.bool false) false) (binA .lss v62 (.int .i64 0))) fun v63 => optB (pickV (.bool false) (.bool true) v63) fun v64 => k v64 h) =
    optB (iadrA h 3 x0 x7) fun p => optB (fadrA 0 p) fun q => optB (loadA h false 1 q) fun w => call (.func 22) [a, w] h fun v h => optB (binA .lss v (.int .i64 0)) fun b => k b h := rfl
theorem and_t0 {call : CallFn} {f : AFn} {h : AHeap} {k : AV → AHeap → Bool} : (grdC (wantV (.bool true) true) (fun k => call f [] h k) h fun v h => optB (pickV (.bool true) v (.bool false)) fun w => k w h) = call f [] h (fun v h => k v h) := rfl
theorem or_t {call : CallFn} {f : AFn} {a s : AV} {h : AHeap} {k : AV → AHeap → Bool} : (optB (grdO (wantV (.bool true) false) (some a)) fun v15 => grdC (wantV (.bool true) false) (fun k => call f [v15, s] h k) h fun v16 h => optB (pickV (.bool true) (.bool true) v16) fun v17 => k v17 h) = k (.bool true) h := rfl
theorem or_f {call : CallFn} {f : AFn} {a s : AV} {h : AHeap} {k : AV → AHeap → Bool} : (optB (grdO (wantV (.bool false) false) (some a)) fun v15 => grdC (wantV (.bool false) false) (fun k => call f [v15, s] h k) h fun v16 h => optB (pickV (.bool false) (.bool true) v16) fun v17 => k v17 h) = call f [a, s] h (fun v h => k v h) := rfl

/-- The end: of the class more. -/
theorem c111 {n : Nat} {h : AHeap} {x0 x3 x6 : AV} {l m : List Cls} {K : Kont} (T : SubsTab h x0 x3 x6 l m) (B : Asc m) (L : SubsLaw l m) (hm : m.length ≤ 65) (hn : 5000 < n) (hL : n + 10 < lim) (ho : h.Ok)
    (k : ∀ h', Ext h h' → h'.Ok → K (.bool true) h' = true) : p5_111 (callN E (n + 7)) (n + 7) x6 h K = true := by
  unfold p5_111
  refine c20 T.u B ho (by omega) (by omega) (fun hx => by have := L.zed; unfold zz at this; rw [hx] at this; cases this) ?_
  intro i h1 v _ e1 o1 V
  have hal : subsOf m [90, 122, 57] = [zz] := L.alone
  rw [hal] at V
  rw [ext01, binA_eql, decide_eq_true rfl, optB_some]
  obtain ⟨v24, g1, g2⟩ := bslice_view (h := h1) (n := 1) (sz := 1) (z := [AV.str []]) (ps := [(0, AV.str [90, 122, 57])]) (es := [[AV.str [90, 122, 57]]]) rfl (by decide) (by decide) rfl rfl rfl
  rw [and_s g1]
  have e2 := ext_newRow o1 [[AV.str [90, 122, 57]]] 1
  have o2 := ok_newRow o1 [[AV.str [90, 122, 57]]] 1
  generalize Ab.newRow h1 [[AV.str [90, 122, 57]]] 1 = h2 at *
  refine c21 (A := [zz]) (B := [zz]) (V.ext e2) g2 (by decide) (by simp <;> omega) ?_
  rw [decide_eq_true rfl, and_t0]
  refine c9 o2 hn hL ?_
  intro h3 e3 o3
  exact k h3 (e1.trans (e2.trans e3)) o3

theorem l38 {n : Nat} {h0 : AHeap} {x0 x3 x6 : AV} {l m : List Cls} {K : Kont} (T : SubsTab h0 x0 x3 x6 l m) (A : Asc l) (B : Asc m) (L : SubsLaw l m) (hl : l.length ≤ 64) (hm : m.length ≤ 65) (hn : 5000 < n) (hL : n + 10 < lim)
    (k : ∀ h', Ext h0 h' → h'.Ok → K (.bool true) h' = true) : ∀ (q i : Nat) (h : AHeap), Ext h0 h → h.Ok → i ≤ l.length → l.length - i < q →
    l5_38 (callN E (n + 7)) (n + 7) q x0 x3 x6 (.int .i64 (i : Int)) h K = true := by
  intro q
  induction q with
  | zero => intro i h _ _ _ hq; omega
  | succ q ih =>
    intro i h e o hi hq
    rw [l5_38_s]
    unfold b5_38
    have T1 := T.ext e
    rw [T1.c.len, optB_some, binA_lss, optB_some]
    have stop : p5_111 (callN E (n + 7)) (n + 7) x6 h K = true := c111 T1 B L hm hn hL o fun h' e' o' => k h' (e.trans e') o'
    by_cases hlt : i < l.length
    · rw [decide_eq_true (by omega : (i : Int) < (l.length : Int))]
      by_cases h20 : i < 20
      · have hb : (optB (grdO (wantV (.bool true) true) (some (.int .i64 (i : Int)))) fun v32 => optB (grdO (wantV (.bool true) true) (binA .lss v32 (.int .i64 20))) fun v33 => optB (pickV (.bool true) v33 (.bool false)) fun v34 => condB v34 (p5_45 (callN E (n + 7)) (n + 7) (l5_38 (callN E (n + 7)) (n + 7) q · · · · · K) x0 x3 x6 (.int .i64 (i : Int)) h K) (p5_111 (callN E (n + 7)) (n + 7) x6 h K)) = (p5_45 (callN E (n + 7)) (n + 7) (l5_38 (callN E (n + 7)) (n + 7) q · · · · · K) x0 x3 x6 (.int .i64 (i : Int)) h K) := by
          rw [wantV_true, grdO_true, optB_some, grdO_true, binA_lss, optB_some, pickV_true, optB_some, condB_t (by simp; omega)]
        rw [hb]
        unfold p5_45
        obtain ⟨i2, g2, j2, f2, q1, q2, q3, q4, q5, q6⟩ := T1.c.at (List.getElem?_eq_getElem hlt)
        have hc := List.getElem_mem hlt
        have hs : (idx l[i].name (names l)).isSome = true := idx_some_of_mem (List.mem_map_of_mem hc)
        have hs2 := L.has _ hs
        rw [q1, optB_some, fadrA_ptr, optB_some, Nat.zero_add, q3, optB_some]
        refine c20 T1.t A o (by omega) (by omega) (fun hx => by rw [hx] at hs; cases hs) ?_
        intro ii h1 v1 _ e1 o1 V1
        have T2 := T1.ext e1
        obtain ⟨i3, g3, j3, f3, r1, r2, r3, r4, r5, r6⟩ := T2.c.at (List.getElem?_eq_getElem hlt)
        rw [ext01, r1, optB_some, fadrA_ptr, optB_some, Nat.zero_add, r3, optB_some]
        refine c20 T2.u B o1 (by omega) (by omega) (fun hx => by rw [hx] at hs2; cases hs2) ?_
        intro ij h2 v2 _ e2 o2 V2
        rw [L.same _ hs] at V2
        have T3 := T2.ext e2
        have hsl := subs_len l l[i].name
        rw [ext01, subs_f1]
        refine c21 (V1.ext e2) V2 (by unfold lim; omega) (by omega) ?_
        rw [decide_eq_true rfl, notA_bool, Bool.not_true, optB_some, subs_f2]
        obtain ⟨i4, g4, j4, f4, s1, s2, s3, s4, s5, s6⟩ := T3.c.at (List.getElem?_eq_getElem hlt)
        rw [s1, optB_some, fadrA_ptr, optB_some, Nat.zero_add, s3, optB_some]
        refine c22 (V1.ext e2) (named_one _) (by omega) (by unfold lim; omega) ?_
        rw [binA_lss, optB_some, condB_f (fint_lt (L.self _ hs))]
        unfold p5_59
        refine l62 (n := n + 3) T3 A B L hl hm (by omega) (V1.ext e2) hlt ⟨_, List.getElem?_eq_getElem hlt, rfl⟩ ?_ (n + 7) 0 h2 (Ext.refl _) o2 (by omega) (by omega)
        intro h3 e3 o3
        unfold p5_110
        rw [inc64 (by unfold lim; omega), optB_some]
        exact ih (i + 1) h3 (e.trans (e1.trans (e2.trans e3))) o3 (by omega) (by omega)
      · rw [wantV_true, grdO_true, optB_some, grdO_true, binA_lss, optB_some, pickV_true, optB_some, condB_f (by simp; omega)]
        exact stop
    · rw [decide_eq_false (by omega : ¬ (i : Int) < (l.length : Int)), wantV_true, grdO_false, optB_some, grdO_false, optB_some, pickV_false, optB_some, condB_false]
      exact stop

theorem zz_build : buildV [AV.str [], AV.str [], AV.nilSlc] [(0, 1, AV.str [90, 122, 57])] = some (.agg [.str zz, .str [], .nilSlc]) := rfl

/-- A class more. -/
theorem subsMore {n : Nat} {h : AHeap} {x0 t : AV} {l : List Cls} {K : Kont} (ho : h.Ok) (C : CV h x0 l) (T : TableRep h t l) (G : Good l) (hv : valid l = true) (hz : (idx zz (names l)).isSome = false) (hl : l.length < 64) (R : Room (n + 1) l) (hn : 5000 < n)
    (k : ∀ h', Ext h h' → h'.Ok → K (.bool true) h' = true) : p5_20 (callN E (n + 7)) (n + 7) x0 t h K = true := by
  unfold p5_20
  obtain ⟨es, c1, c2⟩ := C
  have hes := c2.length
  obtain ⟨v19, h1, a1, a2, a3, a4, a5, a6, a7⟩ := (Own.nil h.sz h 3).app (bytes := 56) (by decide) (Nat.le_refl _) ho ho (Ext.refl h) (Nat.le_refl _) c1.src (by simp; unfold most; omega) (by simp; unfold most; omega)
  rw [a1, optP_some, zz_build, optB_some]
  obtain ⟨v21, b1, b2⟩ := bslice_view (h := h1) (n := 1) (sz := 3) (z := [AV.str [], AV.str [], AV.nilSlc]) rfl (by decide) (by decide) rfl (cls_fill zz [] .nilSlc rfl) rfl
  rw [b1, optP_some]
  have e2 := ext_newRow a3 [[AV.str zz, AV.str [], AV.nilSlc]] 3
  have o2 := ok_newRow a3 [[AV.str zz, AV.str [], AV.nilSlc]] 3
  generalize Ab.newRow h1 [[AV.str zz, AV.str [], AV.nilSlc]] 3 = h2 at *
  have O2 := a2.rows (Rows3.of_ext e2)
  rw [List.nil_append] at O2
  obtain ⟨v22, h3, d1, d2, d3, d4, d5, d6, d7⟩ := O2.app (bytes := 56) (by decide) (Nat.le_trans a5 e2.1) o2 ho (a4.trans e2) (Nat.le_refl _) b2.src (by simp; unfold most; omega) (by simp; unfold most; omega)
  rw [d1, optP_some]
  have C3 : CV h3 v22 (l ++ [clsZ]) := by
    refine ⟨_, d2.view, All2.append ?_ (.cons ⟨.nilSlc, rfl, View.nil _ _⟩ .nil)⟩
    exact c2.mono fun _ _ r => r.ext d4
  have hv2 := valid_z hv G hz hl
  refine c11 d3 C3 ⟨R.big, R.top, ?_⟩ (fun hb => by rw [hv2] at hb; cases hb) ?_
  · intro c hc
    rcases List.mem_append.1 hc with hc | hc
    · exact R.name c hc
    · have hbig := R.big
      simp at hc; subst hc
      exact ⟨by simp [clsZ, zz]; omega, fun f hf => by cases hf⟩
  intro _ G2 h4 t2 e4 o4 T2
  obtain ⟨id, lv, mid, rfl, _⟩ := id T2
  rw [ext01, new_ok, condB_false]
  unfold p5_34
  have E4 : Ext h h4 := d4.trans e4
  refine l38 (m := l ++ [clsZ]) ⟨CV.ext ⟨es, c1, c2⟩ E4, T.ext E4, T2⟩ G.asc G2.asc (subsLaw G G2 hz) (by omega) (by simp; omega) hn (by have := R.top; omega) ?_ (n + 7) 0 h4 (Ext.refl _) o4 (by omega) (by have := R.big; omega)
  intro h5 e5 o5
  exact k h5 (E4.trans e5) o5

theorem c5 {n : Nat} {h : AHeap} {x0 : AV} {l : List Cls} {K : Kont} (ho : h.Ok) (C : CV h x0 l) (R : Room n l) (hR : n + 11 < lim) (hld : load l < lim) (hll : l.length < n)
    (k : ∀ h', Ext h h' → h'.Ok → K (.bool true) h' = true) : callN E (n + 8) (.func 5) [x0] h K = true := by
  have hbig := R.big
  have htop := R.top
  have R1 : Room (n + 1) l := ⟨by omega, hR, fun c hc => ⟨Nat.le_succ_of_le (R.name c hc).1, fun f hf => Nat.le_succ_of_le ((R.name c hc).2 f hf)⟩⟩
  apply d5
  unfold s5
  refine c8 C hld (by omega) (by omega) ?_
  have wk : ∀ h', Ext h h' → h'.Ok → callN E (n + 7) (.func 9) [] h' (fun v h => K v h) = true := fun h' e o => c9 o R.big R.top fun h'' e' o' => k h'' (e.trans e') o'
  cases hlt : light l with
  | false =>
    rw [notA_bool, Bool.not_false, optB_some, wantV_false, Bool.not_true, grdO_false, optB_some, grdO_false, optB_some, grdO_false, optB_some, pickV_true, optB_some, condB_true]
    exact wk h (Ext.refl h) ho
  | true =>
    rw [notA_bool, Bool.not_true, optB_some, wantV_false, Bool.not_false, grdO_true, optB_some, grdO_true, C.len, optB_some, grdO_true, binA_geq, optB_some, pickV_false, optB_some]
    by_cases h64 : l.length < 64
    · rw [condB_f (by simp; omega)]
      unfold p5_10
      refine c11 ho C R1 ?_ ?_
      · intro _ h1 e1 o1
        rw [ext01, new_bad, or_t, condB_true]
        exact wk h1 e1 o1
      · intro hv G h1 t e1 o1 T
        obtain ⟨id, lv, mid, rfl, _⟩ := id T
        rw [ext01, new_ok, or_f]
        refine c19 T ?_
        have hzd : (idx [90, 122, 57] (names l)) = idx zz (names l) := rfl
        rw [hzd]
        cases hz : (idx zz (names l)).isSome with
        | true =>
          rw [condB_true]
          exact wk h1 e1 o1
        | false =>
          rw [condB_false]
          exact subsMore o1 (C.ext e1) T G hv hz h64 R1 hbig fun h' e' o' => k h' (e1.trans e') o'
    · rw [condB_t (by simp; omega)]
      exact wk h (Ext.refl h) ho
end Go.Proofs.Ytjdpdjmmbajglaa
