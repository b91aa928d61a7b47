/-
  The law of order: what it does.
-/
import Derived.Test.YtjdpdjmmbajglaaKF
import Derived.Test.YtjdpdjmmbajglaaKJ
namespace Go.Proofs.Ytjdpdjmmbajglaa
open Go.Ab
set_option linter.unusedSimpArgs false
set_option linter.unusedVariables false

instance : DecidableEq Fld := fun a b =>
  if h : a.name = b.name ∧ a.ty = b.ty ∧ a.cls = b.cls then isTrue (by cases a; cases b; simp at h; obtain ⟨h1, h2, h3⟩ := h; subst h1; subst h2; subst h3; rfl)
  else isFalse (by intro e; subst e; exact h ⟨rfl, rfl, rfl⟩)

theorem eq_fld (h : AHeap) (f g : Fld) : eqV h true (.agg [.str, .int, .str]) (.agg (encF f)) (.agg (encF g)) = some (.bool (!decide (f = g))) := by
  have e : eqA h (.agg [.str, .int, .str]) (.agg (encF f)) (.agg (encF g)) = leavesEq (encF f) (encF g) := rfl
  have e2 : leavesEq (encF f) (encF g) = some (decide (f = g)) := by
    simp only [encF, leavesEq, leafEq, leqb_dec, ieqb_dec, Nat.beq_refl, cond_true]
    by_cases h1 : f.name = g.name
    · by_cases h2 : f.ty = g.ty
      · by_cases h3 : f.cls = g.cls
        · have : f = g := by cases f; cases g; simp at h1 h2 h3; subst h1; subst h2; subst h3; rfl
          simp [this]
        · have : ¬ f = g := fun e => h3 (by rw [e])
          simp [h1, h2, h3, this]
      · have : ¬ f = g := fun e => h2 (by rw [e])
        simp [h1, h2, this]
    · have : ¬ f = g := fun e => h1 (by rw [e])
      simp [h1, this]
  unfold eqV
  rw [e, e2]
  rfl

theorem l17 {n : Nat} {h : AHeap} {a b : AV} {A B : List Fld} {K : Kont} (VA : View h 3 a (A.map encF)) (VB : View h 3 b (B.map encF)) (hlen : A.length = B.length) (hl : A.length < lim) (k : K (.bool (decide (A = B))) h = true) : ∀ (m i : Nat), i ≤ A.length → A.length - i < m → A.take i = B.take i →
    l17_14 (callN E n) n m a b (.int .i64 (i : Int)) h K = true := by
  intro m
  induction m with
  | zero => intro i _ hm; omega
  | succ m ih =>
    intro i hi hm he
    rw [l17_14_s]
    unfold b17_14
    rw [VA.len, optB_some, List.length_map, binA_lss, optB_some]
    by_cases hlt : i < A.length
    · obtain ⟨i1, g1, j1, p1, p2⟩ := VA.at (i := i) (e := encF A[i]) (by simp [hlt])
      obtain ⟨i2, g2, j2, q1, q2⟩ := VB.at (i := i) (e := encF (B[i]'(by omega))) (by simp [hlen ▸ hlt])
      have p3 : loadA h true 3 (.ptr i1 g1 j1 0) = some (.agg (encF A[i])) := by rw [p2]; rfl
      have q3 : loadA h true 3 (.ptr i2 g2 j2 0) = some (.agg (encF (B[i]'(by omega)))) := by rw [q2]; rfl
      rw [condB_t (by simpa using hlt), p1, optB_some, p3, optB_some, q1, optB_some, q3, optB_some, eq_fld, optB_some]
      by_cases hs : A[i] = B[i]'(by omega)
      · rw [condB_f (by simpa using hs), inc64 (by omega), optB_some]
        refine ih (i + 1) (by omega) (by omega) ?_
        rw [List.take_add_one, List.take_add_one, he, List.getElem?_eq_getElem hlt, List.getElem?_eq_getElem (hlen ▸ hlt), hs]
      · rw [condB_t (by simpa using hs)]
        have : ¬ A = B := by
          intro e; subst e; exact hs rfl
        rw [decide_eq_false this] at k; exact k
    · rw [condB_f (by simpa using hlt)]
      rw [List.take_of_length_le (by omega), List.take_of_length_le (by omega)] at he
      rw [decide_eq_true he] at k; exact k

theorem c17 {n : Nat} {h : AHeap} {a b : AV} {A B : List Fld} {K : Kont} (VA : View h 3 a (A.map encF)) (VB : View h 3 b (B.map encF)) (hl : A.length < lim) (hn : A.length < n) (k : K (.bool (decide (A = B))) h = true) : callN E (n + 1) (.func 17) [a, b] h K = true := by
  apply d17
  unfold s17
  rw [VA.len, optB_some, VB.len, optB_some, binA_neq, optB_some, List.length_map, List.length_map]
  by_cases hlen : A.length = B.length
  · rw [condB_f (by simp; omega)]
    unfold p17_10
    exact l17 VA VB hlen hl k n 0 (by omega) (by omega) rfl
  · rw [condB_t (by simp; omega)]
    have : ¬ A = B := by intro e; subst e; exact hlen rfl
    rw [decide_eq_false this] at k; exact k

theorem lt20 {i len : Nat} {k : AV → Bool} : (optB (grdO (wantV (.bool (decide ((i : Int) < (len : Int)))) true) (some (.int .i64 (i : Int)))) fun v => optB (grdO (wantV (.bool (decide ((i : Int) < (len : Int)))) true) (binA .lss v (.int .i64 20))) fun w => optB (pickV (.bool (decide ((i : Int) < (len : Int)))) w (.bool false)) fun z => k z) = k (.bool (decide (i < len) && decide (i < 20))) := by
  by_cases h1 : i < len
  · rw [decide_eq_true (by omega : (i : Int) < (len : Int)), decide_eq_true h1, wantV_true, grdO_true, optB_some, grdO_true, binA_lss, optB_some, pickV_true, optB_some, Bool.true_and]
    by_cases h2 : i < 20
    · rw [decide_eq_true h2, decide_eq_true (by omega : (i : Int) < 20)]
    · rw [decide_eq_false h2, decide_eq_false (by omega : ¬ (i : Int) < 20)]
  · rw [decide_eq_false (by omega : ¬ (i : Int) < (len : Int)), decide_eq_false h1]
    rfl

theorem tri1 {call : CallFn} {h : AHeap} {x3 x0 x18 x19 : AV} {id g j id' g' j' : Nat} {s w : Str} {b : Bool} {k : AV → AHeap → Bool} (p1 : iadrA h 3 x0 x18 = some (.ptr id g j 0)) (p2 : loadA h false 1 (.ptr id g j 0) = some (.str s)) (q1 : iadrA h 3 x0 x19 = some (.ptr id' g' j' 0)) (q2 : loadA h false 1 (.ptr id' g' j' 0) = some (.str w))
    (h0 : b = false → k (.bool false) h = true) (h1 : b = true → call (.func 14) [x3, .str s, .str w] h (fun v h => k v h) = true) :
    (optB (grdO (wantV (.bool b) true) (some x3)) fun v131 => optB (grdO (wantV (.bool b) true) (some x0)) fun v132 => optB (grdO (wantV (.bool b) true) (some x18)) fun v133 => optB (grdO (wantV (.bool b) true) (iadrA h 3 v132 v133)) fun v134 => optB (grdO (wantV (.bool b) true) (fadrA 0 v134)) fun v135 => optB (grdO (wantV (.bool b) true) (loadA h false 1 v135)) fun v136 => optB (grdO (wantV (.bool b) true) (some x0)) fun v137 => optB (grdO (wantV (.bool b) true) (some x19)) fun v138 => optB (grdO (wantV (.bool b) true) (iadrA h 3 v137 v138)) fun v139 => optB (grdO (wantV (.bool b) true) (fadrA 0 v139)) fun v140 => optB (grdO (wantV (.bool b) true) (loadA h false 1 v140)) fun v141 => grdC (wantV (.bool b) true) (fun k => call (.func 14) [v131, v136, v141] h k) h fun v142 h => optB (pickV (.bool b) v142 (.bool false)) fun v143 => k v143 h) = true := by
  cases b with
  | false => exact h0 rfl
  | true =>
    have := h1 rfl
    simp only [wantV_true, grdO_true, optB_some, p1, p2, q1, q2, fadrA_ptr, Nat.zero_add, grdC_true, pickV_true]
    exact this

theorem tri2 {call : CallFn} {h : AHeap} {x3 x0 x19 : AV} {q id' g' j' : Nat} {s u w : Str} {g : AV} {b : Bool} {k : AV → AHeap → Bool} (V : Var h q [.str s, .str u, g]) (q1 : iadrA h 3 x0 x19 = some (.ptr id' g' j' 0)) (q2 : loadA h false 1 (.ptr id' g' j' 0) = some (.str w))
    (h0 : b = false → k (.bool false) h = true) (h1 : b = true → call (.func 14) [x3, .str s, .str w] h (fun v h => optB (notA v) fun w => k w h) = true) :
    (optB (grdO (wantV (.bool b) true) (some x3)) fun v144 => optB (grdO (wantV (.bool b) true) (fadrA 0 (.ptr q 0 0 0))) fun v145 => optB (grdO (wantV (.bool b) true) (loadA h false 1 v145)) fun v146 => optB (grdO (wantV (.bool b) true) (some x0)) fun v147 => optB (grdO (wantV (.bool b) true) (some x19)) fun v148 => optB (grdO (wantV (.bool b) true) (iadrA h 3 v147 v148)) fun v149 => optB (grdO (wantV (.bool b) true) (fadrA 0 v149)) fun v150 => optB (grdO (wantV (.bool b) true) (loadA h false 1 v150)) fun v151 => grdC (wantV (.bool b) true) (fun k => call (.func 14) [v144, v146, v151] h k) h fun v152 h => optB (grdO (wantV (.bool b) true) (notA v152)) fun v153 => optB (pickV (.bool b) v153 (.bool false)) fun v154 => k v154 h) = true := by
  cases b with
  | false => exact h0 rfl
  | true =>
    have := h1 rfl
    simp only [wantV_true, grdO_true, optB_some, q1, q2, fadrA_ptr, Nat.zero_add, V.load, partA_false, nth_zero, grdC_true, pickV_true]
    exact this

structure OrdTab (h : AHeap) (x0 t : AV) (l : List Cls) (q : Nat) (s u : Str) (g : AV) : Prop where
  c : CV h x0 l
  t : TableRep h t l
  v : Var h q [.str s, .str u, g]
theorem OrdTab.ext {h h' : AHeap} {x0 t : AV} {l : List Cls} {q : Nat} {s u : Str} {g : AV} (T : OrdTab h x0 t l q s u g) (e : Ext h h') : OrdTab h' x0 t l q s u g := ⟨T.c.ext e, T.t.ext e, T.v.ext e⟩

/-- Of three in a row the first is the third. -/
theorem l115 {n : Nat} {h0 : AHeap} {B24 : AV → AV → AV → AHeap → Bool} {B103 : AV → AV → AV → AV → AV → AHeap → Bool} {x0 t x5 : AV} {l : List Cls} {q : Nat} {s u : Str} {g : AV} {K : Kont} {a : Nat} (T : OrdTab h0 x0 t l q s u g) (A : Asc l) (hl : l.length ≤ 64) (hn : 5000 < n) (ha : a < l.length)
    (k : ∀ h', Ext h0 h' → h'.Ok → p4_132 (callN E (n + 7)) (n + 7) B24 B103 x0 t x5 (.ptr q 0 0 0) (.int .i64 (a : Int)) h' K = true) : ∀ (m j : Nat) (h : AHeap), Ext h0 h → h.Ok → j ≤ l.length → l.length - j < m →
    l4_115 (callN E (n + 7)) (n + 7) B24 B103 m x0 t x5 (.ptr q 0 0 0) (.int .i64 (a : Int)) (.int .i64 (j : Int)) h K = true := by
  intro m
  induction m with
  | zero => intro j h _ _ _ hm; omega
  | succ m ih =>
    intro j h e o hj hm
    rw [l4_115_s]
    unfold b4_115
    have T1 := T.ext e
    rw [T1.c.len, optB_some, binA_lss, optB_some, lt20]
    by_cases hc : j < l.length ∧ j < 20
    · rw [condB_t (by simp [hc])]
      obtain ⟨i1, g1, j1, f1, p1, p2, p3, p4, p5, p6⟩ := T1.c.at (List.getElem?_eq_getElem ha)
      rw [fadrA_ptr, optB_some, Nat.zero_add, T1.v.load, partA_false, nth_zero, optB_some, p1, optB_some, fadrA_ptr, optB_some, Nat.zero_add, p3, optB_some]
      refine c14 T1.t A o (by omega) ?_
      intro h1 e1 o1
      have T2 := T1.ext e1
      obtain ⟨i2, g2, j2, f2, q1, q2, q3, q4, q5, q6⟩ := T2.c.at (List.getElem?_eq_getElem ha)
      obtain ⟨i3, g3, j3, f3, r1, r2, r3, r4, r5, r6⟩ := T2.c.at (List.getElem?_eq_getElem hc.1)
      have next : ∀ h', Ext h0 h' → h'.Ok → (condB (.bool false) (K (.bool false) h') (optB (binA .add (.int .i64 (j : Int)) (.int .i64 1)) fun v155 => l4_115 (callN E (n + 7)) (n + 7) B24 B103 m x0 t x5 (.ptr q 0 0 0) (.int .i64 (a : Int)) v155 h' K)) = true := by
        intro h' e' o'
        rw [condB_false, inc64 (by unfold lim; omega), optB_some]
        exact ih (j + 1) h' e' o' (by omega) (by omega)
      refine tri1 q1 q3 r1 r3 ?_ ?_
      · intro hb
        refine tri2 T2.v r1 r3 (fun _ => next h1 (e.trans e1) o1) (fun hh => by cases hh)
      · intro hb
        refine c14 T2.t A o1 (by omega) ?_
        intro h2 e2 o2
        have T3 := T2.ext e2
        obtain ⟨i4, g4, j4, f4, s1, s2, s3, s4, s5, s6⟩ := T3.c.at (List.getElem?_eq_getElem hc.1)
        refine tri2 T3.v s1 s3 ?_ ?_
        · intro _; exact next h2 (e.trans (e1.trans e2)) o2
        · intro hb2
          refine c14 T3.t A o2 (by omega) ?_
          intro h3 e3 o3
          have := isB_trans A (a := s) (b := l[a].name) (c := l[j].name) hb hb2
          unfold isB at this
          rw [this, notA_bool, Bool.not_true, optB_some]
          exact next h3 (e.trans (e1.trans (e2.trans e3))) o3
    · rw [condB_f (by simp; omega)]
      exact k h e o

theorem l103 {n : Nat} {h0 : AHeap} {B24 : AV → AV → AV → AHeap → Bool} {x0 t x5 : AV} {l : List Cls} {q : Nat} {s u : Str} {g : AV} {K : Kont} (T : OrdTab h0 x0 t l q s u g) (A : Asc l) (hl : l.length ≤ 64) (hn : 5000 < n)
    (k : ∀ h', Ext h0 h' → h'.Ok → p4_133 (callN E (n + 7)) (n + 7) B24 x0 t x5 h' K = true) : ∀ (m j : Nat) (h : AHeap), Ext h0 h → h.Ok → j ≤ l.length → l.length - j < m →
    l4_103 (callN E (n + 7)) (n + 7) B24 m x0 t x5 (.ptr q 0 0 0) (.int .i64 (j : Int)) h K = true := by
  intro m
  induction m with
  | zero => intro j h _ _ _ hm; omega
  | succ m ih =>
    intro j h e o hj hm
    rw [l4_103_s]
    unfold b4_103
    have T1 := T.ext e
    rw [T1.c.len, optB_some, binA_lss, optB_some, lt20]
    by_cases hc : j < l.length ∧ j < 20
    · rw [condB_t (by simp [hc])]
      unfold p4_110
      refine l115 T1 A hl hn hc.1 ?_ (n + 7) 0 h (Ext.refl _) o (by omega) (by omega)
      intro h1 e1 o1
      unfold p4_132
      rw [inc64 (by unfold lim; omega), optB_some]
      exact ih (j + 1) h1 (e.trans e1) o1 (by omega) (by omega)
    · rw [condB_f (by simp; omega)]
      exact k h e o
end Go.Proofs.Ytjdpdjmmbajglaa
