/-
  Slices of fields put together; a class's fields.
-/
import Derived.Test.YtjdpdjmmbajglaaK4
namespace Go.Proofs.Ytjdpdjmmbajglaa
open Go.Ab
set_option linter.unusedSimpArgs false
set_option linter.unusedVariables false

theorem repl_len {α : Type} (n : Nat) (x : α) : (repl n x).length = n := by rw [repl_eq]; simp

theorem c51 {n m : Nat} {h : AHeap} {K : Kont} (hm : m < 1000000) (k0 : m = 0 → K .nilSlc h = true) (k : 0 < m → K (.slc h.sz 0 0 0 m false) (Ab.newRow h (repl m [AV.str [], AV.int .i64 0, AV.str []]) 3) = true) :
    callN E (n + 1) (.func 51) [.nilSlc, .int .i64 (m : Int)] h K = true := by
  apply d51
  unfold s51
  have e0 : capA .nilSlc = some (.int .i64 0) := rfl
  have e1 : ∀ h, lenA h 1 .nilSlc = some (.int .i64 0) := fun _ => rfl
  rw [binA_lss, optB_some, condB_f (by simp), e0, optB_some, e1, optB_some, sub64 (by decide) (by decide), optB_some, sub64 (by omega) (by omega), optB_some, binA_gtr, optB_some]
  by_cases h0 : m = 0
  · rw [condB_f (by subst h0; rfl)]
    exact k0 h0
  · rw [condB_t (by simp; omega), optB_some]
    have e2 : sliceV h 3 .nilSlc none (some (.int .i64 0)) none = some .nilSlc := rfl
    rw [e2, optB_some]
    have e3 : ((m : Int) - (0 - 0)) = (m : Int) := by omega
    rw [e3]
    have e4 : appzA h 3 40 [AV.str [], AV.int .i64 0, AV.str []] .nilSlc (.int .i64 (m : Int)) = some (.slc h.sz 0 0 m m false, Ab.newRow h (repl m [AV.str [], AV.int .i64 0, AV.str []]) 3) := by
      simp only [appzA, asNat_nat]
      have b1 : Nat.ble m most = true := nble_true.2 (by unfold most; omega)
      have b2 : Nat.ble (m * 40) most = true := nble_true.2 (by unfold most; omega)
      have b3 : (bif Nat.blt 0 3 && Nat.beq [AV.str [], AV.int .i64 0, AV.str []].length 3 && allLeaf [AV.str [], AV.int .i64 0, AV.str []] then (bif Nat.ble m most && Nat.ble (m * 40) most then appendNew h 3 40 .nilSlc (repl m [AV.str [], AV.int .i64 0, AV.str []]) else none) else none) = appendNew h 3 40 .nilSlc (repl m [AV.str [], AV.int .i64 0, AV.str []]) := by
        rw [b1, b2]; rfl
      rw [b3]
      obtain ⟨j, rfl⟩ : ∃ j, m = j + 1 := ⟨m - 1, by omega⟩
      have hr : repl (j + 1) [AV.str [], AV.int .i64 0, AV.str []] = [AV.str [], AV.int .i64 0, AV.str []] :: repl j [AV.str [], AV.int .i64 0, AV.str []] := rfl
      have hl := repl_len (j + 1) [AV.str [], AV.int .i64 0, AV.str []]
      simp only [appendNew]
      rw [hr] at hl ⊢
      rw [hl]
      have c1 : Nat.ble ((j + 1) * 40) most = true := b2
      have c2 : Nat.ble (j + 1) most = true := b1
      rw [c1, c2]
      rfl
    rw [e4, optP_some, e1, optB_some]
    have e5 : sliceV (Ab.newRow h (repl m [AV.str [], AV.int .i64 0, AV.str []]) 3) 3 (.slc h.sz 0 0 m m false) none (some (.int .i64 0)) none = some (.slc h.sz 0 0 0 m false) := by
      have : rowSz (Ab.newRow h (repl m [AV.str [], AV.int .i64 0, AV.str []]) 3) h.sz 3 = true := by
        simp only [rowSz, AHeap.row, Ab.newRow, get_push_same]; rfl
      have z0 : asNat (.int .i64 0) = some 0 := rfl
      simp only [sliceV, this, cond_true, natV, z0, Nat.zero_add, Nat.sub_zero, nble_true.2 (Nat.zero_le m), nble_true.2 (Nat.le_refl 0), Bool.and_self]
    rw [e5, optB_some]
    exact k (by omega)

/-- An append that has room. -/
theorem app_fit {h : AHeap} {id len cap bytes : Nat} {r : Row} {x : AV} {new : List (List AV)} (hr : h.row id = some r) (hw : r.rw = true) (hg : r.g = 0) (hs : r.sz = 3) (hsrc : source h 3 x = some new) (hfit : len + new.length ≤ cap) (hcap : cap < 1000000) (hb : bytes ≤ 64) :
    appendA h 3 bytes (.slc id 0 0 len cap false) x = some (.slc id 0 0 (len + new.length) cap false, if new = [] then h else h.put id (.row { r with es := lay r.es len new, m := r.g })) := by
  have hn0 : Nat.beq 3 0 = false := rfl
  simp only [appendA, hn0, cond_false, hsrc]
  cases new with
  | nil => simp [appendNew]
  | cons y l =>
    have b1 : Nat.ble ((len + (y :: l).length) * bytes) most = true := nble_true.2 (by
      have : (len + (y :: l).length) * bytes ≤ cap * 64 := Nat.mul_le_mul hfit hb
      unfold most; omega)
    have b2 : Nat.ble (len + (y :: l).length) most = true := nble_true.2 (by unfold most; omega)
    simp only [appendNew, hr, b1, b2, nbeq_true.2 hs, Bool.and_self, cond_true, nble_true.2 hfit, hw, hg, Nat.beq_refl, Nat.zero_add]
    simp

theorem c39o {n : Nat} {h : AHeap} {x a b : AV} {A B : List (List AV)} {K : Kont} (ho : h.Ok) (V : View h 1 x [[a], [b]]) (VA : View h 3 a A) (VB : View h 3 b B) (hsz : A.length + B.length < 1000000) (hn : 3 < n)
    (k : ∀ h' v, Ext h h' → h'.Ok → Own h.sz h' 3 v (A ++ B) → K v h' = true) : callN E (n + 2) (.func 39) [x] h K = true := by
  apply d39
  unfold s39
  obtain ⟨n, rfl⟩ : ∃ j, n = j + 3 := ⟨n - 3, by omega⟩
  rw [V.len, optB_some]
  have l2 : (([[a], [b]] : List (List AV)).length : Int) = 2 := rfl
  rw [l2]
  obtain ⟨i0, g0, j0, p1, p2⟩ := V.at (i := 0) (e := [a]) rfl
  obtain ⟨i1, g1, j1, q1, q2⟩ := V.at (i := 1) (e := [b]) rfl
  have P1 : iadrA h 1 x (.int .i64 0) = some (.ptr i0 g0 j0 0) := p1 .i64
  have Q1 : iadrA h 1 x (.int .i64 1) = some (.ptr i1 g1 j1 0) := q1 .i64
  have P2 : loadA h false 1 (.ptr i0 g0 j0 0) = some a := p2 false 0 1
  have Q2 : loadA h false 1 (.ptr i1 g1 j1 0) = some b := q2 false 0 1
  -- the sizes
  rw [l39_8_s]; unfold b39_8
  simp only [binA_lss, optB_some]
  rw [condB_t (by decide), P1, optB_some, P2, optB_some, VA.len, optB_some, add64 (by omega) (by omega), optB_some, binA_lss, optB_some, condB_f (by simp), add64 (by decide) (by decide), optB_some]
  rw [l39_8_s]; unfold b39_8
  simp only [binA_lss, optB_some]
  have i1e : ((0 : Int) + 1) = 1 := rfl
  rw [i1e, condB_t (by decide), Q1, optB_some, Q2, optB_some, VB.len, optB_some, add64 (by omega) (by omega), optB_some, binA_lss, optB_some, condB_f (by simp; omega), add64 (by decide) (by decide), optB_some]
  rw [l39_8_s]; unfold b39_8
  simp only [binA_lss, optB_some]
  rw [condB_f (by decide)]
  unfold p39_27
  have hsum : ((0 : Int) + (A.length : Int) + (B.length : Int)) = ((A.length + B.length : Nat) : Int) := by omega
  rw [hsum]
  have hlen1 : lenA h 1 x = some (.int .i64 2) := V.len
  refine c51 (by omega) ?_ ?_
  · intro h0
    have hA : A = [] := List.length_eq_zero_iff.1 (by omega)
    have hB : B = [] := List.length_eq_zero_iff.1 (by omega)
    subst hA; subst hB
    rw [hlen1, optB_some, l39_33_s]; unfold b39_33
    simp only [binA_lss, optB_some]
    have ap : ∀ y, View h 3 y [] → appendA h 3 40 .nilSlc y = some (.nilSlc, h) := by
      intro y Vy
      simp only [appendA, show Nat.beq 3 0 = false from rfl, cond_false, Vy.src, appendNew]
    rw [condB_t (by decide), P1, optB_some, P2, optB_some, ap a VA, optP_some, add64 (by decide) (by decide), optB_some]
    rw [l39_33_s]; unfold b39_33
    simp only [binA_lss, optB_some]
    rw [i1e, condB_t (by decide), Q1, optB_some, Q2, optB_some, ap b VB, optP_some, add64 (by decide) (by decide), optB_some]
    rw [l39_33_s]; unfold b39_33
    simp only [binA_lss, optB_some]
    rw [condB_f (by decide)]
    exact k h _ (Ext.refl h) ho (Own.nil _ _ _)
  · intro hpos
    have e1 := ext_newRow ho (repl (A.length + B.length) [AV.str [], AV.int .i64 0, AV.str []]) 3
    have o1 := ok_newRow ho (repl (A.length + B.length) [AV.str [], AV.int .i64 0, AV.str []]) 3
    have r1 : (Ab.newRow h (repl (A.length + B.length) [AV.str [], AV.int .i64 0, AV.str []]) 3).row h.sz = some { es := repl (A.length + B.length) [AV.str [], AV.int .i64 0, AV.str []], sz := 3, g := 0, m := 0, rw := true } := by
      rw [AHeap.row_some]; exact get_push_same _ _
    have s1 : (Ab.newRow h (repl (A.length + B.length) [AV.str [], AV.int .i64 0, AV.str []]) 3).sz = h.sz + 1 := rfl
    generalize Ab.newRow h (repl (A.length + B.length) [AV.str [], AV.int .i64 0, AV.str []]) 3 = h1 at *
    rw [(V.ext e1).len, optB_some, l2, l39_33_s]; unfold b39_33
    simp only [binA_lss, optB_some]
    -- reading below the new row
    have rd : ∀ h', Ext h h' → iadrA h' 1 x (.int .i64 0) = some (.ptr i0 g0 j0 0) ∧ iadrA h' 1 x (.int .i64 1) = some (.ptr i1 g1 j1 0) ∧ loadA h' false 1 (.ptr i0 g0 j0 0) = some a ∧ loadA h' false 1 (.ptr i1 g1 j1 0) = some b := by
      intro h' e
      rcases V with ⟨hh, _⟩ | ⟨id, g, s, cap, ex, r, rfl, v2, v3, v4, v5, v6⟩
      · cases hh
      · have w2 := e.row v2
        have hrs : rowSz h id 1 = rowSz h' id 1 := by simp only [rowSz, v2, w2]
        have c1 : iadrA h' 1 (.slc id g s [[a], [b]].length cap ex) (.int .i64 0) = iadrA h 1 (.slc id g s [[a], [b]].length cap ex) (.int .i64 0) := by simp only [iadrA, hrs]
        have c2 : iadrA h' 1 (.slc id g s [[a], [b]].length cap ex) (.int .i64 1) = iadrA h 1 (.slc id g s [[a], [b]].length cap ex) (.int .i64 1) := by simp only [iadrA, hrs]
        refine ⟨c1.trans P1, c2.trans Q1, ?_, ?_⟩
        · have : i0 = id := by
            have h1 := P1
            simp only [iadrA] at h1
            split at h1
            · revert h1; cases (Nat.blt _ _ && rowSz h id 1) <;> intro h1 <;> cases h1; rfl
            · cases h1
          subst this
          have := P2
          simp only [loadA, v2] at this
          simp only [loadA, w2]; exact this
        · have : i1 = id := by
            have h1 := Q1
            simp only [iadrA] at h1
            split at h1
            · revert h1; cases (Nat.blt _ _ && rowSz h id 1) <;> intro h1 <;> cases h1; rfl
            · cases h1
          subst this
          have := Q2
          simp only [loadA, v2] at this
          simp only [loadA, w2]; exact this
    obtain ⟨a1, a2, a3, a4⟩ := rd h1 e1
    have f1 := app_fit (bytes := 40) (x := a) (new := A) (len := 0) (cap := A.length + B.length) r1 rfl rfl rfl (VA.ext e1).src (by omega) (by omega) (by omega)
    rw [condB_t (by decide), a1, optB_some, a3, optB_some, f1, optP_some, add64 (by decide) (by decide), optB_some]
    have hh2 : ∃ h2 r2, (if A = [] then h1 else h1.put h.sz (.row { es := lay (repl (A.length + B.length) [AV.str [], AV.int .i64 0, AV.str []]) 0 A, sz := 3, g := 0, m := 0, rw := true })) = h2 ∧ Ext h h2 ∧ h2.Ok ∧ h2.row h.sz = some r2 ∧ r2.rw = true ∧ r2.g = 0 ∧ r2.m = 0 ∧ r2.sz = 3 ∧ r2.es.take A.length = A ∧ r2.es.length = A.length + B.length := by
      by_cases hA : A = []
      · rw [if_pos hA]
        exact ⟨h1, _, rfl, e1, o1, r1, rfl, rfl, rfl, rfl, by rw [hA]; rfl, repl_len _ _⟩
      · rw [if_neg hA]
        refine ⟨_, _, rfl, ext_put e1 ho (Nat.le_refl _) _, o1.put (by omega) _, by rw [AHeap.row_some]; exact get_put_same _ _ _, rfl, rfl, rfl, rfl, ?_, ?_⟩
        · simp only [lay, List.take_zero, List.nil_append, Nat.zero_add]
          exact List.take_left
        · simp only
          rw [lay_len (by rw [repl_len]; omega), repl_len]
    obtain ⟨h2, r2, he2, e2, o2, t1, t2, t3, t4, t5, t6, t7⟩ := hh2
    have he2' : (if A = [] then h1 else h1.put h.sz (.row { ({ es := repl (A.length + B.length) [AV.str [], AV.int .i64 0, AV.str []], sz := 3, g := 0, m := 0, rw := true } : Row) with es := lay (repl (A.length + B.length) [AV.str [], AV.int .i64 0, AV.str []]) 0 A, m := 0 })) = h2 := he2
    rw [he2']
    rw [l39_33_s]; unfold b39_33
    simp only [binA_lss, optB_some]
    obtain ⟨c1, c2, c3, c4⟩ := rd h2 e2
    have f2 := app_fit (bytes := 40) (x := b) (new := B) (len := 0 + A.length) (cap := A.length + B.length) t1 t2 t3 t5 (VB.ext e2).src (by omega) (by omega) (by omega)
    rw [i1e, condB_t (by decide), c2, optB_some, c4, optB_some, f2, optP_some, add64 (by decide) (by decide), optB_some]
    rw [l39_33_s]; unfold b39_33
    simp only [binA_lss, optB_some]
    rw [condB_f (by decide)]
    by_cases hB : B = []
    · rw [if_pos hB]
      refine k h2 _ e2 o2 (.inr ⟨h.sz, r2, Nat.le_refl _, by simp [t3], t1, t2, by omega, t5, ?_⟩)
      subst hB
      rw [List.append_nil]
      have hle : r2.es.length ≤ A.length := by simp at t7; omega
      rw [List.take_of_length_le hle] at t6
      exact t6
    · rw [if_neg hB]
      refine k _ _ (ext_put e2 ho (Nat.le_refl _) _) (o2.put (by have := e2.1; have := o2.lt (AHeap.row_some.1 t1); omega) _) (.inr ⟨h.sz, { r2 with es := lay r2.es (0 + A.length) B, m := r2.g }, Nat.le_refl _, by simp [t3], ?_, t2, Nat.le_refl _, t5, ?_⟩)
      · rw [AHeap.row_some]; exact get_put_same _ _ _
      · simp only [lay, Nat.zero_add, t6]
        rw [List.drop_of_length_le (by omega), List.append_nil]

theorem c39 {n : Nat} {h : AHeap} {x a b : AV} {A B : List (List AV)} {K : Kont} (ho : h.Ok) (V : View h 1 x [[a], [b]]) (VA : View h 3 a A) (VB : View h 3 b B) (hsz : A.length + B.length < 1000000) (hn : 3 < n)
    (k : ∀ h' v, Ext h h' → h'.Ok → View h' 3 v (A ++ B) → K v h' = true) : callN E (n + 2) (.func 39) [x] h K = true :=
  c39o ho V VA VB hsz hn fun h' v e o O => k h' v e o O.view
end Go.Proofs.Ytjdpdjmmbajglaa
