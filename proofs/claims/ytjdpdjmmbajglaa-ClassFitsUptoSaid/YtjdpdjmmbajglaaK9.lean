/-
  Whether a class may be the next one: the program's loops.
-/
import Derived.Test.YtjdpdjmmbajglaaK8
namespace Go.Proofs.Ytjdpdjmmbajglaa
open Go.Ab
set_option linter.unusedSimpArgs false
set_option linter.unusedVariables false

/-- What stands while the fields are gone over: the counts; a variable, a class's copy, a loop's record. -/
structure FInv (hb : AHeap) (b mid vn vc : Nat) (q : Nat) (qc : List AV) (p : Nat) (pc : List AV) (fs : List Fld) (h : AHeap) : Prop where
  k : Counts hb b mid vn vc fs h
  vq : Var h q qc
  vp : Var h p pc
  ne : q ≠ mid ∧ q ≠ vn ∧ q ≠ vc ∧ p ≠ mid ∧ p ≠ vn ∧ p ≠ vc

theorem FInv.grow {hb h h' : AHeap} {b mid vn vc q p : Nat} {qc pc : List AV} {fs : List Fld} (I : FInv hb b mid vn vc q qc p pc fs h) (e : Ext h h') (o : h'.Ok) : FInv hb b mid vn vc q qc p pc fs h' :=
  ⟨I.k.grow e o, I.vq.ext e, I.vp.ext e, I.ne⟩

/-- A field's name is counted, then the field. -/
theorem FInv.name {hb h : AHeap} {b mid vn vc q p : Nat} {qc pc : List AV} {fs : List Fld} (k0 : hb.Ok) (I : FInv hb b mid vn vc q qc p pc fs h) (f : Fld) (hlt : fs.length < lim) :
    ∃ h', mupdA h (.leaf .str) (.map mid) (.str f.name) (.int .i64 ((cnt f.name fs + 1 : Nat) : Int)) = some h' ∧ h'.sz = h.sz ∧ h'.Ok ∧ Ext hb h' ∧ Var h' vn [.map mid] ∧ Var h' vc [.int .i64 (fs.length : Int)] ∧ StrMap h' mid (cntAt (fs ++ [f])) ∧ Var h' q qc ∧ Var h' p pc ∧
      (∀ j o, j ≠ mid → h.get j = some o → h'.get j = some o) := by
  obtain ⟨h', a1, a2, a3, a4, a5, a6, a7, a8⟩ := I.k.name k0 f hlt
  obtain ⟨n1, n2, n3, n4, n5, n6⟩ := I.ne
  refine ⟨h', a1, a2, a3, a4, a5, a6, a7, ?_, ?_, a8⟩
  · show AHeap.row _ _ = _
    rw [AHeap.row_some]; exact a8 _ _ n1 (AHeap.row_some.1 I.vq)
  · show AHeap.row _ _ = _
    rw [AHeap.row_some]; exact a8 _ _ n4 (AHeap.row_some.1 I.vp)

theorem FInv.done {hb h : AHeap} {b mid vn vc q p : Nat} {qc pc : List AV} {fs : List Fld} (k0 : hb.Ok) {f : Fld} (lo : hb.sz ≤ b ∧ b ≤ mid ∧ b ≤ vn ∧ b ≤ vc ∧ mid ≠ vn ∧ mid ≠ vc ∧ vn ≠ vc) (ne : q ≠ mid ∧ q ≠ vn ∧ q ≠ vc ∧ p ≠ mid ∧ p ≠ vn ∧ p ≠ vc)
    (o : h.Ok) (e : Ext hb h) (n : Var h vn [.map mid]) (c : Var h vc [.int .i64 (fs.length : Int)]) (m : StrMap h mid (cntAt (fs ++ [f]))) (Q : Var h q qc) (Pp : Var h p pc) :
    FInv hb b mid vn vc q qc p pc (fs ++ [f]) (h.put vc (.row (VRow [.int .i64 ((fs.length + 1 : Nat) : Int)]))) := by
  obtain ⟨a0, a1, a2, a3, a4, a5, a6⟩ := lo
  obtain ⟨n1, n2, n3, n4, n5, n6⟩ := ne
  have hv := c.lt o
  refine ⟨⟨ext_put e k0 (by omega) _, o.put hv _, ⟨a0, a1, a2, a3, a4, a5, a6⟩, n.other a6 _, ?_, m.other a5 _⟩, Q.other n3 _, Pp.other n6 _, ⟨n1, n2, n3, n4, n5, n6⟩⟩
  have := var_put (h := h) vc [AV.int .i64 ((fs.length + 1 : Nat) : Int)]
  simpa using this

theorem lk (h : AHeap) (mid : Nat) (fs : List Fld) (M : StrMap h mid (cntAt fs)) (s : Str) : lookA h (.leaf .str) false (.int .i64 0) (.map mid) (.str s) = some (.int .i64 (cnt s fs : Int)) := by
  rw [M.look, cntAt_get]

theorem encF_alloc {h : AHeap} {f : Fld} {k : Kont} : (optP (allocV h [AV.str [], AV.int .i64 0, AV.str []]) fun p h => optP (unit (storeA h 3 p (.agg (encF f)))) fun _ h => k p h) = k (.ptr h.sz 0 0 0) (Ab.newRow h [encF f] 3) :=
  alloc_set rfl (by decide) rfl rfl (encF_leaf f)

theorem t30_24 {n : Nat} {hb : AHeap} {b mid vn vc q p y : Nat} {qc pc : List AV} {f : AV} {fs prev : List Fld} {lp : AObj} {K : Kont} (k0 : hb.Ok) (V : View hb 3 f (fs.map encF)) (hl : prev.length + fs.length < 1000000) (hy : y ≠ mid ∧ y ≠ vc)
    (k : ∀ h', FInv hb b mid vn vc q qc p pc (prev ++ fs) h' → h'.get y = some lp → endY y K .normal h' = true) : ∀ (m i : Nat) (h : AHeap), FInv hb b mid vn vc q qc p pc (prev ++ fs.take i) h → h.get y = some lp → i ≤ fs.length → fs.length - i < m →
    l30_24 (callN E n) n y m (.ptr vn 0 0 0) (.ptr vc 0 0 0) f (.int .i64 (fs.length : Int)) (.int .i64 (i : Int)) h K = true := by
  intro m
  induction m with
  | zero => intro i h _ _ _ hm; omega
  | succ m ih =>
    intro i h I hg hi hm
    rw [l30_24_s]
    unfold b30_24
    by_cases hlt : i < fs.length
    · have he : (fs.map encF)[i]? = some (encF fs[i]) := by simp [hlt]
      obtain ⟨id, g, j, p1, p2⟩ := (V.ext I.k.ext).at he
      have hp : partA true 0 3 (encF fs[i]) = some (.agg (encF fs[i])) := rfl
      rw [binA_lss, optB_some, condB_t (by simpa using hlt), p1, optB_some, p2, hp, optB_some, encF_alloc]
      have e1 := ext_newRow I.k.ok [encF fs[i]] 3
      have o1 := ok_newRow I.k.ok [encF fs[i]] 3
      have I1 := I.grow e1 o1
      have V1 := var_new h (encF fs[i])
      have g1 := e1.2 _ _ hg
      have hl3 : (encF fs[i]).length = 3 := rfl
      rw [hl3] at V1
      generalize Ab.newRow h [encF fs[i]] 3 = h1 at *
      have hlen : (prev ++ fs.take i).length = prev.length + i := by simp; omega
      have hbig : (prev ++ fs.take i).length < lim := by rw [hlen]; unfold lim; omega
      have hcl : cnt fs[i].name (prev ++ fs.take i) < lim := Nat.lt_of_le_of_lt (cnt_le _ _) hbig
      simp only [I1.k.n.load, partA_false, nth_zero, optB_some, fadrA_ptr, Nat.zero_add, V1.load]
      have hnm : nth (encF fs[i]) 0 = some (.str fs[i].name) := rfl
      rw [hnm, optB_some, lk _ _ _ I1.k.m, optB_some, inc64 hcl, optB_some]
      obtain ⟨h2, u1, u2, u3, u4, u5, u6, u7, u8, u9, u10⟩ := I1.name k0 fs[i] hbig
      rw [u1, unit, optP_some, u6.load, partA_false, nth_zero, optB_some, inc64 hbig, optB_some, bump u6 hbig, unit, optP_some, inc64 (by unfold lim; omega), optB_some]
      have I3 := FInv.done k0 I.k.lo I.ne u3 u4 u5 u6 u7 u8 u9
      refine ih (i + 1) _ ?_ ?_ (by omega) (by omega)
      · have : fs.take (i + 1) = fs.take i ++ [fs[i]] := by rw [List.take_succ_eq_append_getElem hlt]
        rw [this, ← List.append_assoc]
        exact I3
      · rw [get_put_ne hy.2]; exact u10 _ _ hy.1 g1
    · have : fs.take i = fs := List.take_of_length_le (by omega)
      rw [this] at I
      rw [binA_lss, optB_some, condB_f (by simpa using hlt)]
      exact k h I hg

theorem ref_fork {call : CallFn} {h : AHeap} {x f : AV} {d : Bool} {k : AV → AHeap → Bool} (Q : AHeap → Prop) (rest : ∀ h2, Q h2 → k (.bool false) h2 = true)
    (ht : d = true → (∀ h2, Q h2 → k (.bool false) h2 = true) → call (.func 44) [x, f] h (fun v h => optB (notA v) fun w => k w h) = true) (hf : d = false → Q h) :
    (optB (grdO (wantV (.bool d) true) (some x)) fun v81 => optB (grdO (wantV (.bool d) true) (some f)) fun v82 => grdC (wantV (.bool d) true) (fun k => call (.func 44) [v81, v82] h k) h fun v83 h => optB (grdO (wantV (.bool d) true) (notA v83)) fun v84 => optB (pickV (.bool d) v84 (AV.bool false)) fun v85 => k v85 h) = true := by
  cases d with
  | true => exact ht rfl rest
  | false => exact rest h (hf rfl)

theorem t30_43 {n : Nat} {hb : AHeap} {b mid vn vc q p : Nat} {qc pc : List AV} {f va : AV} {all : List Cls} {fs prev : List Fld} {K : Kont} (k0 : hb.Ok) (V : View hb 3 f (fs.map encF)) (C : CV hb va all) (hl : prev.length + fs.length < 1000000) (hla : all.length < n) (hla2 : all.length < lim)
    (hs : ∀ f ∈ fs, f.name.length ≤ n ∧ f.name.length < lim) (k : ∀ h', Ext hb h' → h'.Ok → K (.bool (goF (names all) prev fs && decide (prev.length + fs.length ≤ 62))) h' = true) : ∀ (m i : Nat) (h : AHeap), FInv hb b mid vn vc q qc p pc (prev ++ fs.take i) h → i ≤ fs.length → fs.length - i < m →
    goF (names all) prev fs = goF (names all) (prev ++ fs.take i) (fs.drop i) →
    l30_43 (callN E (n + 3)) (n + 3) m va (.ptr vn 0 0 0) (.ptr vc 0 0 0) f (.int .i64 (fs.length : Int)) (.int .i64 (i : Int)) h K = true := by
  intro m
  induction m with
  | zero => intro i h _ _ hm; omega
  | succ m ih =>
    intro i h I hi hm hgo
    rw [l30_43_s]
    unfold b30_43
    by_cases hlt : i < fs.length
    · have hd : fs.drop i = fs[i] :: fs.drop (i + 1) := List.drop_eq_getElem_cons hlt
      have he : (fs.map encF)[i]? = some (encF fs[i]) := by simp [hlt]
      obtain ⟨id, g, j, p1, p2⟩ := (V.ext I.k.ext).at he
      have hp : partA true 0 3 (encF fs[i]) = some (.agg (encF fs[i])) := rfl
      rw [binA_lss, optB_some, condB_t (by simpa using hlt), p1, optB_some, p2, hp, optB_some, encF_alloc]
      have e1 := ext_newRow I.k.ok [encF fs[i]] 3
      have o1 := ok_newRow I.k.ok [encF fs[i]] 3
      have I1 := I.grow e1 o1
      have V1 := var_new h (encF fs[i])
      have hl3 : (encF fs[i]).length = 3 := rfl
      rw [hl3] at V1
      generalize Ab.newRow h [encF fs[i]] 3 = h1 at *
      have hlen : (prev ++ fs.take i).length = prev.length + i := by simp; omega
      have hbig : (prev ++ fs.take i).length < lim := by rw [hlen]; unfold lim; omega
      have hcl : cnt fs[i].name (prev ++ fs.take i) < lim := Nat.lt_of_le_of_lt (cnt_le _ _) hbig
      have hcl1 : cnt fs[i].name (prev ++ fs.take i) ≤ 1000000 := Nat.le_trans (cnt_le _ _) (by rw [hlen]; omega)
      have hnm : nth (encF fs[i]) 0 = some (.str fs[i].name) := rfl
      have hty : nth (encF fs[i]) 1 = some (.int .i64 fs[i].ty) := rfl
      have hbad : fldOk (names all) fs[i] = false ∨ ¬ cnt fs[i].name (prev ++ fs.take i) = 0 → goF (names all) prev fs = false := by
        intro hh
        rw [hgo, hd, goF]
        rcases hh with hh | hh
        · rw [hh]; rfl
        · rw [decide_eq_false hh]; simp
      have kbad : ∀ h', goF (names all) prev fs = false → Ext hb h' → h'.Ok → K (.bool false) h' = true := by
        intro h' hg e o
        have := k h' e o
        rw [hg, Bool.false_and] at this
        exact this
      rw [fadrA_ptr, optB_some, Nat.zero_add, V1.load, partA_false, hnm, optB_some]
      have hsi := hs fs[i] (List.getElem_mem hlt)
      refine c43 (by omega) hsi.2 ?_
      rw [field_chain h1 h.sz fs[i] V1]
      cases hfc : (isName fs[i].name && decide (0 ≤ fs[i].ty) && decide (fs[i].ty ≤ 5) && (decide (fs[i].ty = 5) == !decide (fs[i].cls = []))) with
      | false =>
        rw [condB_t (show (!false) = true from rfl)]
        exact kbad h1 (hbad (.inl (by simp only [fldOk, hfc, Bool.false_and]))) I1.k.ext o1
      | true =>
        rw [condB_f (show (!true) = false from rfl)]
        rw [fadrA_ptr, optB_some, Nat.zero_add, V1.load, partA_false, hty, optB_some, binA_eql, optB_some]
        have hfc' : fldOk (names all) fs[i] = (!decide (fs[i].ty = 5) || (idx fs[i].cls (names all)).isSome) := by
          simp only [fldOk, hfc, Bool.true_and]
        refine ref_fork (fun h2 => Ext h1 h2 ∧ h2.Ok ∧ fldOk (names all) fs[i] = true) ?_ ?_ ?_
        · rintro h2 ⟨e2, o2, hok⟩
          rw [condB_false]
          have I2 := I1.grow e2 o2
          have V2 := V1.ext e2
          simp only [I2.k.n.load, partA_false, nth_zero, optB_some, fadrA_ptr, Nat.zero_add, V2.load]
          rw [hnm, optB_some, lk _ _ _ I2.k.m, optB_some, inc64 hcl, optB_some]
          obtain ⟨h3, u1, u2, u3, u4, u5, u6, u7, u8, u9, u10⟩ := I2.name k0 fs[i] hbig
          have V3 : Var h3 h.sz (encF fs[i]) := by
            show AHeap.row _ _ = _
            rw [AHeap.row_some]
            refine u10 _ _ ?_ (AHeap.row_some.1 V2)
            have := I.k.lt.1
            omega
          rw [u1, unit, optP_some, u5.load, partA_false, nth_zero, optB_some, V3.load, partA_false, hnm, optB_some, lk _ _ _ u7, optB_some, binA_gtr, optB_some]
          have hc1 : cnt fs[i].name ((prev ++ fs.take i) ++ [fs[i]]) = cnt fs[i].name (prev ++ fs.take i) + 1 := by
            rw [cnt_append, cnt_one, if_pos rfl]
          rw [hc1]
          by_cases hz : cnt fs[i].name (prev ++ fs.take i) = 0
          · rw [hz, condB_f (by decide), u6.load, partA_false, nth_zero, optB_some, inc64 hbig, optB_some, bump u6 hbig, unit, optP_some, inc64 (by unfold lim; omega), optB_some]
            have I4 := FInv.done k0 I.k.lo I.ne u3 u4 u5 u6 u7 u8 u9
            have htk : fs.take (i + 1) = fs.take i ++ [fs[i]] := by rw [List.take_succ_eq_append_getElem hlt]
            refine ih (i + 1) _ ?_ (by omega) (by omega) ?_
            · rw [htk, ← List.append_assoc]; exact I4
            · rw [hgo, hd, goF, hok, decide_eq_true hz, htk, ← List.append_assoc]; rfl
          · rw [condB_t (decide_eq_true (by omega))]
            exact kbad h3 (hbad (.inr hz)) u4 u3
        · intro h5 rest
          refine c44 o1 (C.ext I1.k.ext) V1 hla2 hla ?_
          intro h2 e2 o2
          rw [notA_bool, optB_some]
          cases hex : (idx fs[i].cls (names all)).isSome with
          | false =>
            rw [condB_t (show (!false) = true from rfl)]
            exact kbad h2 (hbad (.inl (by rw [hfc', hex, h5]; rfl))) (I1.k.ext.trans e2) o2
          | true => exact rest h2 ⟨e2, o2, by rw [hfc', hex]; simp⟩
        · intro h5
          exact ⟨Ext.refl h1, o1, by rw [hfc', h5]; rfl⟩
    · have : fs.take i = fs := List.take_of_length_le (by omega)
      rw [this] at I
      have hd : fs.drop i = [] := List.drop_of_length_le (by omega)
      rw [hd, goF] at hgo
      rw [binA_lss, optB_some, condB_f (by simpa using hlt)]
      unfold p30_82
      rw [I.k.c.load, partA_false, nth_zero, optB_some, binA_leq, optB_some]
      have := k h I.k.ext I.k.ok
      rw [hgo, Bool.true_and] at this
      have e : decide (((prev ++ fs).length : Int) ≤ 62) = decide (prev.length + fs.length ≤ 62) := by
        congr 1; apply propext; simp; omega
      rw [e]; exact this
end Go.Proofs.Ytjdpdjmmbajglaa
