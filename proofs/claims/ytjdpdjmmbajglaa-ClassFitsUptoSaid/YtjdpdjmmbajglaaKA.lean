/-
  Whether a class may be the next one: the whole test.
-/
import Derived.Test.YtjdpdjmmbajglaaK9
namespace Go.Proofs.Ytjdpdjmmbajglaa
open Go.Ab
set_option linter.unusedSimpArgs false
set_option linter.unusedVariables false

theorem FInv.putY {hb h : AHeap} {b mid vn vc q p y : Nat} {qc pc : List AV} {fs : List Fld} (k0 : hb.Ok) (I : FInv hb b mid vn vc q qc p pc fs h) (hy : mid ≠ y ∧ vn ≠ y ∧ vc ≠ y ∧ q ≠ y ∧ p ≠ y) (h1 : hb.sz ≤ y) (h2 : y < h.sz) (o : AObj) :
    FInv hb b mid vn vc q qc p pc fs (h.put y o) :=
  ⟨⟨ext_put I.k.ext k0 h1 _, I.k.ok.put h2 _, I.k.lo, I.k.n.other hy.2.1 _, I.k.c.other hy.2.2.1 _, I.k.m.other hy.1 _⟩, I.vq.other hy.2.2.2.1 _, I.vp.other hy.2.2.2.2 _, I.ne⟩

theorem has_fork {call : CallFn} {h : AHeap} {x : AV} {p : Nat} {s u : Str} {g : AV} {nm : Bool} {k : AV → AHeap → Bool} (V : Var h p [.str s, .str u, g]) (h0 : nm = false → k (.bool true) h = true) (h1 : nm = true → call (.func 19) [x, .str s] h k = true) :
    (optB (notA (.bool nm)) fun v5 => optB (grdO (wantV v5 false) (some x)) fun v6 => optB (grdO (wantV v5 false) (fadrA 0 (.ptr p 0 0 0))) fun v7 => optB (grdO (wantV v5 false) (loadA h false 1 v7)) fun v8 => grdC (wantV v5 false) (fun k => call (.func 19) [v6, v8] h k) h fun v9 h => optB (pickV v5 (AV.bool true) v9) fun v10 => k v10 h) = true := by
  cases nm with
  | false => exact h0 rfl
  | true =>
    have := h1 rfl
    simp only [notA_bool, Bool.not_true, optB_some, wantV_false, Bool.not_false, grdO_true, fadrA_ptr, Nat.zero_add, V.load, partA_false, nth_zero, grdC_true, pickV_false]
    exact this

theorem super_fork {call : CallFn} {h : AHeap} {x : AV} {p : Nat} {s u : Str} {g : AV} {b : Bool} {k : AV → AHeap → Bool} (V : Var h p [.str s, .str u, g]) (h0 : b = true → k (.bool true) h = true) (h1 : b = false → u = [] → k (.bool false) h = true) (h2 : b = false → u ≠ [] → call (.func 19) [x, .str u] h (fun v h => optB (notA v) fun w => k w h) = true) :
    (optB (grdO (wantV (.bool b) false) (fadrA 1 (.ptr p 0 0 0))) fun v11 => optB (grdO (wantV (.bool b) false) (loadA h false 1 v11)) fun v12 => optB (grdO (wantV (.bool b) false) (binA (BinOp.neq) v12 (AV.str []))) fun v13 => optB (grdO (wantV (.bool b) false) (some v13)) fun v14 => optB (grdO (wantV v14 true) (some x)) fun v15 => optB (grdO (wantV v14 true) (fadrA 1 (.ptr p 0 0 0))) fun v16 => optB (grdO (wantV v14 true) (loadA h false 1 v16)) fun v17 => grdC (wantV v14 true) (fun k => call (.func 19) [v15, v17] h k) h fun v18 h => optB (grdO (wantV v14 true) (notA v18)) fun v19 => optB (grdO (wantV (.bool b) false) (pickV v14 v19 (AV.bool false))) fun v20 => optB (pickV (.bool b) (AV.bool true) v20) fun v21 => k v21 h) = true := by
  cases b with
  | true => exact h0 rfl
  | false =>
    simp only [wantV_false, Bool.not_false, grdO_true, fadrA_ptr, optB_some, Nat.zero_add, V.load, partA_false, nth_zero, nth_succ, binA_sneq]
    by_cases hu : u = []
    · have := h1 rfl hu
      simp only [hu, decide_true, Bool.not_true, wantV_true, grdO_false, optB_some, grdC_false, pickV_false]
      exact this
    · have := h2 rfl hu
      simp only [hu, decide_false, Bool.not_false, wantV_true, grdO_true, optB_some, fadrA_ptr, Nat.zero_add, V.load, partA_false, nth_succ, nth_zero, grdC_true, pickV_true, pickV_false]
      exact this

/-- What is left of the test, where the class's name and its super's are well. -/
theorem rest30 {n : Nat} {h h1 : AHeap} {t va cf : AV} {l all : List Cls} {c : Cls} {K : Kont} (T : TableRep h t l) (A : Asc l) (ho : h.Ok) (C : CV h va all) (Vc : View h 3 cf (c.fields.map encF))
    (hn : l.length + 8 < n) (hna : all.length < n) (hnf : c.fields.length < n) (hU : (upF l c.super).length + c.fields.length < 1000000) (hUn : (upF l c.super).length < n) (hnb : n < lim) (hs : ∀ f ∈ c.fields, f.name.length ≤ n)
    (V1 : Var h1 h.sz [.str c.name, .str c.super, cf]) (e1 : Ext h h1) (o1 : h1.Ok) (s1 : h1.sz = h.sz + 1)
    (k : ∀ h', Ext h h' → h'.Ok → K (.bool (goF (names all) (upF l c.super) c.fields && decide ((upF l c.super).length + c.fields.length ≤ 62))) h' = true) : p30_10 (callN E (n + 4)) (n + 4) t va (.ptr h.sz 0 0 0) h1 K = true := by
  have T0 := T
  obtain ⟨id, lv, mt, rfl, V0, C0, M0⟩ := T
  unfold p30_10
  obtain ⟨m1, m2⟩ := strMap_new h1
  rw [m1, optP_some]
  have e2 := ext_push o1 (.map [] 0)
  have o2 := o1.push (.map [] 0)
  have s2 : (h1.push (.map [] 0)).sz = h.sz + 2 := by simp [s1]
  rw [s1] at m2 ⊢
  have V2 := V1.ext e2
  generalize h1.push (.map [] 0) = h2 at *
  rw [alloc_set (n := 1) rfl (by decide) rfl rfl rfl, s2]
  have o3 := ok_newRow o2 [(AV.map (h.sz + 1)).cells] 1
  have e3 := ext_newRow o2 [(AV.map (h.sz + 1)).cells] 1
  have W3 := var_new h2 [AV.map (h.sz + 1)]
  simp only [List.length_cons, List.length_nil, Nat.zero_add, s2] at W3
  have hcm : (AV.map (h.sz + 1)).cells = [AV.map (h.sz + 1)] := rfl
  rw [hcm] at o3 e3 ⊢
  have s3 : (Ab.newRow h2 [[AV.map (h.sz + 1)]] 1).sz = h.sz + 3 := by simp [s2]
  generalize Ab.newRow h2 [[AV.map (h.sz + 1)]] 1 = h3 at *
  rw [alloc_set (n := 1) rfl (by decide) rfl rfl rfl, s3]
  have o4 := ok_newRow o3 [(AV.int .i64 0).cells] 1
  have e4 := ext_newRow o3 [(AV.int .i64 0).cells] 1
  have W4 := var_new h3 [AV.int .i64 0]
  simp only [List.length_cons, List.length_nil, Nat.zero_add, s3] at W4
  have hci : (AV.int .i64 0).cells = [AV.int .i64 0] := rfl
  rw [hci] at o4 e4 ⊢
  have s4 : (Ab.newRow h3 [[AV.int .i64 0]] 1).sz = h.sz + 4 := by simp [s3]
  generalize Ab.newRow h3 [[AV.int .i64 0]] 1 = h4 at *
  have V4 := (V2.ext e3).ext e4
  rw [fadrA_ptr, optB_some, Nat.zero_add, V4.load, partA_false, nth_succ, nth_zero, optB_some]
  refine c38 ?_
  have o5 := ok_newRow o4 [[AV.ptr id 0 0 0]] 1
  have e5 := ext_newRow o4 [[AV.ptr id 0 0 0]] 1
  have P5 := var_new h4 [AV.ptr id 0 0 0]
  have o6 := ok_newRow o5 [[AV.str c.super]] 1
  have e6 := ext_newRow o5 [[AV.str c.super]] 1
  have P6 := var_new (Ab.newRow h4 [[AV.ptr id 0 0 0]] 1) [AV.str c.super]
  have s6 : (Ab.newRow (Ab.newRow h4 [[AV.ptr id 0 0 0]] 1) [[AV.str c.super]] 1).sz = h.sz + 6 := by simp [s4]
  simp only [List.length_cons, List.length_nil, Nat.zero_add] at P5 P6
  have P5' := P5.ext e6
  generalize Ab.newRow (Ab.newRow h4 [[AV.ptr id 0 0 0]] 1) [[AV.str c.super]] 1 = h6 at *
  simp only [newRow_sz, s4] at P5 P6 P5' ⊢
  have E6 : Ext h h6 := e1.trans (e2.trans (e3.trans (e4.trans (e5.trans e6))))
  have E24 : Ext h2 h6 := e3.trans (e4.trans (e5.trans e6))
  generalize hreg : mkR [(2, va), (4, AV.ptr h.sz 0 0 0), (7, AV.ptr (h.sz + 2) 0 0 0), (8, AV.ptr (h.sz + 3) 0 0 0), (40, AV.fn (AFn.func 50) [] [AV.ptr (h.sz + 4) 0 0 0, AV.ptr (h.sz + 4 + 1) 0 0 0])] = regs
  have e7 := ext_push o6 (Lp regs [41] c30_19 c30_20 .ready)
  obtain ⟨n, rfl⟩ : ∃ j, n = j + 1 := ⟨n - 1, by omega⟩
  have lo : h.sz ≤ h.sz ∧ h.sz ≤ h.sz + 1 ∧ h.sz ≤ h.sz + 2 ∧ h.sz ≤ h.sz + 3 ∧ h.sz + 1 ≠ h.sz + 2 ∧ h.sz + 1 ≠ h.sz + 3 ∧ h.sz + 2 ≠ h.sz + 3 := by omega
  refine rf_up (n := n + 4) (t := .ptr id 0 0 0) (l := l) (s := c.super) (hb := h) A T0 (by omega)
    (fun r h' => ∃ prev, upF l c.super = prev ++ r.flatMap Cls.fields ∧ FInv h h.sz (h.sz + 1) (h.sz + 2) (h.sz + 3) h.sz [.str c.name, .str c.super, cf] (h.sz + 4) [.ptr id 0 0 0] prev h' ∧ h'.get (h.sz + 6) = some (Lp regs [41] c30_19 c30_20 .ready) ∧ h.sz + 7 ≤ h'.sz)
    (fun x h' => False) (P6.ext e7) ?_ ?_ ?_ ?_ ?_
  · rintro r h' ⟨prev, i1, i2, i3, i4⟩
    exact ⟨i2.k.ext, i2.vp, by rw [s6]; exact i3⟩
  · refine ⟨[], by simp [upF], ⟨⟨E6.trans e7, o6.push _, lo, W3.ext ((e4.trans (e5.trans e6)).trans e7), W4.ext ((e5.trans e6).trans e7), ?_⟩, V4.ext ((e5.trans e6).trans e7), P5'.ext e7, by omega⟩, ?_, by simp [s6]⟩
    · have := m2.ext (E24.trans e7)
      have ec : cntAt [] = fun _ => none := by funext s; simp [cntAt, cnt]
      rw [ec]; exact this
    · rw [← s6]; exact get_push_same _ _
  · rintro d r h' f K' ⟨prev, i1, i2, i3, i4⟩ hf k1 _
    rw [s6]
    have hy := i3
    rw [← hreg] at hy
    refine y30_18_run (fun _ => rfl) hy ?_
    rw [hreg] at hy
    unfold y30_18
    rw [alloc_set (n := 3) rfl (by decide) rfl rfl (leaf3 hf.leaf)]
    have o8 := ok_newRow i2.k.ok [[AV.str d.name, AV.str d.super, f]] 3
    have e8 := ext_newRow i2.k.ok [[AV.str d.name, AV.str d.super, f]] 3
    have V8 := var_new h' [AV.str d.name, AV.str d.super, f]
    have hc : (AV.agg [AV.str d.name, AV.str d.super, f]).cells = [AV.str d.name, AV.str d.super, f] := rfl
    rw [hc]
    simp only [List.length_cons, List.length_nil, Nat.zero_add] at V8
    have s8 : (Ab.newRow h' [[AV.str d.name, AV.str d.super, f]] 3).sz = h'.sz + 1 := rfl
    generalize Ab.newRow h' [[AV.str d.name, AV.str d.super, f]] 3 = h8 at *
    have I8 := i2.grow e8 o8
    rw [busy_eq (e8.2 _ _ hy)]
    have V9 := V8.other (j := h.sz + 6) (by omega) (Lp regs [41] c30_19 c30_20 .busy)
    have I9 := I8.putY (y := h.sz + 6) ho (by omega) (by omega) (by omega) (Lp regs [41] c30_19 c30_20 .busy)
    have g9 := get_put_same h8 (h.sz + 6) (Lp regs [41] c30_19 c30_20 .busy)
    have s9 : (h8.put (h.sz + 6) (Lp regs [41] c30_19 c30_20 .busy)).sz = h'.sz + 1 := by simp [s8]
    generalize h8.put (h.sz + 6) (Lp regs [41] c30_19 c30_20 .busy) = h9 at *
    rw [fadrA_ptr, optB_some, Nat.zero_add, V9.load, partA_false, nth_succ, nth_succ, nth_zero, optB_some, (hf.ext I9.k.ext).len, optB_some, List.length_map]
    have hlen : prev.length + d.fields.length ≤ (upF l c.super).length := by rw [i1]; simp
    refine t30_24 (prev := prev) (fs := d.fields) (y := h.sz + 6) (mid := h.sz + 1) (vn := h.sz + 2) (vc := h.sz + 3) (b := h.sz) (q := h.sz) (p := h.sz + 4) (lp := Lp regs [41] c30_19 c30_20 .busy) ho hf (by omega) (by omega) ?_ (n + 3) 0 h9 (by simpa using I9) g9 (by omega) (by omega)
    intro h10 I10 g10
    rw [end_normal g10]
    have hlt := I10.k.lt
    have hsz10 : h.sz + 6 < h10.sz := I10.k.ok.lt g10
    refine k1 _ ⟨prev ++ d.fields, by rw [i1]; simp, I10.putY ho (by omega) (by omega) hsz10 _, get_put_same _ _ _, by simp; omega⟩
  · rintro h' ⟨prev, i1, i2, i3, i4⟩
    rw [s6]
    simp only [List.flatMap_nil, List.append_nil] at i1
    subst i1
    have I2 := i2.putY (y := h.sz + 6) ho (by omega) (by omega) (by omega) (Lp regs [41] c30_19 c30_20 .exh)
    unfold p30_39
    rw [fadrA_ptr, optB_some, Nat.zero_add, I2.vq.load, partA_false, nth_succ, nth_succ, nth_zero, optB_some, (Vc.ext I2.k.ext).len, optB_some, List.length_map]
    exact t30_43 (n := n + 2) ho Vc C hU (by omega) (by omega) (fun f hf => ⟨by have := hs f hf; omega, by have := hs f hf; omega⟩) k (n + 5) 0 _ (by simpa using I2) (by omega) (by omega) (by simp)
  · intro x h' hf; exact hf.elim

theorem c30 {n : Nat} {h : AHeap} {t va cf : AV} {l all : List Cls} {c : Cls} {K : Kont} (T : TableRep h t l) (A : Asc l) (ho : h.Ok) (C : CV h va all) (Vc : View h 3 cf (c.fields.map encF))
    (hn : l.length + 8 < n) (hna : all.length < n) (hnf : c.fields.length < n) (hU : (upF l c.super).length + c.fields.length < 1000000) (hUn : (upF l c.super).length < n) (hnb : n < lim)
    (hs0 : c.name.length ≤ n) (hs : ∀ f ∈ c.fields, f.name.length ≤ n)
    (k : ∀ h', Ext h h' → h'.Ok → K (.bool (fitsB l c (names all))) h' = true) : callN E (n + 5) (.func 30) [t, .agg [.str c.name, .str c.super, cf], va] h K = true := by
  have T0 := T
  obtain ⟨id, lv, mt, rfl, V0, C0, M0⟩ := T
  apply d30
  unfold s30
  rw [box_eq (n := 3) rfl (by decide) (leaf3 Vc.leaf), optP_some]
  have hc : (AV.agg [AV.str c.name, AV.str c.super, cf]).cells = [AV.str c.name, AV.str c.super, cf] := rfl
  rw [hc]
  have e1 := ext_newRow ho [[AV.str c.name, AV.str c.super, cf]] 3
  have o1 := ok_newRow ho [[AV.str c.name, AV.str c.super, cf]] 3
  have V1 := var_new h [AV.str c.name, AV.str c.super, cf]
  simp only [List.length_cons, List.length_nil, Nat.zero_add] at V1
  have s1 : (Ab.newRow h [[AV.str c.name, AV.str c.super, cf]] 3).sz = h.sz + 1 := rfl
  generalize Ab.newRow h [[AV.str c.name, AV.str c.super, cf]] 3 = h1 at *
  rw [fadrA_ptr, optB_some, Nat.zero_add, V1.load, partA_false, nth_zero, optB_some]
  refine c43 (by omega) (by omega) ?_
  have kbad : ∀ h', fitsB l c (names all) = false → Ext h h' → h'.Ok → K (.bool false) h' = true := by
    intro h' hf e o
    have := k h' e o
    rw [hf] at this; exact this
  refine has_fork V1 ?_ ?_
  · intro hnm
    refine super_fork V1 ?_ (fun hh => by cases hh) (fun hh => by cases hh)
    intro _
    rw [condB_true]
    exact kbad h1 (by simp only [fitsB, hnm, Bool.false_and]) e1 o1
  · intro hnm
    refine c19 (T0.ext e1) ?_
    refine super_fork V1 ?_ ?_ ?_
    · intro hh
      rw [condB_true]
      exact kbad h1 (by simp only [fitsB, hh, Bool.not_true, Bool.and_false, Bool.false_and]) e1 o1
    all_goals
      intro hh hu
    rotate_left
    · refine c19 (T0.ext e1) ?_
      rw [notA_bool, optB_some]
      cases hsup : (idx c.super (names l)).isSome with
      | false =>
        rw [Bool.not_false, condB_true]
        exact kbad h1 (by simp only [fitsB, hnm, hh, hsup, decide_eq_false hu, Bool.or_self, Bool.and_false, Bool.false_and]) e1 o1
      | true =>
        rw [Bool.not_true]
        have hgood : fitsB l c (names all) = (goF (names all) (upF l c.super) c.fields && decide ((upF l c.super).length + c.fields.length ≤ 62)) := by
          simp only [fitsB, hnm, hh, hsup, Bool.not_false, Bool.or_true, Bool.and_true, Bool.true_and]
        rw [condB_false]
        exact rest30 T0 A ho C Vc hn hna hnf hU hUn hnb hs V1 e1 o1 s1 (fun h' e o => by have := k h' e o; rw [hgood] at this; exact this)
    · have hgood : fitsB l c (names all) = (goF (names all) (upF l c.super) c.fields && decide ((upF l c.super).length + c.fields.length ≤ 62)) := by
        simp only [fitsB, hnm, hh, hu, decide_true, Bool.not_false, Bool.true_or, Bool.and_true, Bool.true_and]
      rw [condB_false]
      exact rest30 T0 A ho C Vc hn hna hnf hU hUn hnb hs V1 e1 o1 s1 (fun h' e o => by have := k h' e o; rw [hgood] at this; exact this)
end Go.Proofs.Ytjdpdjmmbajglaa
