/-
  A table is made: all classes, one after the other.
-/
import Derived.Test.YtjdpdjmmbajglaaKB
namespace Go.Proofs.Ytjdpdjmmbajglaa
open Go.Ab
set_option linter.unusedSimpArgs false
set_option linter.unusedVariables false

/-- Rows of three cells are kept. -/
def Rows3 (h h' : AHeap) : Prop := ∀ j r, h.row j = some r → r.sz = 3 → h'.row j = some r
theorem Rows3.of_ext {h h' : AHeap} (e : Ext h h') : Rows3 h h' := fun _ _ hr _ => e.row hr
theorem Rows3.trans {a b c : AHeap} (x : Rows3 a b) (y : Rows3 b c) : Rows3 a c := fun j r hr hs => y j r (x j r hr hs) hs
theorem Rows3.put {h h' : AHeap} (x : Rows3 h h') {id : Nat} (hid : ∀ r, h.row id = some r → r.sz ≠ 3) (o : AObj) : Rows3 h (h'.put id o) := by
  intro j r hr hs
  have hne : j ≠ id := fun e => hid r (by rw [← e]; exact hr) hs
  have := x j r hr hs
  rw [AHeap.row_some] at this ⊢
  rw [AHeap.get_put, if_neg hne]; exact this
theorem _root_.Go.Ab.View.rows {h h' : AHeap} {v : AV} {es : List (List AV)} (V : View h 3 v es) (x : Rows3 h h') : View h' 3 v es := by
  rcases V with V | ⟨i', g', s', cp, ex, rr, w1, w2, w3, w4, w5⟩
  · exact .inl V
  · exact .inr ⟨i', g', s', cp, ex, rr, w1, x _ _ w2 w4, w3, w4, w5⟩
theorem _root_.Go.Ab.Own.rows {b : Nat} {h h' : AHeap} {v : AV} {es : List (List AV)} (V : Own b h 3 v es) (x : Rows3 h h') : Own b h' 3 v es := by
  rcases V with V | ⟨id, r, w1, w2, w3, w4, w5, w6, w7⟩
  · exact .inl V
  · exact .inr ⟨id, r, w1, w2, x _ _ w3 w6, w4, w5, w6, w7⟩
theorem _root_.Go.Ab.View.put' {h : AHeap} {n : Nat} {v : AV} {es : List (List AV)} (V : View h n v es) {id : Nat} (hid : ∀ i g s l c ex, v = .slc i g s l c ex → i ≠ id) (o : AObj) : View (h.put id o) n v es := by
  rcases V with V | ⟨i', g', s', cp, ex, rr, w1, w2, w3, w4, w5⟩
  · exact .inl V
  · refine .inr ⟨i', g', s', cp, ex, rr, w1, ?_, w3, w4, w5⟩
    have hne : i' ≠ id := hid _ _ _ _ _ _ w1
    rw [AHeap.row_some] at w2 ⊢
    rw [AHeap.get_put, if_neg hne]; exact w2
theorem _root_.Go.Ab.Own.row_ne {b : Nat} {h : AHeap} {v : AV} {es : List (List AV)} (O : Own b h 3 v es) {j : Nat} {o : AObj} (hj : h.get j = some o) (hne : ∀ r, o = .row r → r.sz ≠ 3) : ∀ id g s l c ex, v = .slc id g s l c ex → j ≠ id := by
  intro id g s l c ex hv hjd
  rcases O with ⟨rfl, _⟩ | ⟨id', r, w1, rfl, w3, w4, w5, w6, w7⟩
  · cases hv
  · cases hv
    subst hjd
    rw [AHeap.row_some, hj] at w3
    cases w3
    exact hne r rfl w6
theorem _root_.Go.Ab.Own.same {b : Nat} {h : AHeap} {v : AV} {es : List (List AV)} (O : Own b h 3 v es) : AV.same v v = true := by
  rcases O with ⟨rfl, _⟩ | ⟨id', r, w1, rfl, _⟩
  · rfl
  · simp [AV.same]

theorem new_fork {call : CallFn} {h : AHeap} {t v : AV} {q : Nat} {s u : Str} {g : AV} {b : Bool} {k : AV → AHeap → Bool} (V : Var h q [.str s, .str u, g]) (h0 : b = true → k (.bool true) h = true) (h1 : b = false → call (.func 30) [t, .agg [.str s, .str u, g], v] h (fun w h => optB (notA w) fun x => k x h) = true) :
    (optB (grdO (wantV (.bool b) false) (some t)) fun v16 => optB (grdO (wantV (.bool b) false) (loadA h true 3 (.ptr q 0 0 0))) fun v17 => optB (grdO (wantV (.bool b) false) (some v)) fun v18 => grdC (wantV (.bool b) false) (fun k => call (.func 30) [v16, v17, v18] h k) h fun v19 h => optB (grdO (wantV (.bool b) false) (notA v19)) fun v20 => optB (pickV (.bool b) (AV.bool true) v20) fun v21 => k v21 h) = true := by
  cases b with
  | true => exact h0 rfl
  | false =>
    have := h1 rfl
    have hl : loadA h true 3 (.ptr q 0 0 0) = some (.agg [.str s, .str u, g]) := by rw [V.load]; rfl
    simp only [wantV_false, Bool.not_false, grdO_true, optB_some, hl, grdC_true, pickV_false]
    exact this

def idxM (pre : List Cls) (s : Str) : Option AV := (idx s (names pre)).map fun i => .int .i64 (i : Int)

/-- No slice that lies below b. -/
def VAt (b : Nat) (v : AV) : Prop := ∀ id g s l c ex, v = .slc id g s l c ex → b ≤ id
def RClsAt (b : Nat) (h : AHeap) (a : List AV) (c : Cls) : Prop := ∃ v, a = [.str c.name, .str c.super, v] ∧ View h 3 v (c.fields.map encF) ∧ VAt b v
theorem RClsAt.cls {b : Nat} {h : AHeap} {a : List AV} {c : Cls} (R : RClsAt b h a c) : RCls h a c := let ⟨v, h1, h2, _⟩ := R; ⟨v, h1, h2⟩
theorem _root_.Go.Ab.Own.at_ {b n : Nat} {h : AHeap} {v : AV} {es : List (List AV)} (O : Own b h n v es) : VAt b v := by
  intro id g s l c ex hv
  rcases O with ⟨rfl, _⟩ | ⟨id', r, w1, rfl, _⟩
  · cases hv
  · cases hv; exact w1

/-- A table that lies at b and above. -/
def TabAt (b : Nat) (h : AHeap) (t : AV) (l : List Cls) : Prop :=
  ∃ id lv mid es, t = .ptr id 0 0 0 ∧ b ≤ id ∧ b ≤ mid ∧ Var h id [lv, .map mid] ∧ View h 3 lv es ∧ VAt b lv ∧ All2 (RClsAt b h) es l ∧ StrMap h mid (fun s => (idx s (names l)).map fun i => .int .i64 (i : Int))

theorem TabAt.rep {b : Nat} {h : AHeap} {t : AV} {l : List Cls} (T : TabAt b h t l) : TableRep h t l :=
  let ⟨id, lv, mid, es, h1, _, _, h4, h5, _, h7, h8⟩ := T; ⟨id, lv, mid, h1, h4, ⟨es, h5, h7.mono fun _ _ r => r.cls⟩, h8⟩

theorem _root_.Go.Ab.View.keep {b n : Nat} {h h' : AHeap} {v : AV} {es : List (List AV)} (V : View h n v es) (a : VAt b v) (k : ∀ j o, b ≤ j → h.get j = some o → h'.get j = some o) : View h' n v es := by
  rcases V with V | ⟨id, g, s, cap, ex, r, h1, h2, h3⟩
  · exact .inl V
  · exact .inr ⟨id, g, s, cap, ex, r, h1, AHeap.row_some.2 (k _ _ (a _ _ _ _ _ _ h1) (AHeap.row_some.1 h2)), h3⟩

theorem TabAt.keep {b : Nat} {h h' : AHeap} {t : AV} {l : List Cls} (T : TabAt b h t l) (k : ∀ j o, b ≤ j → h.get j = some o → h'.get j = some o) : TabAt b h' t l := by
  obtain ⟨id, lv, mid, es, h1, h2, h3, h4, h5, h6, h7, es', c, m1, m2⟩ := T
  refine ⟨id, lv, mid, es, h1, h2, h3, AHeap.row_some.2 (k _ _ h2 (AHeap.row_some.1 h4)), h5.keep h6 k, h6, h7.mono ?_, es', c, k _ _ h3 m1, m2⟩
  rintro a c ⟨v, r1, r2, r3⟩
  exact ⟨v, r1, r2.keep r3 k, r3⟩

structure NInv (h0 : AHeap) (t mid : Nat) (pre : List Cls) (h : AHeap) : Prop where
  ext : Ext h0 h
  ok : h.Ok
  v : ∃ lv es, Var h t [lv, .map mid] ∧ Own h0.sz h 3 lv es ∧ All2 (RClsAt h0.sz h) es pre
  m : StrMap h mid (idxM pre)
  lo : h0.sz ≤ t ∧ h0.sz ≤ mid ∧ t ≠ mid

theorem NInv.table {h0 h : AHeap} {t mid : Nat} {pre : List Cls} (I : NInv h0 t mid pre h) : TableRep h (.ptr t 0 0 0) pre := by
  obtain ⟨lv, es, v1, v2, v3⟩ := I.v
  exact ⟨t, lv, mid, rfl, v1, ⟨es, v2.view, v3.mono fun _ _ r => r.cls⟩, I.m⟩
theorem NInv.tabAt {h0 h : AHeap} {t mid : Nat} {pre : List Cls} (I : NInv h0 t mid pre h) : TabAt h0.sz h (.ptr t 0 0 0) pre := by
  obtain ⟨lv, es, v1, v2, v3⟩ := I.v
  exact ⟨t, lv, mid, es, rfl, I.lo.1, I.lo.2.1, v1, v2.view, v2.at_, v3, I.m⟩

theorem idxM_next {pre : List Cls} {c : Cls} (hn : (idx c.name (names pre)).isSome = false) : (fun s => if s = c.name then some (AV.int .i64 (pre.length : Int)) else idxM pre s) = idxM (pre ++ [c]) := by
  funext s
  unfold idxM
  rw [names_append, idx_append]
  by_cases h : s = c.name
  · subst h
    cases hx : idx c.name (names pre) with
    | none => simp [names, idx]
    | some i => rw [hx] at hn; cases hn
  · have h' : ¬ c.name = s := fun e => h e.symm
    cases hx : idx s (names pre) with
    | none => simp [names, idx, h, h']
    | some i => simp [h]

theorem cls_fill (a b : Str) (f : AV) (hf : f.leaf = true) : fillRowV 3 (repl 1 [AV.str [], AV.str [], AV.nilSlc]) [(0, AV.agg [AV.str a, AV.str b, f])] = some [[AV.str a, AV.str b, f]] := by
  have hc : (AV.agg [AV.str a, AV.str b, f]).cells = [AV.str a, AV.str b, f] := rfl
  have e := leaf3 (a := a) (b := b) hf
  simp only [fillRowV, e, hc]
  rw [hc] at e
  simp only [e]
  rfl

/-- What is done where the class is well. -/
def q11 (call : CallFn) (n : Nat) (B : AV → AHeap → Bool) (x4 v10 x15 : AV) (h : AHeap) : Bool :=
  optB (nilckA x4) fun v22 => optB (fadrA 1 v22) fun v23 => optB (loadA h false 1 v23) fun v24 => optB (fadrA 0 v10) fun v25 => optB (loadA h false 1 v25) fun v26 => optB (nilckA x4) fun v27 => optB (fadrA 0 v27) fun v28 => optB (loadA h false 1 v28) fun v29 => optB (lenA h 1 v29) fun v30 => optP (unit (mupdA h (.leaf .str) v24 v26 v30)) fun _ h => optB (fadrA 2 v10) fun v32 => optB (loadA h false 1 v32) fun v33 => call (.func 31) [v33] h fun v34 h => optB (fadrA 2 v10) fun v35 => optP (unit (storeA h 1 v35 v34)) fun _ h => optB (nilckA x4) fun v37 => optB (fadrA 0 v37) fun v38 => optB (loadA h false 1 v38) fun v39 => optB (loadA h true 3 v10) fun v40 => optP (bsliceV h 1 3 [.str [], .str [], .nilSlc] [(0, v40)]) fun v41 h => sameB (loadA h false 1 v38) v39 <| optP (appendA h 3 56 v39 v41) fun v42 h => optB (nilckA x4) fun v43 => optB (fadrA 0 v43) fun v44 => optP (unit (storeA h 1 v44 v42)) fun _ h => optB (binA .add x15 (.int .i64 1)) fun v46 => B v46 h

theorem q11_ok {n i : Nat} {h0 h h2 : AHeap} {t mid q : Nat} {pre : List Cls} {c : Cls} {f : AV} {B : AV → AHeap → Bool} (k0 : h0.Ok) (I : NInv h0 t mid pre h) (e : Ext h h2) (o2 : h2.Ok) (hq : h.sz ≤ q) (Vq : Var h2 q [.str c.name, .str c.super, f]) (Vf : View h2 3 f (c.fields.map encF))
    (hn : (idx c.name (names pre)).isSome = false) (h64 : pre.length < 64) (h62 : c.fields.length ≤ 62) (hi : i < lim)
    (k : ∀ h', NInv h0 t mid (pre ++ [c]) h' → B (.int .i64 ((i + 1 : Nat) : Int)) h' = true) : q11 (callN E (n + 1)) n B (.ptr t 0 0 0) (.ptr q 0 0 0) (.int .i64 (i : Int)) h2 = true := by
  obtain ⟨lv, es, v1, v2, v3⟩ := I.v
  obtain ⟨lo1, lo2, lo3⟩ := I.lo
  have tlt : t < h.sz := v1.lt I.ok
  have mlt : mid < h.sz := I.m.lt I.ok
  have qlt : q < h2.sz := Vq.lt o2
  have hsz := e.1
  have hlen : es.length = pre.length := v3.length
  have V1 := v1.ext e
  have O2 := v2.rows (Rows3.of_ext e)
  have M2 := I.m.ext e
  unfold q11
  simp only [nilckA_ptr, fadrA_ptr, optB_some, Nat.zero_add, partA_false, nth_succ, nth_zero, V1.load, Vq.load, O2.view.len]
  obtain ⟨ob, u1, u2⟩ := M2.upd c.name (.int .i64 (es.length : Int))
  rw [hlen] at u1 u2
  rw [hlen, u1]
  rw [idxM_next hn] at u2
  have r3 : Rows3 h (h2.put mid ob) := by
    refine (Rows3.of_ext e).put ?_ ob
    intro r hr
    obtain ⟨es', cc, m1, _⟩ := I.m
    rw [AHeap.row_some, m1] at hr; cases hr
  have r23 : Rows3 h2 (h2.put mid ob) := by
    refine (Rows3.of_ext (Ext.refl h2)).put ?_ ob
    intro r hr
    obtain ⟨es', cc, m1, _⟩ := M2
    rw [AHeap.row_some, m1] at hr; cases hr
  have Vq3 := Vq.other (j := mid) (by omega) ob
  have V13 := V1.other (j := mid) lo3 ob
  have Vf3 := Vf.rows r23
  have E3 : Ext h0 (h2.put mid ob) := ext_put (I.ext.trans e) k0 lo2 ob
  have o3 : (h2.put mid ob).Ok := o2.put (by omega) ob
  have s3 : (h2.put mid ob).sz = h2.sz := by simp
  generalize h2.put mid ob = h3 at *
  simp only [unit, Option.map_some, optP_some, nilckA_ptr, fadrA_ptr, optB_some, Nat.zero_add, partA_false, nth_succ, nth_zero, Vq3.load]
  refine c31 o3 Vf3 (by rw [List.length_map]; omega) ?_
  intro h4 v34 e4 o4 V34 hfresh
  have Vq4 := Vq3.ext e4
  have V14 := V13.ext e4
  have M4 := u2.ext e4
  rw [Vq4.set1 (by simp) V34.leaf]
  simp only [unit, Option.map_some, optP_some]
  have r4 : Rows3 h (h4.put q (.row (VRow ([AV.str c.name, AV.str c.super, f].set 2 v34)))) := by
    refine (r3.trans (Rows3.of_ext e4)).put ?_ _
    intro r hr
    have := I.ok.lt (AHeap.row_some.1 hr)
    omega
  have Vq5 := var_put (h := h4) q ([AV.str c.name, AV.str c.super, f].set 2 v34)
  have V15 := V14.other (j := q) (by omega) (.row (VRow ([AV.str c.name, AV.str c.super, f].set 2 v34)))
  have M5 := M4.other (j := q) (by omega) (.row (VRow ([AV.str c.name, AV.str c.super, f].set 2 v34)))
  have hlo0 := I.ext.1
  have E5 : Ext h0 (h4.put q (.row (VRow ([AV.str c.name, AV.str c.super, f].set 2 v34)))) := ext_put (E3.trans e4) k0 (by omega) _
  have hlo4 := e4.1
  have o5 : (h4.put q (.row (VRow ([AV.str c.name, AV.str c.super, f].set 2 v34)))).Ok := o4.put (by omega) _
  have V35 := V34.put' (id := q) (by intro i g s l c ex hv; have := hfresh i g s l c ex hv; omega) (.row (VRow ([AV.str c.name, AV.str c.super, f].set 2 v34)))
  have O5 := v2.rows r4
  have A5 : All2 (RClsAt h0.sz (h4.put q (.row (VRow ([AV.str c.name, AV.str c.super, f].set 2 v34))))) es pre := v3.mono fun _ _ ⟨v, a1, a2, a3⟩ => ⟨v, a1, a2.rows r4, a3⟩
  have s5 : (h4.put q (.row (VRow ([AV.str c.name, AV.str c.super, f].set 2 v34)))).sz = h4.sz := by simp
  generalize h4.put q (.row (VRow ([AV.str c.name, AV.str c.super, f].set 2 v34))) = h5 at *
  have hl40 : loadA h5 true 3 (.ptr q 0 0 0) = some (.agg [.str c.name, .str c.super, v34]) := by rw [Vq5.load]; rfl
  simp only [V15.load, hl40, nilckA_ptr, fadrA_ptr, optB_some, Nat.zero_add, partA_false, nth_succ, nth_zero]
  obtain ⟨v41, b1, b2⟩ := bslice_view (h := h5) (n := 1) (sz := 3) (z := [AV.str [], AV.str [], AV.nilSlc]) rfl (by decide) (by decide) rfl (cls_fill c.name c.super v34 V34.leaf) rfl
  rw [b1, optP_some]
  have e6 := ext_newRow o5 [[AV.str c.name, AV.str c.super, v34]] 3
  have o6 := ok_newRow o5 [[AV.str c.name, AV.str c.super, v34]] 3
  have s6 : (Ab.newRow h5 [[AV.str c.name, AV.str c.super, v34]] 3).sz = h5.sz + 1 := rfl
  generalize Ab.newRow h5 [[AV.str c.name, AV.str c.super, v34]] 3 = h6 at *
  have V16 := V15.ext e6
  have O6 := O5.rows (Rows3.of_ext e6)
  have M6 := M5.ext e6
  have A6 : All2 (RClsAt h0.sz h6) es pre := A5.mono fun _ _ ⟨v, a1, a2, a3⟩ => ⟨v, a1, a2.ext e6, a3⟩
  have V36 := V35.ext e6
  have hs : sameB (loadA h6 false 1 (.ptr t 0 0 0)) lv = fun r => r := by
    funext r
    rw [V16.load, partA_false, nth_zero]
    simp only [sameB, O6.same, cond_true]
  rw [hs]
  obtain ⟨v42, h7, a1, a2, a3, a4, a5, a6, a7⟩ := O6.app (bytes := 56) (by decide) (by have := E5.1; omega) o6 k0 (E5.trans e6) (Nat.le_refl _) b2.src (by simp; unfold most; omega) (by simp; unfold most; omega)
  rw [a1, optP_some]
  have V17 : Var h7 t [lv, .map mid] := by
    have V16' : h6.row t = some (VRow [lv, .map mid]) := V16
    show h7.row t = some _
    rw [AHeap.row_some] at V16' ⊢
    refine a6 _ _ V16' (O6.row_ne V16' ?_)
    intro r hr; cases hr; simp [VRow]
  have M7 : StrMap h7 mid (idxM (pre ++ [c])) := by
    obtain ⟨es', cc, m1, m2⟩ := M6
    refine ⟨es', cc, a6 _ _ m1 (O6.row_ne m1 ?_), m2⟩
    intro r hr; cases hr
  rw [V17.set1 (by simp) a2.view.leaf]
  simp only [unit, Option.map_some, optP_some]
  rw [inc64 hi, optB_some]
  have hne : ∀ r, h7.row t = some r → r.sz ≠ 3 := by
    intro r hr
    have V17' : h7.row t = some (VRow [lv, .map mid]) := V17
    rw [V17'] at hr; cases hr; simp [VRow]
  have r8 : Rows3 h7 (h7.put t (.row (VRow ([lv, AV.map mid].set 0 v42)))) := (Rows3.of_ext (Ext.refl h7)).put hne _
  refine k _ ⟨ext_put a4 k0 lo1 _, a3.put (V17.lt a3) _, ⟨v42, es ++ [[.str c.name, .str c.super, v34]], var_put _ _, a2.rows r8, ?_⟩, M7.other (Ne.symm lo3) _, lo1, lo2, lo3⟩
  refine All2.append ?_ (.cons ⟨v34, rfl, (a7 _ _ _ V36).rows r8, ?_⟩ .nil)
  · exact A6.mono fun _ _ ⟨v, b1, b2, b3⟩ => ⟨v, b1, (a7 _ _ _ b2).rows r8, b3⟩
  · intro i g s l c ex hv; have := hfresh i g s l c ex hv; have := E3.1; omega

theorem take_next {l : List Cls} {i : Nat} (hlt : i < l.length) : l.take (i + 1) = l.take i ++ [l[i]] := by
  rw [List.take_add_one, List.getElem?_eq_getElem hlt]; rfl

/-- What a table may be made of. -/
structure Room (n : Nat) (l : List Cls) : Prop where
  big : 5000 < n
  top : n + 10 < lim
  name : ∀ c ∈ l, c.name.length ≤ n ∧ ∀ f ∈ c.fields, f.name.length ≤ n

theorem l11 {n : Nat} {h0 : AHeap} {va : AV} {l : List Cls} {t mid : Nat} {K : Kont} (k0 : h0.Ok) (C : CV h0 va l) (h64 : l.length ≤ 64) (R : Room n l)
    (kbad : validGo (names l) [] l = false → ∀ h', Ext h0 h' → h'.Ok → K (.tup [.nilPtr, .int .i64 10]) h' = true)
    (kgood : validGo (names l) [] l = true → Good l → ∀ h', Ext h0 h' → h'.Ok → TabAt h0.sz h' (.ptr t 0 0 0) l → K (.tup [.ptr t 0 0 0, .int .i64 0]) h' = true) :
    ∀ (m i : Nat) (h : AHeap), NInv h0 t mid (l.take i) h → Good (l.take i) → validGo (names l) [] l = validGo (names l) (l.take i) (l.drop i) → i ≤ l.length → l.length - i < m →
      l11_16 (callN E (n + 5)) (n + 5) m va (.ptr t 0 0 0) va (.int .i64 (l.length : Int)) (.int .i64 (i : Int)) h K = true := by
  intro m
  induction m with
  | zero => intro i h _ _ _ _ hm; omega
  | succ m ih =>
    intro i h I G hv hi hm
    have hR := R.big
    have hL := R.top
    rw [l11_16_s]
    unfold b11_16
    rw [binA_lss, optB_some]
    by_cases hlt : i < l.length
    · have hd : l.drop i = l[i] :: l.drop (i + 1) := List.drop_eq_getElem_cons hlt
      have hpl : (l.take i).length = i := by simp; omega
      obtain ⟨id, g, j, f, p1, p2, p3, p4, p5, p6⟩ := (C.ext I.ext).at (List.getElem?_eq_getElem hlt)
      obtain ⟨hr1, hr2⟩ := R.name _ (List.getElem_mem hlt)
      rw [hd] at hv
      have hnx := take_next hlt
      generalize l[i] = c at *
      rw [condB_t (by simpa using hlt), p1, optB_some, p2, optB_some, alloc_set (n := 3) rfl (by decide) rfl rfl (leaf3 p6.leaf)]
      have e1 := ext_newRow I.ok [[AV.str c.name, AV.str c.super, f]] 3
      have o1 := ok_newRow I.ok [[AV.str c.name, AV.str c.super, f]] 3
      have V1 := var_new h [AV.str c.name, AV.str c.super, f]
      have hc : (AV.agg [AV.str c.name, AV.str c.super, f]).cells = [AV.str c.name, AV.str c.super, f] := rfl
      rw [hc]
      simp only [List.length_cons, List.length_nil, Nat.zero_add] at V1
      generalize Ab.newRow h [[AV.str c.name, AV.str c.super, f]] 3 = h1 at *
      have P1 := p6.ext e1
      have hU := upF_le G c.super
      rw [hpl] at hU
      have hUU : i * 62 ≤ 64 * 62 := Nat.mul_le_mul_right _ (by omega)
      have bad : validGo (names l) [] l = false → ∀ h', Ext h1 h' → h'.Ok → K (.tup [.nilPtr, .int .i64 10]) h' = true := fun hb h' e o => kbad hb h' ((I.ext.trans e1).trans e) o
      rw [fadrA_ptr, optB_some, V1.load, Nat.zero_add, partA_false, nth_succ, nth_succ, nth_zero, optB_some, P1.len, optB_some, binA_gtr, optB_some, List.length_map]
      refine new_fork V1 ?_ ?_
      · intro hb
        rw [condB_true]
        refine bad ?_ h1 (Ext.refl h1) o1
        rw [hv]
        have : ¬ c.fields.length ≤ 62 := by simp at hb; omega
        simp only [validGo, decide_eq_false this, Bool.false_and]
      · intro hb
        have h62 : c.fields.length ≤ 62 := by simp at hb; omega
        refine c30 (I.table.ext e1) G.asc o1 (C.ext (I.ext.trans e1)) P1 (by omega) (by omega) (by omega) (by omega) (by omega) (by omega) (by omega) (fun x hx => hr2 x hx) ?_
        intro h2 e2 o2
        rw [notA_bool, optB_some]
        cases hfit : fitsB (l.take i) c (names l) with
        | false =>
          rw [Bool.not_false, condB_true]
          exact bad (by rw [hv]; simp only [validGo, hfit, Bool.and_false, Bool.false_and]) h2 e2 o2
        | true =>
          rw [Bool.not_true, condB_false]
          have hno : (idx c.name (names (l.take i))).isSome = false := by
            have := hfit
            simp only [fitsB, Bool.and_eq_true, Bool.not_eq_true'] at this
            exact this.1.1.1.2
          refine q11_ok (B := fun v46 h => l11_16 (callN E (n + 5)) (n + 5) m va (.ptr t 0 0 0) va (.int .i64 (l.length : Int)) v46 h K) k0 I (e1.trans e2) o2 (Nat.le_refl _) (V1.ext e2) (P1.ext e2) hno (by omega) h62 (by omega) ?_
          intro h3 I3
          rw [← hnx] at I3
          refine ih (i + 1) h3 I3 (by rw [hnx]; exact G.next hfit h62) ?_ (by omega) (by omega)
          rw [hv, hnx]
          simp only [validGo, hfit, decide_eq_true h62, Bool.true_and]
    · have hd : l.drop i = [] := List.drop_of_length_le (by omega)
      have ht : l.take i = l := List.take_of_length_le (by omega)
      rw [hd] at hv
      rw [ht] at I G
      rw [condB_f (by simpa using hlt)]
      exact kgood (by rw [hv]; rfl) G h I.ext I.ok I.tabAt

theorem c11o {n : Nat} {h : AHeap} {va : AV} {l : List Cls} {K : Kont} (ho : h.Ok) (C : CV h va l) (R : Room n l)
    (kbad : valid l = false → ∀ h', Ext h h' → h'.Ok → K (.tup [.nilPtr, .int .i64 10]) h' = true)
    (kgood : valid l = true → Good l → ∀ h' t, Ext h h' → h'.Ok → TabAt h.sz h' t l → K (.tup [t, .int .i64 0]) h' = true) : callN E (n + 6) (.func 11) [va] h K = true := by
  have hR := R.big
  have hL := R.top
  apply d11
  unfold s11
  obtain ⟨m1, m2⟩ := strMap_new h
  rw [m1, optP_some]
  have e1 := ext_push ho (.map [] 0)
  have o1 := ho.push (.map [] 0)
  have s1 : (h.push (.map [] 0)).sz = h.sz + 1 := by simp
  generalize h.push (.map [] 0) = h1 at *
  have hb : buildV [AV.nilSlc, AV.nilMap] [(1, 1, AV.map h.sz)] = some (.agg [.nilSlc, .map h.sz]) := rfl
  rw [hb, optB_some, box_eq (n := 2) rfl (by decide) rfl, optP_some]
  have hc : (AV.agg [AV.nilSlc, AV.map h.sz]).cells = [AV.nilSlc, AV.map h.sz] := rfl
  rw [hc, s1]
  have e2 := ext_newRow o1 [[AV.nilSlc, AV.map h.sz]] 2
  have o2 := ok_newRow o1 [[AV.nilSlc, AV.map h.sz]] 2
  have V2 := var_new h1 [AV.nilSlc, AV.map h.sz]
  simp only [List.length_cons, List.length_nil, Nat.zero_add, s1] at V2
  generalize Ab.newRow h1 [[AV.nilSlc, AV.map h.sz]] 2 = h2 at *
  rw [(C.ext (e1.trans e2)).len, optB_some, binA_gtr, optB_some]
  by_cases h64 : l.length ≤ 64
  · have hva : valid l = validGo (names l) [] l := by simp only [valid, decide_eq_true h64, Bool.true_and]
    rw [condB_f (by simp; omega)]
    unfold p11_12
    rw [(C.ext (e1.trans e2)).len, optB_some]
    refine l11 (h0 := h) (mid := h.sz) (t := h.sz + 1) ho C h64 R ?_ ?_ (n + 5) 0 h2 ?_ ?_ rfl (by omega) (by omega)
    · intro hb h' e o; exact kbad (by rw [hva]; exact hb) h' e o
    · intro hg G h' e o T; exact kgood (by rw [hva]; exact hg) G h' _ e o T
    · refine ⟨e1.trans e2, o2, ⟨.nilSlc, [], V2, Own.nil _ _ _, .nil⟩, ?_, by omega⟩
      have := m2.ext e2
      have he : idxM [] = fun _ => none := by funext s; rfl
      show StrMap h2 h.sz (idxM [])
      rw [he]; exact this
    · exact ⟨fun i c hc => by simp at hc, fun c hc => by simp at hc⟩
  · have hva : valid l = false := by simp only [valid, decide_eq_false h64, Bool.false_and]
    rw [condB_t (by simp; omega)]
    exact kbad hva h2 (e1.trans e2) o2

theorem c11 {n : Nat} {h : AHeap} {va : AV} {l : List Cls} {K : Kont} (ho : h.Ok) (C : CV h va l) (R : Room n l)
    (kbad : valid l = false → ∀ h', Ext h h' → h'.Ok → K (.tup [.nilPtr, .int .i64 10]) h' = true)
    (kgood : valid l = true → Good l → ∀ h' t, Ext h h' → h'.Ok → TableRep h' t l → K (.tup [t, .int .i64 0]) h' = true) : callN E (n + 6) (.func 11) [va] h K = true :=
  c11o ho C R kbad fun hv G h' t e o T => kgood hv G h' t e o T.rep
end Go.Proofs.Ytjdpdjmmbajglaa
