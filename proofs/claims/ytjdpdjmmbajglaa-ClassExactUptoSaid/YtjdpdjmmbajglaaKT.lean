/-
  All that is asked of one name, walked.
-/
import Derived.Test.YtjdpdjmmbajglaaKS
namespace Go.Proofs.Ytjdpdjmmbajglaa
open Go.Ab
set_option linter.unusedSimpArgs false
set_option linter.unusedVariables false

def dueOf (l : List Cls) (s : Str) : List Str := if (idx s (names l)).isSome = true then subsOf l s else []

/-- What stands while one name is asked of: the table, the argument's variable. -/
structure OneE (h : AHeap) (t lv nv fv : AV) (p : Nat) (l : List Cls) (fs : List Str) (ef : List (List AV)) : Prop where
  t : TableRep h t l
  c : CV h lv l
  v : Var h p [lv, nv, fv]
  f : View h 1 fv ef
  nm : Named ef fs

theorem OneE.ext {h h' : AHeap} {t lv nv fv : AV} {p : Nat} {l : List Cls} {fs : List Str} {ef : List (List AV)} (O : OneE h t lv nv fv p l fs ef) (e : Ext h h') : OneE h' t lv nv fv p l fs ef :=
  ⟨O.t.ext e, O.c.ext e, O.v.ext e, O.f.ext e, O.nm⟩

theorem l98 {n : Nat} {h0 : AHeap} {x9 v fv lv nv : AV} {p : Nat} {l : List Cls} {fs : List Str} {ef : List (List AV)} {m e w g : Int} {t : AV} {K : Kont} (k0 : h0.Ok) (O0 : OneE h0 t lv nv fv p l fs ef)
    (hd : fs.length ≤ 100 → g = e ∧ m = w) (k : ∀ h', Ext h0 h' → h'.Ok → K (.bool true) h' = true) :
    ∀ (j i : Nat) (h : AHeap) (fl : List Fld), Ext h0 h → h.Ok → Own h0.sz h 3 x9 (fl.map encF) → fl.length < lim → i ≤ fl.length → fl.length - i < j →
      l13_98 (callN E n) n j (.ptr p 0 0 0) x9 (.int .u64 m) (.int .i64 g) (.int .u64 w) (.int .i64 e) (.int .i64 (i : Int)) h K = true := by
  intro j
  induction j with
  | zero => intro i h fl _ _ _ _ _ hm; omega
  | succ j ih =>
    intro i h fl x o O hL hi hm
    rw [l13_98_s]
    unfold b13_98
    have hl := O.view.len
    rw [List.length_map] at hl
    rw [hl, optB_some, binA_lss, optB_some]
    by_cases hlt : i < fl.length
    · obtain ⟨id, g', obj, p1, p2, p3, p4, _, r, p5⟩ := O.store1 (w := .str [111, 118, 101, 114]) (o := 0) (i := i) (e := encF fl[i]) (by simp [hlt]) (by simp [encF]) rfl
      rw [encF_set hlt] at p4
      rw [condB_t (by simpa using hlt), p1, optB_some, fadrA_ptr, optB_some, Nat.zero_add, p3]
      simp only [unit, Option.map_some, optP_some]
      rw [inc64 (by omega), optB_some]
      exact ih (i + 1) _ _ (ext_put x k0 p2 _) (o.put (o.lt p5) _) p4 (by simpa using hL) (by simp; omega) (by simp; omega)
    · rw [condB_f (by simpa using hlt)]
      unfold p13_109
      have O1 := O0.ext x
      rw [fadrA_ptr, optB_some, Nat.zero_add, O1.v.load, partA_false, nth_succ, nth_succ, nth_zero, optB_some, O1.f.len, O1.nm.length, optB_some, endF hd]
      exact k h x o

theorem t86 {n : Nat} {h0 hG h : AHeap} {x9 x11 fv lv nv t : AV} {p : Nat} {l : List Cls} {fs sb : List Str} {ef : List (List AV)} {fl : List Fld} {m e w g : Int} {K : Kont} (k0 : h0.Ok) (kG : hG.Ok) (O0 : OneE h0 t lv nv fv p l fs ef) (e0 : Ext h0 hG)
    (hd : fs.length ≤ 100 → g = e ∧ m = if e = 0 then w else 0) (e1 : Ext hG h) (o : h.Ok) (O9 : Own h0.sz hG 3 x9 (fl.map encF)) (hL : fl.length < n) (hn : n < lim) (O11 : Own hG.sz h 1 x11 (sb.map one)) (hs : sb.length < 100000) (hs2 : sb.length < n)
    (k : ∀ h', Ext h0 h' → h'.Ok → K (.bool true) h' = true) : p13_86 (callN E (n + 1)) (n + 1) (.ptr p 0 0 0) x9 x11 (.int .u64 m) (.int .i64 g) (.int .u64 w) (.int .i64 e) h K = true := by
  have fin : ∀ w', (fs.length ≤ 100 → g = e ∧ m = w') → p13_92 (callN E (n + 1)) (n + 1) (.ptr p 0 0 0) x9 x11 (.int .u64 m) (.int .i64 g) (.int .u64 w') (.int .i64 e) h K = true := by
    intro w' hd'
    unfold p13_92
    refine c37 kG e1 o O11 ?_ (by simpa using hs) (by simpa using hs2) ?_
    · intro x hx
      simp only [List.mem_map] at hx
      obtain ⟨y, _, rfl⟩ := hx
      rfl
    · intro h2 e2 o2
      exact l98 (v := x9) k0 O0 hd' k (n + 1) 0 h2 fl (e0.trans e2) o2 (O9.ext e2) (by omega) (Nat.zero_le _) (by omega)
  unfold p13_86
  rw [binA_neq, optB_some]
  by_cases he : e = 0
  · rw [condB_f (by simp [he])]
    exact fin w (fun hh => by have := hd hh; rw [if_pos he] at this; exact this)
  · rw [condB_t (by simp [he])]
    exact fin 0 (fun hh => by have := hd hh; rw [if_neg he] at this; exact this)

theorem l13f {n : Nat} {h0 : AHeap} {x9 x11 u fv lv nv t : AV} {p : Nat} {l : List Cls} {s : Str} {fs : List Str} {ef : List (List AV)} {m g : Int} {K : Kont} (k0 : h0.Ok) (O0 : OneE h0 t lv nv fv p l fs ef) (A : Asc l) (hl : l.length ≤ 64) (hn : 5000 < n) (hL : n + 10 < lim) (h62 : (fieldsOf l s).length ≤ 62)
    (U : View h0 3 u ((fieldsOf l s).map encF))
    (k : ∀ h' i, Ext h0 h' → h'.Ok → (fs.length ≤ 100 → i = fs.length) → p13_86 (callN E (n + 4)) (n + 4) (.ptr p 0 0 0) x9 x11 (.int .u64 m) (.int .i64 g) (.int .u64 (wantGo (fnames (fieldsOf l s)) 0 (fs.take i))) (.int .i64 (errGo (fnames (fieldsOf l s)) (err0 (idx s (names l)).isSome) (fs.take i))) h' K = true) :
    ∀ (j i : Nat) (h : AHeap), Ext h0 h → h.Ok → i ≤ fs.length → fs.length - i < j →
      l13_55 (callN E (n + 4)) (n + 4) j t (.str s) (.ptr p 0 0 0) (.bool (idx s (names l)).isSome) u x9 x11 (.int .u64 m) (.int .i64 g) (.int .u64 (wantGo (fnames (fieldsOf l s)) 0 (fs.take i))) (.int .i64 (errGo (fnames (fieldsOf l s)) (err0 (idx s (names l)).isSome) (fs.take i))) (.int .i64 (i : Int)) h K = true := by
  intro j
  induction j with
  | zero => intro i h _ _ _ hm; omega
  | succ j ih =>
    intro i h e o hi hm
    rw [l13_55_s]
    unfold b13_55
    have O1 := O0.ext e
    rw [fadrA_ptr, optB_some, Nat.zero_add, O1.v.load, partA_false, nth_succ, nth_succ, nth_zero, optB_some, O1.f.len, O1.nm.length, optB_some, lt_100]
    by_cases hc : i < fs.length ∧ i < 100
    · obtain ⟨w, hw⟩ : ∃ w, fs[i]? = some w := ⟨_, List.getElem?_eq_getElem hc.1⟩
      have hone : ∀ {h'} (O' : OneE h' t lv nv fv p l fs ef), ∃ id gg jj, iadrA h' 1 fv (.int .i64 (i : Int)) = some (.ptr id gg jj 0) ∧ loadA h' false 1 (.ptr id gg jj 0) = some (.str w) := by
        intro h' O'
        obtain ⟨e', he, hn'⟩ := O'.nm.get hw
        obtain ⟨id, gg, jj, q1, q2⟩ := O'.f.at he
        exact ⟨id, gg, jj, q1 _, by rw [q2, partA_false]; exact hn'⟩
      obtain ⟨id, gg, jj, q1, q2⟩ := hone O1
      have V1 := U.ext e
      rw [condB_t (by simp [hc]), optB_some, O1.v.load, partA_false, nth_succ, nth_succ, nth_zero, optB_some, q1, optB_some, q2, optB_some]
      refine c35 V1 (flds_named _) (by simp [fnames]; omega) (by simp [fnames]; unfold lim at *; omega) ?_
      rw [optB_some, O1.v.load, partA_false, nth_succ, nth_succ, nth_zero, optB_some, q1, optB_some, q2, optB_some]
      refine c36 (n := n + 1) O1.t A o (by omega) (by omega) (by omega) ?_
      intro h2 e2 o2
      have hbad := badF_index l s w
      rw [extA_tup, nth_zero, optB_some, extA_tup, nth_succ, nth_zero, optB_some, chkF1, chkF2, chkF3, chkF_false hbad, condB_false, binA_geq, optB_some]
      have ht : fs.take (i + 1) = fs.take i ++ [w] := by rw [List.take_add_one, hw]; rfl
      have E2 := e.trans e2
      have go : ∀ w' e', wantGo (fnames (fieldsOf l s)) 0 (fs.take (i + 1)) = w' → errGo (fnames (fieldsOf l s)) (err0 (idx s (names l)).isSome) (fs.take (i + 1)) = e' → p13_85 (callN E (n + 4)) (n + 4) (fun x0 x2 x4 x7 x8 x9 x11 x13 x14 x17 x18 x19 h => l13_55 (callN E (n + 4)) (n + 4) j x0 x2 x4 x7 x8 x9 x11 x13 x14 x17 x18 x19 h K) t (.str s) (.ptr p 0 0 0) (.bool (idx s (names l)).isSome) u x9 x11 (.int .u64 m) (.int .i64 g) (.int .u64 w') (.int .i64 e') (.int .i64 (i : Int)) h2 K = true := by
        rintro w' e' rfl rfl
        unfold p13_85
        rw [inc64 (by unfold lim; omega), optB_some]
        exact ih (i + 1) h2 E2 o2 hc.1 (by omega)
      cases hx : idx w (fnames (fieldsOf l s)) with
      | none =>
        rw [condB_f (by rfl), binA_eql, optB_some]
        have h1 : wantGo (fnames (fieldsOf l s)) 0 (fs.take (i + 1)) = wantGo (fnames (fieldsOf l s)) 0 (fs.take i) := by
          rw [ht, wantGo_app]; simp only [wantGo, hx]
        have h2 : errGo (fnames (fieldsOf l s)) (err0 (idx s (names l)).isSome) (fs.take (i + 1)) = if errGo (fnames (fieldsOf l s)) (err0 (idx s (names l)).isSome) (fs.take i) = 0 then 11 else errGo (fnames (fieldsOf l s)) (err0 (idx s (names l)).isSome) (fs.take i) := by
          rw [ht, errGo_app]; simp only [errGo, hx]
        by_cases hz : errGo (fnames (fieldsOf l s)) (err0 (idx s (names l)).isSome) (fs.take i) = 0
        · rw [condB_t (by simp [hz])]
          exact go _ _ h1 (by rw [h2, if_pos hz])
        · rw [condB_f (by simp [hz])]
          exact go _ _ h1 (by rw [h2, if_neg hz])
      | some q =>
        have hq := (idx_lt hx).1
        have hfl : (fnames (fieldsOf l s)).length = (fieldsOf l s).length := by simp [fnames]
        have hfi : fint (some q) = (q : Int) := rfl
        rw [hfi, condB_t (decide_eq_true (by omega)), conv_u (by omega), optB_some, shl_eq, optB_some, or_eq, optB_some]
        exact go _ _ (by rw [ht, wantGo_app]; simp only [wantGo, hx]) (by rw [ht, errGo_app]; simp only [errGo, hx])
    · rw [condB_f (by simp; omega)]
      exact k h i e o (fun hh => by omega)

theorem l13d {n : Nat} {h0 : AHeap} {x9 x11 x12 x13 x14 u fv lv nv t : AV} {x10 : AV} {p : Nat} {l : List Cls} {s : Str} {fs : List Str} {ef : List (List AV)} {K : Kont} (k0 : h0.Ok) (O0 : OneE h0 t lv nv fv p l fs ef) (A : Asc l) (hl : l.length ≤ 64) (hn : 5000 < n) (hL : n + 10 < lim)
    (k : ∀ h' v, Ext h0 h' → h'.Ok → View h' 1 v ((dueOf l s).map one) → p13_33 (callN E (n + 4)) (n + 4) t (.str s) (.ptr p 0 0 0) (.bool (idx s (names l)).isSome) u x9 x10 x11 x12 x13 x14 v h' K = true) :
    ∀ (m i : Nat) (h : AHeap) (v : AV) (done : List Str), Ext h0 h → h.Ok → i ≤ l.length → l.length - i < m → Own h0.sz h 1 v (done.map one) → done.length ≤ i → ((idx s (names l)).isSome = true → subsOf l s = done ++ ((l.drop i).filter fun c => isB l c.name s).map Cls.name) → ((idx s (names l)).isSome = false → done = []) →
      l13_18 (callN E (n + 4)) (n + 4) m t (.str s) (.ptr p 0 0 0) (.bool (idx s (names l)).isSome) u x9 x10 x11 x12 x13 x14 v (.int .i64 (i : Int)) h K = true := by
  intro m
  induction m with
  | zero => intro i h v done _ _ _ hm; omega
  | succ m ih =>
    intro i h v done e o hi hm O hdl hd1 hd2
    rw [l13_18_s]
    unfold b13_18
    have O1 := O0.ext e
    rw [fadrA_ptr, optB_some, Nat.zero_add, O1.v.load, partA_false, nth_zero, optB_some, O1.c.len, optB_some, lt_th]
    by_cases hc : i < l.length ∧ (idx s (names l)).isSome = true
    · obtain ⟨hlt, hth⟩ := hc
      have hci := List.getElem?_eq_getElem hlt
      obtain ⟨id, g, j, f, p1, p2, p3, p4, p5, p6⟩ := O1.c.at hci
      have hd : l.drop i = l[i] :: l.drop (i + 1) := by rw [List.drop_eq_getElem_cons hlt]
      generalize l[i] = c at *
      rw [condB_t (by simp [hlt, hth]), optB_some, O1.v.load, partA_false, nth_zero, optB_some, optB_some, O1.v.load, partA_false, nth_zero, optB_some, p1, optB_some, fadrA_ptr, optB_some, Nat.zero_add, p3, optB_some]
      refine c15 (n := n + 2) O1.c A (by omega) (by omega) ?_
      have next : ∀ h' v' done', Ext h0 h' → h'.Ok → Own h0.sz h' 1 v' (done'.map one) → done'.length ≤ i + 1 → subsOf l s = done' ++ ((l.drop (i + 1)).filter fun c => isB l c.name s).map Cls.name → p13_32 (callN E (n + 4)) (n + 4) (fun x0 x2 x4 x7 x8 x9 x10 x11 x12 x13 x14 x15 x16 h => l13_18 (callN E (n + 4)) (n + 4) m x0 x2 x4 x7 x8 x9 x10 x11 x12 x13 x14 x15 x16 h K) t (.str s) (.ptr p 0 0 0) (.bool (idx s (names l)).isSome) u x9 x10 x11 x12 x13 x14 v' (.int .i64 (i : Int)) h' K = true := by
        intro h' v' done' e' o' O' hdl' hd'
        unfold p13_32
        rw [inc64 (by unfold lim; omega), optB_some]
        exact ih (i + 1) h' v' done' e' o' hlt (by omega) O' hdl' (fun _ => hd') (fun hh => by rw [hh] at hth; cases hth)
      have h1 := hd1 hth
      rw [hd, List.filter_cons] at h1
      cases hb : isB l c.name s with
      | false =>
        rw [condB_f rfl]
        rw [hb] at h1
        exact next h v done e o O (by omega) (by simpa using h1)
      | true =>
        rw [hb] at h1
        rw [condB_t rfl, optB_some, O1.v.load, partA_false, nth_zero, optB_some, p1, optB_some, fadrA_ptr, optB_some, Nat.zero_add, p3, optB_some]
        obtain ⟨v39, b1, b2⟩ := bslice_view (h := h) (n := 1) (sz := 1) (z := [AV.str []]) (ps := [(0, AV.str c.name)]) (es := [[AV.str c.name]]) rfl (by decide) (by decide) rfl (one_fill _) rfl
        rw [b1, optP_some]
        have e1 := ext_newRow o [[AV.str c.name]] 1
        have o1 := ok_newRow o [[AV.str c.name]] 1
        generalize Ab.newRow h [[AV.str c.name]] 1 = h2 at *
        have E1 := e.trans e1
        obtain ⟨v40, h3, a1, a2, a3, a4, a5, a6, a7⟩ := (O.ext e1).app (bytes := 16) (by decide) E1.1 o1 k0 E1 (Nat.le_refl _) b2.src (by simp; unfold most; omega) (by simp; unfold most; omega)
        rw [a1, optP_some]
        refine next h3 v40 (done ++ [c.name]) a4 a3 ?_ (by simp; omega) (by simpa using h1)
        rw [List.map_append]; exact a2
    · rw [condB_f (by cases hth : (idx s (names l)).isSome with | false => simp | true => simp; exact Nat.le_of_not_lt fun h1 => hc ⟨h1, hth⟩)]
      refine k h v e o ?_
      have : dueOf l s = done := by
        unfold dueOf
        cases hth : (idx s (names l)).isSome with
        | false => rw [if_neg (by simp), hd2 hth]
        | true =>
          have hil : ¬ i < l.length := fun h1 => hc ⟨h1, hth⟩
          have h1 := hd1 hth
          rw [List.drop_of_length_le (by omega)] at h1
          rw [if_pos rfl, h1]; simp
      rw [this]; exact O.view

theorem t33 {n : Nat} {h0 hG h : AHeap} {x9 x11 u v fv lv nv t : AV} {p : Nat} {l : List Cls} {s : Str} {fs : List Str} {ef : List (List AV)} {e10 e12 : Int} {K : Kont} (k0 : h0.Ok) (kG : hG.Ok) (O0 : OneE h0 t lv nv fv p l fs ef) (A : Asc l) (hl : l.length ≤ 64) (hn : 5000 < n) (hL : n + 10 < lim) (hfs : fs.length < n) (h62 : (fieldsOf l s).length ≤ 62)
    (e0 : Ext h0 hG) (e1 : Ext hG h) (o : h.Ok) (U : View h0 3 u ((fieldsOf l s).map encF)) (O9 : Own h0.sz hG 3 x9 ((fieldsOf l s).map encF)) (O11 : Own hG.sz h 1 x11 ((dueOf l s).map one)) (V : View h 1 v ((dueOf l s).map one)) (h10 : decide (e10 = 0) = (idx s (names l)).isSome) (h12 : decide (e12 = 0) = (idx s (names l)).isSome) (hdl : (dueOf l s).length ≤ 64)
    (k : ∀ h', Ext h0 h' → h'.Ok → K (.bool true) h' = true) :
    p13_33 (callN E (n + 4)) (n + 4) t (.str s) (.ptr p 0 0 0) (.bool (idx s (names l)).isSome) u x9 (.int .i64 e10) x11 (.int .i64 e12) (.int .u64 (maskOf l s fs).1) (.int .i64 (maskOf l s fs).2) v h K = true := by
  have O1 := O0.ext (e0.trans e1)
  unfold p13_33
  refine c19 O1.t ?_
  rw [chkA]
  refine c17 (O9.view.ext e1) (U.ext (e0.trans e1)) (by unfold lim; omega) (by omega) ?_
  rw [decide_eq_true rfl, notA_bool, Bool.not_true, optB_some, chkB]
  refine c21 O11.view V (by unfold lim; omega) (by omega) ?_
  rw [decide_eq_true rfl, notA_bool, Bool.not_true, optB_some, chkC h10, chkC h12, condB_false]
  unfold p13_41
  rw [notA_bool, optB_some]
  have fin : p13_51 (callN E (n + 4)) (n + 4) t (.str s) (.ptr p 0 0 0) (.bool (idx s (names l)).isSome) u x9 x11 (.int .u64 (maskOf l s fs).1) (.int .i64 (maskOf l s fs).2) (.int .u64 0) (.int .i64 (err0 (idx s (names l)).isSome)) h K = true := by
    unfold p13_51
    refine l13f o O1 A hl hn hL h62 (U.ext (e0.trans e1)) ?_ (n + 4) 0 h (Ext.refl h) o (Nat.zero_le _) (by omega)
    intro h2 i e2 o2 hi
    obtain ⟨d1, d2⟩ := mask_due l s fs _ rfl
    refine t86 (n := n + 3) (sb := dueOf l s) (fl := fieldsOf l s) k0 kG O0 e0 ?_ (e1.trans e2) o2 O9 (by omega) (by omega) (O11.ext e2) (by omega) (by omega) k
    intro hh
    rw [hi hh, List.take_of_length_le (Nat.le_refl _)]
    exact ⟨d1, d2⟩
  cases hth : (idx s (names l)).isSome with
  | true =>
    rw [hth] at fin
    rw [Bool.not_true, condB_false]; exact fin
  | false =>
    rw [hth] at fin
    rw [Bool.not_false, condB_true]; exact fin

theorem leafAgg {a b c : AV} (ha : a.leaf = true) (hb : b.leaf = true) (hc : c.leaf = true) : (AV.agg [a, b, c]).cells = [a, b, c] ∧ allLeaf [a, b, c] = true := by
  refine ⟨rfl, ?_⟩
  show (bif a.leaf then (bif b.leaf then (bif c.leaf then true else false) else false) else false) = true
  rw [ha, hb, hc]; rfl

theorem c13 {n : Nat} {h : AHeap} {fv lv nv t : AV} {l : List Cls} {s : Str} {fs : List Str} {ef en : List (List AV)} {K : Kont} (ho : h.Ok) (T : TableRep h t l) (hv : valid l = true) (C : CV h lv l) (Vn : View h 1 nv en) (Vf : View h 1 fv ef) (Nf : Named ef fs) (hld : load l ≤ 100000) (hn : 5000 < n) (hL : n + 10 < lim) (hfs : fs.length < n)
    (k : ∀ h', Ext h h' → h'.Ok → K (.bool true) h' = true) : callN E (n + 5) (.func 13) [t, .agg [lv, nv, fv], .str s] h K = true := by
  have G := valid_good hv
  have A := G.asc
  have hl : l.length ≤ 64 := by simp only [valid, Bool.and_eq_true, decide_eq_true_eq] at hv; exact hv.1
  have h62 : (fieldsOf l s).length ≤ 62 := by
    cases hi : idx s (names l) with
    | none => rw [fieldsOf_none hi]; exact Nat.zero_le _
    | some i => exact (fields_ok hv G i hi).2
  have hdl : (dueOf l s).length ≤ 64 := by
    unfold dueOf
    have := subs_len l s
    by_cases hh : (idx s (names l)).isSome = true
    · rw [if_pos hh]; omega
    · rw [if_neg hh]; exact Nat.zero_le _
  have llv : lv.leaf = true := by obtain ⟨es, V, _⟩ := C; exact V.leaf
  obtain ⟨lf1, lf2⟩ := leafAgg llv Vn.leaf Vf.leaf
  apply d13
  unfold s13
  rw [box_eq (n := 3) (v := .agg [lv, nv, fv]) (by rw [lf1]; rfl) (by decide) (by rw [lf1]; exact lf2), optP_some, lf1]
  have e1 := ext_newRow ho [[lv, nv, fv]] 3
  have o1 := ok_newRow ho [[lv, nv, fv]] 3
  have V1 := var_new h [lv, nv, fv]
  simp only [List.length_cons, List.length_nil, Nat.zero_add] at V1
  generalize Ab.newRow h [[lv, nv, fv]] 3 = h1 at *
  generalize h.sz = p at *
  have O1 : OneE h1 t lv nv fv p l fs ef := ⟨T.ext e1, C.ext e1, V1, Vf.ext e1, Nf⟩
  rw [fadrA_ptr, optB_some, Nat.zero_add, V1.load, partA_false, nth_zero, optB_some]
  obtain ⟨es, W, _, N⟩ := O1.c.named
  refine c33 (n := n + 3) W N (by rw [names_length]; omega) (by rw [names_length]; unfold lim; omega) ?_
  rw [binA_geq, optB_some, optB_some, V1.load, partA_false, nth_zero, optB_some]
  have hx : decide ((0 : Int) ≤ fint (idx s (names l))) = (idx s (names l)).isSome := by
    cases idx s (names l) with
    | none => rfl
    | some x => exact decide_eq_true (by show (0 : Int) ≤ (x : Int); omega)
  rw [hx]
  refine c34 l.length (n + 3) (Nat.le_refl _) (by omega) (by omega) o1 O1.c hld ?_
  intro h2 u e2 o2 U
  rw [refF_all G] at U
  have U := U.view
  have O2 := O1.ext e2
  -- the rest, from the program's fields on
  have rest : ∀ hG x9 e10, Ext h2 hG → hG.Ok → Own h2.sz hG 3 x9 ((fieldsOf l s).map encF) → decide (e10 = 0) = (idx s (names l)).isSome →
      (callN E (n + 4) (.func 20) [t, .str s] hG fun v12 h => optB (extA 0 v12) fun v13 => optB (extA 1 v12) fun v14 => optB (fadrA 2 (.ptr p 0 0 0)) fun v15 => optB (loadA h false 1 v15) fun v16 => callN E (n + 4) (.func 18) [t, .str s, v16] h fun v17 h => optB (extA 0 v17) fun v18 => optB (extA 1 v17) fun v19 => l13_18 (callN E (n + 4)) (n + 4) (n + 4) t (.str s) (.ptr p 0 0 0) (.bool (idx s (names l)).isSome) u x9 (.int .i64 e10) v13 v14 v18 v19 .nilSlc (.int .i64 0) h K) = true := by
    intro hG x9 e10 eG oG O9 h10
    have OG := O2.ext eG
    have rest2 : ∀ h5 x11 e12, Ext hG h5 → h5.Ok → Own hG.sz h5 1 x11 ((dueOf l s).map one) → decide (e12 = 0) = (idx s (names l)).isSome →
        (optB (extA 0 (.tup [x11, .int .i64 e12])) fun v13 => optB (extA 1 (.tup [x11, .int .i64 e12])) fun v14 => optB (fadrA 2 (.ptr p 0 0 0)) fun v15 => optB (loadA h5 false 1 v15) fun v16 => callN E (n + 4) (.func 18) [t, .str s, v16] h5 fun v17 h => optB (extA 0 v17) fun v18 => optB (extA 1 v17) fun v19 => l13_18 (callN E (n + 4)) (n + 4) (n + 4) t (.str s) (.ptr p 0 0 0) (.bool (idx s (names l)).isSome) u x9 (.int .i64 e10) v13 v14 v18 v19 .nilSlc (.int .i64 0) h K) = true := by
      intro h5 x11 e12 e5 o5 O11 h12
      have O5 := OG.ext e5
      rw [extA_tup, nth_zero, optB_some, extA_tup, nth_succ, nth_zero, optB_some, fadrA_ptr, optB_some, Nat.zero_add, O5.v.load, partA_false, nth_succ, nth_succ, nth_zero, optB_some]
      refine c18 O5.t A o5 O5.f O5.nm (by omega) (by omega) (by omega) (by omega) (by omega) ?_
      intro h6 e6 o6
      rw [extA_tup, nth_zero, optB_some, extA_tup, nth_succ, nth_zero, optB_some]
      refine l13d o6 (O5.ext e6) A hl hn hL ?_ (n + 4) 0 h6 .nilSlc [] (Ext.refl _) o6 (Nat.zero_le _) (by omega) (Own.nil _ _ _) (Nat.zero_le _) (fun _ => rfl) (fun _ => rfl)
      intro h7 v e7 o7 V
      refine t33 o2 oG O2 A hl hn hL hfs h62 eG (e5.trans (e6.trans e7)) o7 U O9 (O11.ext (e6.trans e7)) V h10 h12 hdl ?_
      intro h8 e8 o8
      exact k h8 (e1.trans (e2.trans e8)) o8
    refine c20o (n := n + 1) OG.t A oG (by omega) (by omega) ?_ ?_
    · intro hi
      refine rest2 hG .nilSlc 10 (Ext.refl _) oG ?_ (by rw [hi]; rfl)
      have : dueOf l s = [] := by unfold dueOf; rw [hi]; rfl
      rw [this]; exact Own.nil _ _ _
    · intro i h5 v hi e5 o5 O11
      refine rest2 h5 v 0 e5 o5 ?_ (by rw [hi]; rfl)
      have : dueOf l s = subsOf l s := by unfold dueOf; rw [hi]; rfl
      rw [this]; exact O11
  refine c16o (n := n + 2) O2.t A o2 (by omega) (by omega) ?_ ?_
  · intro hi
    rw [extA_tup, nth_zero, optB_some, extA_tup, nth_succ, nth_zero, optB_some]
    exact rest h2 .nilSlc 10 (Ext.refl _) o2 (by rw [fieldsOf_none hi]; exact Own.nil _ _ _) (by rw [hi]; rfl)
  · intro i hG x9 hi eG oG O9
    rw [extA_tup, nth_zero, optB_some, extA_tup, nth_succ, nth_zero, optB_some]
    exact rest hG x9 0 eG oG O9 (by rw [hi]; rfl)
end Go.Proofs.Ytjdpdjmmbajglaa
