/-
  A class's fields; their numbers.
-/
import Derived.Test.YtjdpdjmmbajglaaK5
namespace Go.Proofs.Ytjdpdjmmbajglaa
open Go.Ab
set_option linter.unusedSimpArgs false
set_option linter.unusedVariables false

def fieldsOf (l : List Cls) (s : Str) : List Fld := (chain l s).reverse.flatMap Cls.fields

theorem two_fill {f g : AV} (hf : f.leaf = true) (hg : g.leaf = true) : fillRowV 1 (repl 2 [AV.nilSlc]) [(0, f), (1, g)] = some [[f], [g]] := by
  have e1 := cells_leaf hf
  have e2 := cells_leaf hg
  have a1 : allLeaf [f] = true := by show (bif f.leaf then allLeaf [] else false) = true; rw [hf]; rfl
  have a2 : allLeaf [g] = true := by show (bif g.leaf then allLeaf [] else false) = true; rw [hg]; rfl
  simp only [fillRowV, e1, e2, a1, a2, repl]
  rfl

structure FdInv (h0 : AHeap) (t : AV) (tot : List Fld) (regs : Regs) (r : List Cls) (h : AHeap) : Prop where
  ext : Ext h0 h
  ok : h.Ok
  sz : h0.sz + 4 ≤ h.sz
  p : Var h (h0.sz + 1) [t]
  y : h.get (h0.sz + 3) = some (Lp regs [15] c16_17 c16_18 .ready)
  cur : ∃ v fs, Var h h0.sz [v] ∧ Own h0.sz h 3 v (fs.map encF) ∧ tot = r.reverse.flatMap Cls.fields ++ fs

theorem c16o {n : Nat} {h : AHeap} {t : AV} {l : List Cls} {s : Str} {K : Kont} (T : TableRep h t l) (A : Asc l) (ho : h.Ok) (hn : l.length + 8 < n) (hT : (fieldsOf l s).length < 1000000)
    (k0 : idx s (names l) = none → K (.tup [.nilSlc, .int .i64 10]) h = true)
    (k : ∀ i h' v, idx s (names l) = some i → Ext h h' → h'.Ok → Own h.sz h' 3 v ((fieldsOf l s).map encF) → K (.tup [v, .int .i64 0]) h' = true) : callN E (n + 2) (.func 16) [t, .str s] h K = true := by
  obtain ⟨id, lv, mid, rfl, V0, C0, M0⟩ := T
  have T : TableRep h (.ptr id 0 0 0) l := ⟨id, lv, mid, rfl, V0, C0, M0⟩
  apply d16
  unfold s16
  refine c19 T ?_
  simp only [notA_bool, optB_some]
  cases hi : idx s (names l) with
  | none =>
    simp only [Option.isSome_none, Bool.not_false, condB_true]
    exact k0 hi
  | some i =>
  simp only [Option.isSome_some, Bool.not_true, condB_false]
  unfold p16_10
  rw [alloc_eq (by decide) rfl, optP_some]
  have o2 := ok_newRow ho [[AV.nilSlc]] 1
  have e2 := ext_newRow ho [[AV.nilSlc]] 1
  have V2 := var_new h [AV.nilSlc]
  show callN E (n + 1) (.func 38) _ (Ab.newRow h [[AV.nilSlc]] 1) _ = true
  simp only [List.length_cons, List.length_nil, Nat.zero_add] at V2
  have s2 : (Ab.newRow h [[AV.nilSlc]] 1).sz = h.sz + 1 := rfl
  generalize hh2 : Ab.newRow h [[AV.nilSlc]] 1 = h2 at *
  refine c38 ?_
  have o3 := ok_newRow o2 [[AV.ptr id 0 0 0]] 1
  have e3 := ext_newRow o2 [[AV.ptr id 0 0 0]] 1
  have V3 := var_new h2 [AV.ptr id 0 0 0]
  have o4 := ok_newRow o3 [[AV.str s]] 1
  have e4 := ext_newRow o3 [[AV.str s]] 1
  have V4 := var_new (Ab.newRow h2 [[AV.ptr id 0 0 0]] 1) [AV.str s]
  have s4 : (Ab.newRow (Ab.newRow h2 [[AV.ptr id 0 0 0]] 1) [[AV.str s]] 1).sz = h.sz + 3 := by simp [s2]
  simp only [List.length_cons, List.length_nil, Nat.zero_add] at V3 V4
  generalize hh4 : Ab.newRow (Ab.newRow h2 [[AV.ptr id 0 0 0]] 1) [[AV.str s]] 1 = h4 at *
  simp only [newRow_sz, s2] at V2 V3 V4 ⊢
  have E4 : Ext h h4 := e2.trans (e3.trans e4)
  generalize hreg : mkR [(6, AV.ptr h.sz 0 0 0), (14, AV.fn (AFn.func 50) [] [AV.ptr (h.sz + 1) 0 0 0, AV.ptr (h.sz + 1 + 1) 0 0 0])] = regs
  obtain ⟨n, rfl⟩ : ∃ k, n = k + 4 := ⟨n - 4, by omega⟩
  have e5 := ext_push o4 (Lp regs [15] c16_17 c16_18 .ready)
  refine rf_up (t := .ptr id 0 0 0) (l := l) (s := s) (hb := h) A T (by omega) (FdInv h (.ptr id 0 0 0) (fieldsOf l s) regs) (fun x h' => False) (V4.ext e5) ?_ ?_ ?_ ?_ ?_
  · intro r h' I
    exact ⟨I.ext, I.p, by rw [s4]; exact I.y⟩
  · refine ⟨E4.trans e5, o4.push _, by simp [s4], V3.ext (e4.trans e5), ?_, .nilSlc, [], V2.ext (e3.trans (e4.trans e5)), Own.nil _ _ _, by simp [fieldsOf]⟩
    rw [← s4]; exact get_push_same _ _
  · intro c r h' f K' I hf k1 _
    rw [s4]
    have hy := I.y
    rw [← hreg] at hy
    refine y16_16_run (fun _ => rfl) hy ?_
    rw [hreg] at hy
    unfold y16_16
    rw [alloc_set (n := 3) rfl (by decide) rfl rfl (leaf3 hf.leaf)]
    obtain ⟨v, fs, W, OW, htot⟩ := I.cur
    have VW := OW.view
    have o6 := ok_newRow I.ok [[AV.str c.name, AV.str c.super, f]] 3
    have e6 := ext_newRow I.ok [[AV.str c.name, AV.str c.super, f]] 3
    have V6 := var_new h' [AV.str c.name, AV.str c.super, f]
    have hc : (AV.agg [AV.str c.name, AV.str c.super, f]).cells = [AV.str c.name, AV.str c.super, f] := rfl
    rw [hc]
    simp only [List.length_cons, List.length_nil, Nat.zero_add] at V6
    have s6 : (Ab.newRow h' [[AV.str c.name, AV.str c.super, f]] 3).sz = h'.sz + 1 := rfl
    generalize Ab.newRow h' [[AV.str c.name, AV.str c.super, f]] 3 = h6 at *
    have hsz := I.sz
    rw [busy_eq (e6.2 _ _ hy)]
    have V7 := V6.other (j := h.sz + 3) (by omega) (Lp regs [15] c16_17 c16_18 .busy)
    have W7 := (W.ext e6).other (j := h.sz + 3) (by omega) (Lp regs [15] c16_17 c16_18 .busy)
    have P7 := (I.p.ext e6).other (j := h.sz + 3) (by omega) (Lp regs [15] c16_17 c16_18 .busy)
    have hf6 := hf.ext (I.ext.trans e6)
    have VW6 := VW.ext e6
    have g7 := get_put_same h6 (h.sz + 3) (Lp regs [15] c16_17 c16_18 .busy)
    have x7 := ext_put (I.ext.trans e6) ho (show h.sz ≤ h.sz + 3 by omega) (Lp regs [15] c16_17 c16_18 .busy)
    have o7 := o6.put (show h.sz + 3 < h6.sz by omega) (Lp regs [15] c16_17 c16_18 .busy)
    have s7 : (h6.put (h.sz + 3) (Lp regs [15] c16_17 c16_18 .busy)).sz = h'.sz + 1 := by simp [s6]
    have viewput : ∀ {v : AV} {es : List (List AV)}, View h6 3 v es → View (h6.put (h.sz + 3) (Lp regs [15] c16_17 c16_18 .busy)) 3 v es := by
      intro v es hv
      rcases hv with hv | ⟨i', g', s', cp, ex, rr, w1, w2, w3⟩
      · exact .inl hv
      · refine .inr ⟨i', g', s', cp, ex, rr, w1, ?_, w3⟩
        rw [AHeap.row_some] at w2 ⊢
        have hne : i' ≠ h.sz + 3 := by
          intro e
          rw [e] at w2
          have := e6.2 _ _ hy
          rw [this] at w2; cases w2
        rw [get_put_ne hne]; exact w2
    have hf7 := viewput hf6
    have VW7 := viewput VW6
    generalize h6.put (h.sz + 3) (Lp regs [15] c16_17 c16_18 .busy) = h7 at *
    simp only [fadrA_ptr, optB_some, V7.load, W7.load, partA_false, Nat.zero_add, nth_zero, nth_succ]
    obtain ⟨w, ew, Vw⟩ := bslice_view (h := h7) (n := 2) (sz := 1) (z := [AV.nilSlc]) (ps := [(0, f), (1, v)]) (es := [[f], [v]]) rfl (by decide) (by decide) rfl (two_fill hf.leaf VW.leaf) rfl
    rw [ew, optP_some]
    have e8 := ext_newRow o7 [[f], [v]] 1
    have o8 := ok_newRow o7 [[f], [v]] 1
    have s8 : (Ab.newRow h7 [[f], [v]] 1).sz = h'.sz + 2 := by simp [s7]
    have hbound : (fieldsOf l s).length = (r.reverse.flatMap Cls.fields).length + (c.fields.length + fs.length) := by
      rw [htot]; simp [Nat.add_assoc]
    generalize Ab.newRow h7 [[f], [v]] 1 = h8 at *
    refine c39o (A := c.fields.map encF) (B := fs.map encF) o8 Vw (hf7.ext e8) (VW7.ext e8) (by simp only [List.length_map]; omega) (by omega) ?_
    intro h9 u e9 o9 Vu
    have W9 := W7.ext (e8.trans e9)
    rw [W9.set1 (by simp) Vu.view.leaf, unit, optP_some]
    have g9 := (e8.trans e9).2 _ _ g7
    have s9 := e9.1
    have hg : (h9.put h.sz (.row (VRow ([v].set 0 u)))).get (h.sz + 3) = some (Lp regs [15] c16_17 c16_18 .busy) := by rw [get_put_ne (by omega)]; exact g9
    rw [end_normal hg]
    have hne : ∀ {j : Nat} {rr : Row}, h9.row j = some rr → j ≠ h.sz → j ≠ h.sz + 3 → ((h9.put h.sz (.row (VRow ([v].set 0 u)))).put (h.sz + 3) (Lp regs [15] c16_17 c16_18 .ready)).row j = some rr := by
      intro j rr hj h1 h2
      rw [AHeap.row_some] at hj ⊢
      rw [get_put_ne h2, get_put_ne h1]; exact hj
    refine k1 _ ⟨ext_put (ext_put (x7.trans (e8.trans e9)) ho (Nat.le_refl _) _) ho (by omega) _, (o9.put (by omega) _).put (by simp; omega) _, by simp; omega, ((P7.ext (e8.trans e9)).other (by omega) _).other (by omega) _, get_put_same _ _ _, u, c.fields ++ fs, (var_put (h := h9) h.sz [u]).other (by omega) _, ?_, ?_⟩
    · rcases Vu with Vu | ⟨id', rr, w0, w1, w2, w3, w4, w5, w6⟩
      · exact .inl (by simpa using Vu)
      · exact .inr ⟨id', rr, by omega, by simpa using w1, hne w2 (by omega) (by omega), w3, w4, w5, by simpa using w6⟩
    · rw [htot]; simp
  · intro h' I
    rw [s4]
    unfold p16_20
    have hsz := I.sz
    obtain ⟨v, fs, W, VW, htot⟩ := I.cur
    simp only [List.reverse_nil, List.flatMap_nil, List.nil_append] at htot
    have W2 := W.other (j := h.sz + 3) (by omega) (Lp regs [15] c16_17 c16_18 .exh)
    rw [W2.load, partA_false, nth_zero, optB_some]
    refine k i _ v hi (ext_put I.ext ho (by omega) _) (I.ok.put (by omega) _) ?_
    rw [htot]
    rcases VW with hv | ⟨i', rr, w0, w1, w2, w3, w4, w5, w6⟩
    · exact .inl hv
    · refine .inr ⟨i', rr, w0, w1, ?_, w3, w4, w5, w6⟩
      rw [AHeap.row_some] at w2 ⊢
      have hne : i' ≠ h.sz + 3 := by
        intro e
        rw [e, I.y] at w2; cases w2
      rw [get_put_ne hne]; exact w2
  · intro x h' hf; exact hf.elim

theorem c16 {n : Nat} {h : AHeap} {t : AV} {l : List Cls} {s : Str} {K : Kont} (T : TableRep h t l) (A : Asc l) (ho : h.Ok) (hn : l.length + 8 < n) (hT : (fieldsOf l s).length < 1000000)
    (k0 : idx s (names l) = none → K (.tup [.nilSlc, .int .i64 10]) h = true)
    (k : ∀ i h' v, idx s (names l) = some i → Ext h h' → h'.Ok → View h' 3 v ((fieldsOf l s).map encF) → K (.tup [v, .int .i64 0]) h' = true) : callN E (n + 2) (.func 16) [t, .str s] h K = true :=
  c16o T A ho hn hT k0 fun i h' v hi e o O => k i h' v hi e o O.view
end Go.Proofs.Ytjdpdjmmbajglaa
