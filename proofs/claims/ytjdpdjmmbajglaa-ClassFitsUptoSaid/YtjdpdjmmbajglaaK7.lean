/-
  Fields' numbers, masks; what extends a class.
-/
import Derived.Test.YtjdpdjmmbajglaaK6
namespace Go.Proofs.Ytjdpdjmmbajglaa
open Go.Ab
set_option linter.unusedSimpArgs false
set_option linter.unusedVariables false

theorem encF_leaf (f : Fld) : allLeaf (AV.agg (encF f)).cells = true := rfl

theorem c49 {n : Nat} {h : AHeap} {f : Fld} {p : Nat} {s : Str} {K : Kont} (ho : h.Ok) (V : Var h p [.str s]) (k : ∀ h', Ext h h' → h'.Ok → K (.bool (decide (f.name = s))) h' = true) :
    callN E (n + 1) (.func 49) [.agg (encF f), .ptr p 0 0 0] h K = true := by
  apply d49
  unfold s49
  rw [box_eq (n := 3) rfl (by decide) (encF_leaf f), optP_some]
  have e := ext_newRow ho [encF f] 3
  have V2 := var_new h (encF f)
  have hl : (encF f).length = 3 := rfl
  rw [hl] at V2
  have hc : (AV.agg (encF f)).cells = encF f := rfl
  rw [hc]
  have o := ok_newRow ho [encF f] 3
  generalize Ab.newRow h [encF f] 3 = h2 at *
  simp only [fadrA_ptr, optB_some, V2.load, (V.ext e).load, partA_false, Nat.zero_add, nth_zero, encF, binA_seql]
  exact k h2 e o

def fnames (fs : List Fld) : List Str := fs.map Fld.name

theorem l48 {n : Nat} {v : AV} {fs : List Fld} {p : Nat} {s : Str} {K : Kont} {h0 : AHeap} (V : View h0 3 v (fs.map encF)) (P : Var h0 p [.str s]) (hl : fs.length < lim)
    (k : ∀ h', Ext h0 h' → h'.Ok → K (.int .i64 (fint (idx s (fnames fs)))) h' = true) : ∀ (m i : Nat) (h : AHeap), Ext h0 h → h.Ok → i ≤ fs.length → fs.length - i < m → idx s (fnames fs) = off i (idx s (fnames (fs.drop i))) →
    l48_6 (callN E (n + 1)) (n + 1) m v (.fn (.func 49) [] [.ptr p 0 0 0]) (.int .i64 (fs.length : Int)) (.int .i64 (i : Int)) h K = true := by
  intro m
  induction m with
  | zero => intro i h _ _ _ hm; omega
  | succ m ih =>
    intro i h e ho hi hm hx
    rw [l48_6_s]
    unfold b48_6
    by_cases hlt : i < fs.length
    · have hd : fs.drop i = fs[i] :: fs.drop (i + 1) := List.drop_eq_getElem_cons hlt
      have he : (fs.map encF)[i]? = some (encF fs[i]) := by simp [hlt]
      obtain ⟨id, g, j, p1, p2⟩ := (V.ext e).at he
      rw [binA_lss, optB_some, condB_t (by simpa using hlt), p1, optB_some, p2]
      have hp : partA true 0 3 (encF fs[i]) = some (.agg (encF fs[i])) := rfl
      rw [hp, optB_some, callV_fn]
      simp only [List.nil_append, List.cons_append]
      refine c49 ho (P.ext e) ?_
      intro h' e' o'
      rw [hd] at hx
      simp only [fnames, List.map_cons, idx] at hx
      by_cases hs : fs[i].name = s
      · rw [condB_t (by simpa using hs)]
        have := k h' (e.trans e') o'
        simp only [fnames] at this
        rw [hx] at this
        simpa [hs, off, fint] using this
      · rw [condB_f (by simpa using hs), inc64 (by omega), optB_some]
        refine ih (i + 1) h' (e.trans e') o' (by omega) (by omega) ?_
        rw [if_neg hs] at hx
        simp only [fnames]
        rw [hx]
        cases idx s (List.map Fld.name (List.drop (i + 1) fs)) with
        | none => rfl
        | some x => simp [off]; omega
    · have : fs.drop i = [] := List.drop_of_length_le (by omega)
      rw [this] at hx
      rw [binA_lss, optB_some, condB_f (by simpa using hlt)]
      have := k h e ho
      rw [hx] at this
      exact this

theorem c48 {n : Nat} {v : AV} {fs : List Fld} {p : Nat} {s : Str} {K : Kont} {h : AHeap} (ho : h.Ok) (V : View h 3 v (fs.map encF)) (P : Var h p [.str s]) (hl : fs.length < lim) (hn : fs.length < n)
    (k : ∀ h', Ext h h' → h'.Ok → K (.int .i64 (fint (idx s (fnames fs)))) h' = true) : callN E (n + 2) (.func 48) [v, .fn (.func 49) [] [.ptr p 0 0 0]] h K = true := by
  apply d48
  unfold s48
  rw [V.len, optB_some]
  simp only [List.length_map]
  exact l48 V P hl k (n + 1) 0 h (Ext.refl h) ho (by omega) (by omega) (by rw [off0]; rfl)

/-- Index's answer. -/
def indexOf (l : List Cls) (s f : Str) : Int × Int :=
  match idx s (names l) with
  | none => (0, 10)
  | some _ => match idx f (fnames (fieldsOf l s)) with
    | none => (0, 11)
    | some i => (i, 0)

theorem c36 {n : Nat} {h : AHeap} {t : AV} {l : List Cls} {s f : Str} {K : Kont} (T : TableRep h t l) (A : Asc l) (ho : h.Ok) (hn : l.length + 8 < n) (hT : (fieldsOf l s).length < 1000000) (hn2 : (fieldsOf l s).length + 2 < n)
    (k : ∀ h', Ext h h' → h'.Ok → K (.tup [.int .i64 (indexOf l s f).1, .int .i64 (indexOf l s f).2]) h' = true) : callN E (n + 3) (.func 36) [t, .str s, .str f] h K = true := by
  apply d36
  unfold s36
  rw [box_eq (n := 1) rfl (by decide) rfl, optP_some]
  have e1 := ext_newRow ho [(AV.str f).cells] 1
  have o1 := ok_newRow ho [(AV.str f).cells] 1
  have V1 := var_new h [AV.str f]
  simp only [List.length_cons, List.length_nil, Nat.zero_add] at V1
  have hc : (AV.str f).cells = [AV.str f] := rfl
  rw [hc] at e1 o1 ⊢
  generalize Ab.newRow h [[AV.str f]] 1 = h1 at *
  refine c16 (T.ext e1) A o1 (by omega) hT ?_ ?_
  · intro hi
    simp only [extA_tup, nth_zero, nth_succ, optB_some, binA_neq]
    rw [condB_t (by decide)]
    have := k h1 e1 o1
    simp only [indexOf, hi] at this
    exact this
  · intro i h2 v hi e2 o2 V
    simp only [extA_tup, nth_zero, nth_succ, optB_some, binA_neq]
    rw [condB_f (by decide)]
    obtain ⟨n, rfl⟩ : ∃ j, n = j + 1 := ⟨n - 1, by omega⟩
    refine c48 o2 V (V1.ext e2) (by unfold lim; omega) (by omega) ?_
    intro h3 e3 o3
    rw [binA_lss, optB_some]
    have := k h3 (e1.trans (e2.trans e3)) o3
    cases hx : idx f (fnames (fieldsOf l s)) with
    | none =>
      simp only [indexOf, hi, hx] at this
      rw [condB_t (by simp [fint])]
      exact this
    | some x =>
      simp only [indexOf, hi, hx] at this
      rw [condB_f (decide_eq_false (by simp only [fint]; omega))]
      exact this

/-! ### Masks -/
def shl1 (i : Nat) : Int := IntKind.u64.wrap (1 * 2 ^ (min i 64))
def orU (a b : Int) : Int := IntKind.u64.wrap ((BitVec.ofInt 64 a ||| BitVec.ofInt 64 b).toNat : Nat)

theorem shl_eq (k : IntKind) (i : Nat) : binA .shl (.int .u64 1) (.int k (i : Int)) = some (.int .u64 (shl1 i)) := by
  have : iltb (i : Int) 0 = false := by rw [iltb_dec]; simp
  simp only [binA, isShift, cond_true, shiftA, this, cond_false]
  rfl
theorem or_eq (a b : Int) : binA .or (.int .u64 a) (.int .u64 b) = some (.int .u64 (orU a b)) := by
  rw [binA_ints _ _ _ _ rfl]; rfl

def maskGo (fn : List Str) : List Str → Int → Option Int
  | [], m => some m
  | f :: fs, m => match idx f fn with
    | none => none
    | some i => maskGo fn fs (orU m (shl1 i))

def maskOf (l : List Cls) (s : Str) (fs : List Str) : Int × Int :=
  match idx s (names l) with
  | none => (0, 10)
  | some _ => match maskGo (fnames (fieldsOf l s)) fs 0 with
    | none => (0, 11)
    | some m => (m, 0)

theorem l18 {n : Nat} {h0 : AHeap} {t v : AV} {es : List (List AV)} {l : List Cls} {s : Str} {fs : List Str} {K : Kont} (T : TableRep h0 t l) (A : Asc l) (V : View h0 1 v es) (N : Named es fs) {j : Nat} (hj : idx s (names l) = some j) (hl : fs.length < lim)
    (hn : l.length + 8 < n) (hT : (fieldsOf l s).length < 1000000) (hn2 : (fieldsOf l s).length + 2 < n) : ∀ (m i : Nat) (x : Int) (h : AHeap), Ext h0 h → h.Ok → i ≤ fs.length → fs.length - i < m →
    (∀ h', Ext h0 h' → h'.Ok → match maskGo (fnames (fieldsOf l s)) (fs.drop i) x with
      | none => K (.tup [.int .u64 0, .int .i64 11]) h' = true
      | some y => K (.tup [.int .u64 y, .int .i64 0]) h' = true) →
    l18_16 (callN E (n + 3)) (n + 3) m t (.str s) (.int .u64 x) v (.int .i64 (fs.length : Int)) (.int .i64 (i : Int)) h K = true := by
  intro m
  induction m with
  | zero => intro i x h _ _ _ hm; omega
  | succ m ih =>
    intro i x h e ho hi hm k
    rw [l18_16_s]
    unfold b18_16
    by_cases hlt : i < fs.length
    · have hd : fs.drop i = fs[i] :: fs.drop (i + 1) := List.drop_eq_getElem_cons hlt
      obtain ⟨q, he, hq⟩ := N.get (List.getElem?_eq_getElem hlt)
      obtain ⟨id, g, jj, p1, p2⟩ := (V.ext e).at he
      rw [binA_lss, optB_some, condB_t (by simpa using hlt), p1, optB_some, p2, partA_false, hq, optB_some]
      refine c36 (T.ext e) A ho hn hT hn2 ?_
      intro h' e' o'
      rw [hd] at k
      simp only [extA_tup, nth_zero, nth_succ, optB_some, binA_neq]
      simp only [maskGo] at k
      simp only [indexOf, hj]
      cases hx : idx fs[i] (fnames (fieldsOf l s)) with
      | none =>
        rw [condB_t (by decide)]
        have := k h' (e.trans e') o'
        simp only [hx] at this
        exact this
      | some y =>
        rw [condB_f (show (!decide ((0 : Int) = 0)) = false from rfl), shl_eq, optB_some, or_eq, optB_some, inc64 (by omega), optB_some]
        refine ih (i + 1) _ h' (e.trans e') o' (by omega) (by omega) ?_
        intro h2 e2 o2
        have := k h2 e2 o2
        simp only [hx] at this
        exact this
    · have : fs.drop i = [] := List.drop_of_length_le (by omega)
      rw [this] at k
      rw [binA_lss, optB_some, condB_f (by simpa using hlt)]
      exact k h e ho

theorem c18 {n : Nat} {h : AHeap} {t v : AV} {es : List (List AV)} {l : List Cls} {s : Str} {fs : List Str} {K : Kont} (T : TableRep h t l) (A : Asc l) (ho : h.Ok) (V : View h 1 v es) (N : Named es fs) (hl : fs.length < lim) (hl2 : fs.length < n)
    (hn : l.length + 8 < n) (hT : (fieldsOf l s).length < 1000000) (hn2 : (fieldsOf l s).length + 2 < n)
    (k : ∀ h', Ext h h' → h'.Ok → K (.tup [.int .u64 (maskOf l s fs).1, .int .i64 (maskOf l s fs).2]) h' = true) : callN E (n + 4) (.func 18) [t, .str s, v] h K = true := by
  apply d18
  unfold s18
  refine c19 T ?_
  simp only [notA_bool, optB_some]
  cases hi : idx s (names l) with
  | none =>
    simp only [Option.isSome_none, Bool.not_false, condB_true]
    have := k h (Ext.refl h) ho
    simp only [maskOf, hi] at this
    exact this
  | some i =>
    simp only [Option.isSome_some, Bool.not_true, condB_false]
    unfold p18_10
    rw [V.len, optB_some, N.length]
    refine l18 T A V N hi hl hn hT hn2 (n + 3) 0 0 h (Ext.refl h) ho (by omega) (by omega) ?_
    intro h' e' o'
    have := k h' e' o'
    simp only [maskOf, hi] at this
    rw [List.drop_zero]
    cases hm : maskGo (fnames (fieldsOf l s)) fs 0 with
    | none => simp only [hm] at this; exact this
    | some m => simp only [hm] at this; exact this

/-! ### What extends a class -/
def subsOf (l : List Cls) (s : Str) : List Str := (l.filter fun c => (chain l c.name).any fun d => decide (d.name = s)).map Cls.name

theorem one_fill (s : Str) : fillRowV 1 (repl 1 [AV.str []]) [(0, AV.str s)] = some [[AV.str s]] := rfl

theorem l20 {n : Nat} {h0 : AHeap} {t lv : AV} {l : List Cls} {s : Str} {K : Kont} (T : TableRep h0 t l) (C : CV h0 lv l) (A : Asc l) (o0 : h0.Ok) (hl : l.length < 1000000) (hn : l.length + 4 < n)
    (k : ∀ h' v, Ext h0 h' → h'.Ok → Own h0.sz h' 1 v ((subsOf l s).map fun w => [AV.str w]) → K (.tup [v, .int .i64 0]) h' = true) : ∀ (m i : Nat) (v : AV) (done : List Str) (h : AHeap), Ext h0 h → h.Ok → i ≤ l.length → l.length - i < m → Own h0.sz h 1 v (done.map fun w => [AV.str w]) →
    done.length ≤ i → subsOf l s = done ++ ((l.drop i).filter fun c => (chain l c.name).any fun d => decide (d.name = s)).map Cls.name →
    l20_16 (callN E (n + 2)) (n + 2) m t (.str s) v lv (.int .i64 (l.length : Int)) (.int .i64 (i : Int)) h K = true := by
  intro m
  induction m with
  | zero => intro i v done h _ _ _ hm; omega
  | succ m ih =>
    intro i v done h e ho hi hm O hdl hx
    rw [l20_16_s]
    unfold b20_16
    by_cases hlt : i < l.length
    · have hd : l.drop i = l[i] :: l.drop (i + 1) := List.drop_eq_getElem_cons hlt
      obtain ⟨id, g, j, f, p1, p2, p3, p4, p5, p6⟩ := (C.ext e).at (List.getElem?_eq_getElem hlt)
      rw [binA_lss, optB_some, condB_t (by simpa using hlt), p1, optB_some, p2, optB_some]
      rw [alloc_set (n := 3) rfl (by decide) rfl rfl (leaf3 p6.leaf)]
      have o6 := ok_newRow ho [[AV.str l[i].name, AV.str l[i].super, f]] 3
      have e6 := ext_newRow ho [[AV.str l[i].name, AV.str l[i].super, f]] 3
      have V6 := var_new h [AV.str l[i].name, AV.str l[i].super, f]
      have hc : (AV.agg [AV.str l[i].name, AV.str l[i].super, f]).cells = [AV.str l[i].name, AV.str l[i].super, f] := rfl
      rw [hc]
      simp only [List.length_cons, List.length_nil, Nat.zero_add] at V6
      have O6 : Own h0.sz (Ab.newRow h [[AV.str l[i].name, AV.str l[i].super, f]] 3) 1 v (done.map fun w => [AV.str w]) := by
        rcases O with O | ⟨id, r, q1, q2, q3, q4⟩
        · exact .inl O
        · exact .inr ⟨id, r, q1, q2, e6.row q3, q4⟩
      have s6 : (Ab.newRow h [[AV.str l[i].name, AV.str l[i].super, f]] 3).sz = h.sz + 1 := rfl
      generalize Ab.newRow h [[AV.str l[i].name, AV.str l[i].super, f]] 3 = h6 at *
      simp only [fadrA_ptr, optB_some, V6.load, partA_false, Nat.zero_add, nth_zero]
      refine c14 (T.ext (e.trans e6)) A o6 (by omega) ?_
      intro h7 e7 o7
      have O7 : Own h0.sz h7 1 v (done.map fun w => [AV.str w]) := by
        rcases O6 with O | ⟨id, r, q1, q2, q3, q4⟩
        · exact .inl O
        · exact .inr ⟨id, r, q1, q2, e7.row q3, q4⟩
      rw [hd, List.filter_cons] at hx
      cases hb : (chain l l[i].name).any fun d => decide (d.name = s) with
      | false =>
        rw [condB_false]
        unfold p20_32
        rw [inc64 (by unfold lim; omega), optB_some]
        refine ih (i + 1) v done h7 (e.trans (e6.trans e7)) o7 (by omega) (by omega) O7 (by omega) ?_
        rw [hx, hb]; rfl
      | true =>
        rw [condB_true]
        simp only [fadrA_ptr, optB_some, (V6.ext e7).load, partA_false, Nat.zero_add, nth_zero]
        obtain ⟨w, ew, Vw⟩ := bslice_view (h := h7) (n := 1) (sz := 1) (z := [AV.str []]) (ps := [(0, AV.str l[i].name)]) (es := [[AV.str l[i].name]]) rfl (by decide) (by decide) rfl (one_fill _) rfl
        rw [ew, optP_some]
        have e8 := ext_newRow o7 [[AV.str l[i].name]] 1
        have o8 := ok_newRow o7 [[AV.str l[i].name]] 1
        have O8 : Own h0.sz (Ab.newRow h7 [[AV.str l[i].name]] 1) 1 v (done.map fun w => [AV.str w]) := by
          rcases O7 with O | ⟨id, r, q1, q2, q3, q4⟩
          · exact .inl O
          · exact .inr ⟨id, r, q1, q2, e8.row q3, q4⟩
        have E8 := e.trans (e6.trans (e7.trans e8))
        generalize Ab.newRow h7 [[AV.str l[i].name]] 1 = h8 at *
        obtain ⟨v', h9, a1, a2, a3, a4, a5, a6, _⟩ := O8.app (bytes := 16) (by decide) E8.1 o8 o0 E8 (Nat.le_refl _) Vw.src (by simp only [List.length_map, List.length_cons, List.length_nil]; unfold most; omega) (by simp only [List.length_map, List.length_cons, List.length_nil]; unfold most; omega)
        rw [a1, optP_some]
        unfold p20_32
        rw [inc64 (by unfold lim; omega), optB_some]
        refine ih (i + 1) v' (done ++ [l[i].name]) h9 a4 a3 (by omega) (by omega) (by simpa using a2) (by simp; omega) ?_
        rw [hx, hb]; simp
    · have : l.drop i = [] := List.drop_of_length_le (by omega)
      rw [this] at hx
      rw [binA_lss, optB_some, condB_f (by simpa using hlt)]
      simp only [List.filter_nil, List.map_nil, List.append_nil] at hx
      exact k h v e ho (by rw [hx]; exact O)

theorem c20o {n : Nat} {h : AHeap} {t : AV} {l : List Cls} {s : Str} {K : Kont} (T : TableRep h t l) (A : Asc l) (ho : h.Ok) (hl : l.length < 1000000) (hn : l.length + 4 < n)
    (k0 : idx s (names l) = none → K (.tup [.nilSlc, .int .i64 10]) h = true)
    (k : ∀ i h' v, idx s (names l) = some i → Ext h h' → h'.Ok → Own h.sz h' 1 v ((subsOf l s).map fun w => [AV.str w]) → K (.tup [v, .int .i64 0]) h' = true) : callN E (n + 3) (.func 20) [t, .str s] h K = true := by
  apply d20
  unfold s20
  refine c19 T ?_
  simp only [notA_bool, optB_some]
  cases hi : idx s (names l) with
  | none =>
    simp only [Option.isSome_none, Bool.not_false, condB_true]
    exact k0 hi
  | some i =>
    simp only [Option.isSome_some, Bool.not_true, condB_false]
    unfold p20_10
    have T2 := T
    obtain ⟨id, lv, mid, rfl, V, C, M⟩ := T
    simp only [nilckA_ptr, optB_some, fadrA_ptr, V.load, partA_false, Nat.zero_add, nth_zero, C.len]
    exact l20 T2 C A ho hl hn (fun h' v => k i h' v hi) (n + 2) 0 .nilSlc [] h (Ext.refl h) ho (by omega) (by omega) (Own.nil _ _ _) (by simp) (by simp [subsOf])

theorem c20 {n : Nat} {h : AHeap} {t : AV} {l : List Cls} {s : Str} {K : Kont} (T : TableRep h t l) (A : Asc l) (ho : h.Ok) (hl : l.length < 1000000) (hn : l.length + 4 < n)
    (k0 : idx s (names l) = none → K (.tup [.nilSlc, .int .i64 10]) h = true)
    (k : ∀ i h' v, idx s (names l) = some i → Ext h h' → h'.Ok → View h' 1 v ((subsOf l s).map fun w => [AV.str w]) → K (.tup [v, .int .i64 0]) h' = true) : callN E (n + 3) (.func 20) [t, .str s] h K = true :=
  c20o T A ho hl hn k0 fun i h' v hi e o O => k i h' v hi e o O.view
end Go.Proofs.Ytjdpdjmmbajglaa
