/-
  Ranging upwards; what extends what.
-/
import Derived.Test.YtjdpdjmmbajglaaK3
namespace Go.Proofs.Ytjdpdjmmbajglaa
open Go.Ab
set_option linter.unusedSimpArgs false
set_option linter.unusedVariables false

theorem leaf3 {a b : Str} {f : AV} (h : f.leaf = true) : allLeaf (AV.agg [AV.str a, AV.str b, f]).cells = true := by
  show (bif f.leaf then allLeaf [] else false) = true
  rw [h]; rfl

def Lp (regs : Regs) (ps : List Nat) (asg body : ACode) (st : LState) : AObj := .loop { regs, ps, asg, body, st }

theorem busy_eq {h : AHeap} {id : Nat} {regs : Regs} {ps : List Nat} {asg body : ACode} {k : AHeap → Bool} (hg : h.get id = some (Lp regs ps asg body .ready)) : busyB id h k = k (h.put id (Lp regs ps asg body .busy)) := by
  unfold busyB Lp at *; simp only [hg]
theorem end_normal {h : AHeap} {id : Nat} {regs : Regs} {ps : List Nat} {asg body : ACode} {K : Kont} (hg : h.get id = some (Lp regs ps asg body .busy)) : endY id K .normal h = K (.bool true) (h.put id (Lp regs ps asg body .ready)) := by
  unfold endY Lp at *; simp only [hg]
theorem end_ret {h : AHeap} {id : Nat} {regs : Regs} {ps : List Nat} {asg body : ACode} {K : Kont} (hg : h.get id = some (Lp regs ps asg body .busy)) : endY id K .ret h = K (.bool false) (h.put id (Lp regs ps asg body (.done .ret))) := by
  unfold endY Lp at *; simp only [hg]

theorem rf_up {n : Nat} {h hb : AHeap} {t : AV} {l : List Cls} {s : Str} {p1 p2 : Nat} {regs : Regs} {ps : List Nat} {asg body : ACode} {Kx : AExit → AHeap → Bool} (A : Asc l) (T : TableRep hb t l) (hm : l.length + 1 < n) (Inv : List Cls → AHeap → Prop) (Stop : AExit → AHeap → Prop)
    (V2 : Var (h.push (Lp regs ps asg body .ready)) p2 [.str s])
    (hI : ∀ r h', Inv r h' → Ext hb h' ∧ Var h' p1 [t] ∧ h'.get h.sz = some (Lp regs ps asg body .ready))
    (start : Inv (chain l s) (h.push (Lp regs ps asg body .ready)))
    (step : ∀ c r h' f K, Inv (c :: r) h' → View hb 3 f (c.fields.map encF) → (∀ h'', Inv r h'' → K (.bool true) h'' = true) → (∀ x h'', Stop x h'' → K (.bool false) h'' = true) → callN E n (.yield h.sz) [.agg [.str c.name, .str c.super, f]] h' K = true)
    (fin : ∀ h', Inv [] h' → Kx .normal (h'.put h.sz (Lp regs ps asg body .exh)) = true)
    (stop : ∀ x h', Stop x h' → h'.get h.sz = some (Lp regs ps asg body (.done x)) ∧ Kx x (h'.put h.sz (Lp regs ps asg body .exh)) = true) :
    rfS (callN E (n + 1)) (.fn (.func 50) [] [.ptr p1 0 0 0, .ptr p2 0 0 0]) regs ps asg body h Kx = true := by
  unfold rfS
  simp only [List.nil_append, List.cons_append]
  apply d50
  unfold s50
  obtain ⟨xe, V1, hg⟩ := hI _ _ start
  have T0 := T
  obtain ⟨id, lv, mid, rfl, V, C, M⟩ := T
  have hs : h.push (.loop { regs, ps, asg, body, st := .ready }) = h.push (Lp regs ps asg body .ready) := rfl
  rw [hs]
  simp only [V1.load, partA_false, nth_zero, nth_succ, optB_some, nilckA_ptr, fadrA_ptr, Nat.zero_add, (V.ext xe).load, V2.load, (M.ext xe).look2, extA_tup]
  have key : (chain l s).length < n := by
    cases hi : idx s (names l) with
    | none => rw [chain_none hi]; simp; omega
    | some i =>
      have h1 := chain_length A i hi
      have h2 := (idx_lt hi).1
      rw [names_length] at h2
      omega
  have := l50 (n := n) (t := .ptr id 0 0 0) (l := l) (y := h.sz) (p1 := p1) (p2 := p2) (K := fun _ h' => match h'.get h.sz with
      | some (.loop l) => match l.st with
        | .ready => Kx .normal (h'.put h.sz (.loop { l with st := .exh }))
        | .done x => Kx x (h'.put h.sz (.loop { l with st := .exh }))
        | _ => false
      | _ => false) A T0 Inv (fun h' => ∃ x, Stop x h') (fun r h' hi => ⟨(hI r h' hi).1, (hI r h' hi).2.1⟩)
    (fun c r h' f K hi hf k1 k2 => step c r h' f K hi hf k1 (fun x h'' hst => k2 h'' ⟨x, hst⟩))
    (fun h' hi => by
      have hg' := (hI _ _ hi).2.2
      simp only [hg', Lp]
      exact fin h' hi)
    (fun h' ⟨x, hst⟩ => by
      obtain ⟨g1, g2⟩ := stop x h' hst
      simp only [g1, Lp]
      exact g2) n s _ start key
  cases hi : idx s (names l) with
  | none => rw [hi] at this; exact this
  | some i => rw [hi] at this; exact this

theorem get_push_same (h : AHeap) (o : AObj) : (h.push o).get h.sz = some o := by rw [AHeap.get_push, if_pos rfl]
theorem get_put_same (h : AHeap) (id : Nat) (o : AObj) : (h.put id o).get id = some o := by rw [AHeap.get_put, if_pos rfl]
theorem get_put_ne {h : AHeap} {id j : Nat} {o : AObj} (e : j ≠ id) : (h.put id o).get j = h.get j := by rw [AHeap.get_put, if_neg e]
theorem get_newRow_ne {h : AHeap} {j : Nat} {es : List (List AV)} {n : Nat} (e : j < h.sz) : (Ab.newRow h es n).get j = h.get j := by
  unfold Ab.newRow; rw [AHeap.get_push, if_neg (by omega)]

/-- What a round of 'Is' finds: the table, the name that is asked for, no answer yet. -/
structure IsInv (h0 : AHeap) (t : AV) (l : List Cls) (of : Str) (b : Bool) (regs : Regs) (r : List Cls) (h : AHeap) : Prop where
  ext : Ext h0 h
  ok : h.Ok
  sz : h0.sz + 5 ≤ h.sz
  a : Var h h0.sz [.str of]
  res : Var h (h0.sz + 1) [.bool false]
  p : Var h (h0.sz + 2) [t]
  y : h.get (h0.sz + 4) = some (Lp regs [11] c14_7 c14_8 .ready)
  any : b = r.any fun c => decide (c.name = of)

theorem c14 {n : Nat} {h : AHeap} {t : AV} {l : List Cls} {s of : Str} {K : Kont} (T : TableRep h t l) (A : Asc l) (ho : h.Ok) (hn : l.length + 4 < n)
    (k : ∀ h', Ext h h' → h'.Ok → K (.bool ((chain l s).any fun c => decide (c.name = of))) h' = true) : callN E (n + 2) (.func 14) [t, .str s, .str of] h K = true := by
  obtain ⟨id, lv, mid, rfl, V0, C0, M0⟩ := T
  have T : TableRep h (.ptr id 0 0 0) l := ⟨id, lv, mid, rfl, V0, C0, M0⟩
  apply d14
  unfold s14
  rw [box_eq (n := 1) rfl (by decide) rfl, optP_some, alloc_eq (by decide) rfl, optP_some]
  have o1 := ok_newRow ho [[AV.str of]] 1
  have e1 := ext_newRow ho [[AV.str of]] 1
  have V1 := var_new h [AV.str of]
  have o2 := ok_newRow o1 [[AV.bool false]] 1
  have e2 := ext_newRow o1 [[AV.bool false]] 1
  have V2 := var_new (Ab.newRow h [[AV.str of]] 1) [AV.bool false]
  show callN E (n + 1) (.func 38) _ (Ab.newRow (Ab.newRow h [[AV.str of]] 1) [[AV.bool false]] 1) _ = true
  generalize hh2 : Ab.newRow (Ab.newRow h [[AV.str of]] 1) [[AV.bool false]] 1 = h2 at *
  have s2 : h2.sz = h.sz + 2 := by rw [← hh2]; rfl
  refine c38 ?_
  have o3 := ok_newRow o2 [[AV.ptr id 0 0 0]] 1
  have e3 := ext_newRow o2 [[AV.ptr id 0 0 0]] 1
  have V3 := var_new h2 [AV.ptr id 0 0 0]
  have o4 := ok_newRow o3 [[AV.str s]] 1
  have e4 := ext_newRow o3 [[AV.str s]] 1
  have V4 := var_new (Ab.newRow h2 [[AV.ptr id 0 0 0]] 1) [AV.str s]
  have s4 : (Ab.newRow (Ab.newRow h2 [[AV.ptr id 0 0 0]] 1) [[AV.str s]] 1).sz = h.sz + 4 := by simp [s2]
  simp only [List.length_cons, List.length_nil, Nat.zero_add] at V3 V4
  generalize hh4 : Ab.newRow (Ab.newRow h2 [[AV.ptr id 0 0 0]] 1) [[AV.str s]] 1 = h4 at *
  simp only [newRow_sz, s2] at V1 V2 V3 V4 ⊢
  have E4 : Ext h h4 := e1.trans (e2.trans (e3.trans e4))
  generalize hreg : mkR [(5, AV.ptr h.sz 0 0 0), (6, AV.ptr (h.sz + 1) 0 0 0), (10, AV.fn (AFn.func 50) [] [AV.ptr (h.sz + 2) 0 0 0, AV.ptr (h.sz + 2 + 1) 0 0 0])] = regs
  obtain ⟨n, rfl⟩ : ∃ k, n = k + 1 := ⟨n - 1, by omega⟩
  have e5 := ext_push o4 (Lp regs [11] c14_7 c14_8 .ready)
  refine rf_up (t := .ptr id 0 0 0) (l := l) (s := s) (hb := h) A T (by omega) (IsInv h (.ptr id 0 0 0) l of ((chain l s).any fun c => decide (c.name = of)) regs)
    (fun x h' => x = .ret ∧ Ext h h' ∧ h'.Ok ∧ h.sz + 5 ≤ h'.sz ∧ Var h' (h.sz + 1) [.bool true] ∧ h'.get (h.sz + 4) = some (Lp regs [11] c14_7 c14_8 (.done .ret)) ∧ ((chain l s).any fun c => decide (c.name = of)) = true)
    (V4.ext e5) ?_ ?_ ?_ ?_ ?_
  · intro r h' I
    exact ⟨I.ext, I.p, by rw [s4]; exact I.y⟩
  · refine ⟨E4.trans e5, o4.push _, by simp [s4], V1.ext (e2.trans (e3.trans (e4.trans e5))), V2.ext (e3.trans (e4.trans e5)), V3.ext (e4.trans e5), ?_, rfl⟩
    rw [← s4]; exact get_push_same _ _
  · intro c r h' f K' I hf k1 k2
    rw [s4]
    have hy := I.y
    rw [← hreg] at hy
    refine y14_6_run (fun _ => rfl) hy ?_
    rw [hreg] at hy
    unfold y14_6
    have lf : allLeaf (AV.agg [AV.str c.name, AV.str c.super, f]).cells = true := leaf3 hf.leaf
    rw [alloc_set (n := 3) rfl (by decide) rfl rfl lf]
    have o6 := ok_newRow I.ok [[AV.str c.name, AV.str c.super, f]] 3
    have e6 := ext_newRow I.ok [[AV.str c.name, AV.str c.super, f]] 3
    have V6 := var_new h' [AV.str c.name, AV.str c.super, f]
    have hc : (AV.agg [AV.str c.name, AV.str c.super, f]).cells = [AV.str c.name, AV.str c.super, f] := rfl
    rw [hc]
    simp only [List.length_cons, List.length_nil, Nat.zero_add] at V6
    have s6 : (Ab.newRow h' [[AV.str c.name, AV.str c.super, f]] 3).sz = h'.sz + 1 := rfl
    generalize Ab.newRow h' [[AV.str c.name, AV.str c.super, f]] 3 = h6 at *
    have hsz := I.sz
    rw [busy_eq (e6.2 _ _ hy)]
    have V7 := V6.other (j := h.sz + 4) (by omega) (Lp regs [11] c14_7 c14_8 .busy)
    have A7 := (I.a.ext e6).other (j := h.sz + 4) (by omega) (Lp regs [11] c14_7 c14_8 .busy)
    have B7 := (I.res.ext e6).other (j := h.sz + 4) (by omega) (Lp regs [11] c14_7 c14_8 .busy)
    have P7 := (I.p.ext e6).other (j := h.sz + 4) (by omega) (Lp regs [11] c14_7 c14_8 .busy)
    have g7 := get_put_same h6 (h.sz + 4) (Lp regs [11] c14_7 c14_8 .busy)
    have x7 := ext_put (I.ext.trans e6) ho (show h.sz ≤ h.sz + 4 by omega) (Lp regs [11] c14_7 c14_8 .busy)
    have o7 := o6.put (show h.sz + 4 < h6.sz by omega) (Lp regs [11] c14_7 c14_8 .busy)
    have s7 : (h6.put (h.sz + 4) (Lp regs [11] c14_7 c14_8 .busy)).sz = h'.sz + 1 := by simp [s6]
    generalize h6.put (h.sz + 4) (Lp regs [11] c14_7 c14_8 .busy) = h7 at *
    simp only [fadrA_ptr, optB_some, V7.load, A7.load, partA_false, Nat.zero_add, nth_zero, binA_seql]
    have hany := I.any
    rw [List.any_cons] at hany
    by_cases hof : c.name = of
    · rw [condB_t (by simpa using hof), B7.set1 (by decide) rfl, unit, optP_some]
      have hg8 : (h7.put (h.sz + 1) (AObj.row (VRow ([AV.bool false].set 0 (AV.bool true))))).get (h.sz + 4) = some (Lp regs [11] c14_7 c14_8 .busy) := by rw [get_put_ne (by omega)]; exact g7
      rw [end_ret hg8]
      refine k2 .ret _ ⟨rfl, ext_put (ext_put x7 ho (by omega) _) ho (by omega) _, (o7.put (by omega) _).put (by simp; omega) _, by simp; omega, ?_, get_put_same _ _ _, ?_⟩
      · exact (var_put (h := h7) (h.sz + 1) [AV.bool true]).other (by omega) _
      · rw [hany]; simp [hof]
    · rw [condB_f (by simpa using hof), end_normal g7]
      refine k1 _ ⟨ext_put x7 ho (by omega) _, o7.put (by omega) _, by simp; omega, A7.other (by omega) _, B7.other (by omega) _, P7.other (by omega) _, get_put_same _ _ _, ?_⟩
      rw [hany]; simp [hof]
  · intro h' I
    rw [s4]
    unfold p14_16
    have hsz := I.sz
    rw [(I.res.other (j := h.sz + 4) (by omega) _).set1 (by decide) rfl, unit, optP_some]
    have Vb := var_put (h := h'.put (h.sz + 4) (Lp regs [11] c14_7 c14_8 .exh)) (h.sz + 1) ([AV.bool false].set 0 (AV.bool false))
    simp only [resV, Vb.load]
    have hb := I.any
    rw [List.any_nil] at hb
    have := k _ (ext_put (ext_put I.ext ho (show h.sz ≤ h.sz + 4 by omega) (Lp regs [11] c14_7 c14_8 .exh)) ho (show h.sz ≤ h.sz + 1 by omega) (AObj.row (VRow ([AV.bool false].set 0 (AV.bool false))))) ((I.ok.put (by omega) _).put (by simp; omega) _)
    rw [hb] at this
    exact this
  · rintro x h' ⟨rfl, x1, x2, x3, x4, x5, x6⟩
    rw [s4]
    refine ⟨x5, ?_⟩
    have Vb := x4.other (j := h.sz + 4) (by omega) (Lp regs [11] c14_7 c14_8 .exh)
    simp only [resV, Vb.load]
    have := k _ (ext_put x1 ho (show h.sz ≤ h.sz + 4 by omega) (Lp regs [11] c14_7 c14_8 .exh)) (x2.put (by omega) _)
    rw [x6] at this
    exact this
end Go.Proofs.Ytjdpdjmmbajglaa
