/-
  Steps of walks, one by one; what is kept; loops over functions; texts, bytes.
-/
import Derived.Test.YtbamgdknkhhikaaAbVars
import Derived.Test.YtbamgdknkhhikaaAbSim
namespace Go.Ab
set_option linter.unusedSimpArgs false
set_option linter.unusedVariables false

abbrev Str := List Nat

/-! ### What is kept -/
/-- All but what lies at 'x' is as it was. -/
structure But (x : Nat) (h h' : AHeap) : Prop where
  sz : h.sz ≤ h'.sz
  keep : ∀ j o, j ≠ x → h.get j = some o → h'.get j = some o

theorem But.refl (x : Nat) (h : AHeap) : But x h h := ⟨Nat.le_refl _, fun _ _ _ e => e⟩
theorem But.trans {x : Nat} {a b c : AHeap} (p : But x a b) (q : But x b c) : But x a c := ⟨Nat.le_trans p.sz q.sz, fun j o e h => q.keep j o e (p.keep j o e h)⟩
theorem But.of_ext {x : Nat} {h h' : AHeap} (e : Ext h h') : But x h h' := ⟨e.1, fun j o _ hj => e.2 j o hj⟩
theorem But.put (x : Nat) (h : AHeap) (o : AObj) : But x h (h.put x o) := ⟨by simp, fun j o' e hj => by rw [AHeap.get_put, if_neg e]; exact hj⟩

theorem But.ext {x : Nat} {h0 h h' : AHeap} (p : But x h h') (e : Ext h0 h) (k0 : h0.Ok) (hx : h0.sz ≤ x) : Ext h0 h' :=
  ⟨Nat.le_trans e.1 p.sz, fun j o hj => p.keep j o (by have := k0.lt hj; omega) (e.2 j o hj)⟩

theorem But.var {x j : Nat} {h h' : AHeap} {c : List AV} (p : But x h h') (V : Var h j c) (e : j ≠ x) : Var h' j c := by
  have V' : h.row j = some (VRow c) := V
  show h'.row j = _
  rw [AHeap.row_some] at V' ⊢
  exact p.keep j _ e V'

theorem keep_own {b : Nat} {h h' : AHeap} {n : Nat} {v : AV} {es : List (List AV)} (O : Own b h n v es) (p : ∀ j o, b ≤ j → h.get j = some o → h'.get j = some o) : Own b h' n v es := by
  rcases O with V | ⟨id, r, w1, w2, w3, w4, w5, w6, w7⟩
  · exact .inl V
  · exact .inr ⟨id, r, w1, w2, by rw [AHeap.row_some] at w3 ⊢; exact p _ _ w1 w3, w4, w5, w6, w7⟩
theorem But.own {x b : Nat} {h h' : AHeap} {n : Nat} {v : AV} {es : List (List AV)} (p : But x h h') (O : Own b h n v es) (e : x < b) : Own b h' n v es :=
  keep_own O fun j o hj g => p.keep j o (by omega) g

theorem keep_ty {h h' : AHeap} {v : AV} {e : Nat} (T : TyOf h v e) (p : ∀ id g s l c ex o, v = .slc id g s l c ex → h.get id = some o → h'.get id = some o) : TyOf h' v e := by
  intro id g s l c ex hv
  obtain ⟨r, q1, q2⟩ := T id g s l c ex hv
  exact ⟨r, by rw [AHeap.row_some] at q1 ⊢; exact p _ _ _ _ _ _ _ hv q1, q2⟩

/-! ### A loop over a function -/
def Lp (regs : Regs) (ps : List Nat) (asg body : ACode) (st : LState) : AObj := .loop { regs, ps, asg, body, st }

theorem busy_eq {h : AHeap} {id : Nat} {regs : Regs} {ps : List Nat} {asg body : ACode} {k : AHeap → Bool} (hg : h.get id = some (Lp regs ps asg body .ready)) : busyB id h k = k (h.put id (Lp regs ps asg body .busy)) := by
  unfold busyB Lp at *; simp only [hg]
theorem end_normal {h : AHeap} {id : Nat} {regs : Regs} {ps : List Nat} {asg body : ACode} {K : Kont} (hg : h.get id = some (Lp regs ps asg body .busy)) : endY id K .normal h = K (.bool true) (h.put id (Lp regs ps asg body .ready)) := by
  unfold endY Lp at *; simp only [hg]
theorem end_ret {h : AHeap} {id : Nat} {regs : Regs} {ps : List Nat} {asg body : ACode} {K : Kont} (hg : h.get id = some (Lp regs ps asg body .busy)) : endY id K .ret h = K (.bool false) (h.put id (Lp regs ps asg body (.done .ret))) := by
  unfold endY Lp at *; simp only [hg]
theorem get_push_same (h : AHeap) (o : AObj) : (h.push o).get h.sz = some o := by rw [AHeap.get_push, if_pos rfl]
theorem get_put_same (h : AHeap) (id : Nat) (o : AObj) : (h.put id o).get id = some o := by rw [AHeap.get_put, if_pos rfl]
theorem get_put_ne {h : AHeap} {id j : Nat} {o : AObj} (e : j ≠ id) : (h.put id o).get j = h.get j := by rw [AHeap.get_put, if_neg e]

/-! ### Told again -/
theorem same_int (k : IntKind) (a : Int) : AV.same (.int k a) (.int k a) = true := by
  simp only [AV.same, Nat.beq_refl, Bool.true_and]; rw [ieqb_dec]; simp
theorem same_str (s : Str) : AV.same (.str s) (.str s) = true := by
  simp only [AV.same]; rw [leqb_dec]; simp
theorem same_bool (b : Bool) : AV.same (.bool b) (.bool b) = true := by cases b <;> rfl
theorem same_ptr (a b c d : Nat) : AV.same (.ptr a b c d) (.ptr a b c d) = true := by
  simp only [AV.same, Nat.beq_refl, Bool.and_self]
theorem same_slc (a b c d e : Nat) (f : Bool) : AV.same (.slc a b c d e f) (.slc a b c d e f) = true := by
  simp only [AV.same, Nat.beq_refl, Bool.and_self, Bool.true_and]; cases f <;> rfl
theorem sameB_of {o : Option AV} {u : AV} {r : Bool} (h1 : o = some u) (h2 : AV.same u u = true) : sameB o u r = r := by
  subst h1; simp only [sameB, h2, cond_true]

/-! ### Steps, one by one (no simp goes into what follows: the kernel would pay for it) -/
theorem o_of {o : Option AV} {v : AV} (e : o = some v) (k : AV → Bool) : optB o k = k v := by subst e; rfl
theorem o_some (v : AV) (k : AV → Bool) : optB (some v) k = k v := rfl
theorem o_nilck (a b c d : Nat) (k : AV → Bool) : optB (nilckA (.ptr a b c d)) k = k (.ptr a b c d) := rfl
theorem o_fadr0 (off a b c : Nat) (k : AV → Bool) : optB (fadrA off (.ptr a b c 0)) k = k (.ptr a b c off) := by rw [fadrA_ptr, Nat.zero_add]; rfl
theorem o_slen (h : AHeap) (s : Str) (k : AV → Bool) : optB (lenA h 0 (.str s)) k = k (.int .i64 (s.length : Int)) := rfl
theorem o_lss (K : IntKind) (a b : Int) (k : AV → Bool) : optB (binA .lss (.int K a) (.int K b)) k = k (.bool (decide (a < b))) := by rw [binA_lss]; rfl
theorem o_gtr (K : IntKind) (a b : Int) (k : AV → Bool) : optB (binA .gtr (.int K a) (.int K b)) k = k (.bool (decide (b < a))) := by rw [binA_gtr]; rfl
theorem o_leq (K : IntKind) (a b : Int) (k : AV → Bool) : optB (binA .leq (.int K a) (.int K b)) k = k (.bool (decide (a ≤ b))) := by rw [binA_leq]; rfl
theorem o_geq (K : IntKind) (a b : Int) (k : AV → Bool) : optB (binA .geq (.int K a) (.int K b)) k = k (.bool (decide (b ≤ a))) := by rw [binA_geq]; rfl
theorem o_eql (K : IntKind) (a b : Int) (k : AV → Bool) : optB (binA .eql (.int K a) (.int K b)) k = k (.bool (decide (a = b))) := by rw [binA_eql]; rfl
theorem o_neq (K : IntKind) (a b : Int) (k : AV → Bool) : optB (binA .neq (.int K a) (.int K b)) k = k (.bool (!decide (a = b))) := by rw [binA_neq]; rfl
theorem o_not (b : Bool) (k : AV → Bool) : optB (notA (.bool b)) k = k (.bool (!b)) := rfl
theorem o_ext0 (a : AV) (l : List AV) (k : AV → Bool) : optB (extA 0 (.tup (a :: l))) k = k a := rfl
theorem o_ext1 (a b : AV) (l : List AV) (k : AV → Bool) : optB (extA 1 (.tup (a :: b :: l))) k = k b := rfl
theorem o_ext2 (a b c : AV) (l : List AV) (k : AV → Bool) : optB (extA 2 (.tup (a :: b :: c :: l))) k = k c := rfl
theorem o_fld {l : List AV} {v : AV} {n : Nat} (e : nth l n = some v) (k : AV → Bool) : optB (fldA false n 1 (.agg l)) k = k v := by
  rw [fldA_agg, partA_false, e]; rfl
theorem g_tt (o : Option AV) (k : AV → Bool) : optB (grdO (wantV (.bool true) true) o) k = optB o k := rfl
theorem g_ff (o : Option AV) (k : AV → Bool) : optB (grdO (wantV (.bool false) false) o) k = optB o k := rfl
theorem g_tf (o : Option AV) (k : AV → Bool) : optB (grdO (wantV (.bool true) false) o) k = k (.tup []) := rfl
theorem g_ft (o : Option AV) (k : AV → Bool) : optB (grdO (wantV (.bool false) true) o) k = k (.tup []) := rfl
theorem gp_tt (o : Option (AV × AHeap)) (h : AHeap) (k : Kont) : optP (grdP (wantV (.bool true) true) o h) k = optP o k := rfl
theorem gp_ff (o : Option (AV × AHeap)) (h : AHeap) (k : Kont) : optP (grdP (wantV (.bool false) false) o h) k = optP o k := rfl
theorem gp_tf (o : Option (AV × AHeap)) (h : AHeap) (k : Kont) : optP (grdP (wantV (.bool true) false) o h) k = k (.tup []) h := rfl
theorem gp_ft (o : Option (AV × AHeap)) (h : AHeap) (k : Kont) : optP (grdP (wantV (.bool false) true) o h) k = k (.tup []) h := rfl
theorem gc_tt (r : Kont → Bool) (h : AHeap) (k : Kont) : grdC (wantV (.bool true) true) r h k = r k := rfl
theorem gc_ff (r : Kont → Bool) (h : AHeap) (k : Kont) : grdC (wantV (.bool false) false) r h k = r k := rfl
theorem gc_tf (r : Kont → Bool) (h : AHeap) (k : Kont) : grdC (wantV (.bool true) false) r h k = k (.tup []) h := rfl
theorem gc_ft (r : Kont → Bool) (h : AHeap) (k : Kont) : grdC (wantV (.bool false) true) r h k = k (.tup []) h := rfl
theorem k_t (a b : AV) (k : AV → Bool) : optB (pickV (.bool true) a b) k = k a := rfl
theorem k_f (a b : AV) (k : AV → Bool) : optB (pickV (.bool false) a b) k = k b := rfl
theorem p_of {o : Option (AV × AHeap)} {v : AV} {h : AHeap} (e : o = some (v, h)) (k : Kont) : optP o k = k v h := by subst e; rfl
theorem u_of {o : Option AHeap} {h : AHeap} (e : o = some h) (k : Kont) : optP (unit o) k = k (.tup []) h := by subst e; rfl

/-! ### Parts of texts -/
theorem slice_both {s : Str} {j k : IntKind} {a b : Nat} (hab : a ≤ b) (hb : b ≤ s.length) : sliceSV (.str s) (some (.int j (a : Int))) (some (.int k (b : Int))) = some (.str ((s.take b).drop a)) := by
  simp only [sliceSV, natV, asNat_nat, nble_true.2 hab, nble_true.2 hb, Bool.and_self, cond_true]
theorem slice_from {s : Str} {j : IntKind} {a : Nat} (hb : a ≤ s.length) : sliceSV (.str s) (some (.int j (a : Int))) none = some (.str (s.drop a)) := by
  simp only [sliceSV, natV, asNat_nat, nble_true.2 hb, nble_true.2 (Nat.le_refl _), Bool.and_self, cond_true, List.take_length]
theorem slice_to {s : Str} {k : IntKind} {b : Nat} (hb : b ≤ s.length) : sliceSV (.str s) none (some (.int k (b : Int))) = some (.str (s.take b)) := by
  simp only [sliceSV, natV, asNat_nat, nble_true.2 hb, nble_true.2 (Nat.zero_le _), Bool.and_self, cond_true, List.drop_zero]

theorem nat64 {a b : Nat} (h : a + b < lim) : binA .add (.int .i64 (a : Int)) (.int .i64 (b : Int)) = some (.int .i64 ((a + b : Nat) : Int)) := by
  have h' : a + b < 4611686018427387904 := h
  rw [add64 (by omega) (by omega)]; rfl
theorem natsub64 {a b : Nat} (h : b ≤ a) (h2 : a < lim) : binA .sub (.int .i64 (a : Int)) (.int .i64 (b : Int)) = some (.int .i64 ((a - b : Nat) : Int)) := by
  have h' : a < 4611686018427387904 := h2
  rw [sub64 (by omega) (by omega)]; congr 2; omega
theorem lit64 {a : Nat} (k : Nat) (h : a + k < lim) : binA .add (.int .i64 (a : Int)) (.int .i64 (@OfNat.ofNat Int k _)) = some (.int .i64 ((a + k : Nat) : Int)) := nat64 h

/-! ### Bytes -/
def encB (s : Str) : List (List AV) := s.map fun (b : Nat) => [AV.int .u8 (b : Int)]
theorem bytesOf_enc : ∀ (s : Str), (∀ b ∈ s, b < 256) → bytesOf (encB s) = some s
  | [], _ => rfl
  | b :: s, h => by
    show bytesOf ([AV.int .u8 (.ofNat b)] :: encB s) = _
    simp only [bytesOf, bytesOf_enc s (fun c hc => h c (List.mem_cons_of_mem _ hc)), nblt_true.2 (h b List.mem_cons_self), cond_true]

/-- A byte of a text; none: 0. -/
def pk (s : Str) (i : Nat) : Nat := s[i]?.getD 0
theorem pk_lt {s : Str} {i : Nat} (h : i < s.length) : pk s i = s[i] := by simp [pk, h]
theorem pk_ge {s : Str} {i : Nat} (h : s.length ≤ i) : pk s i = 0 := by simp [pk, h]
theorem idxs_pk {s : Str} {k : IntKind} {i : Nat} (h : i < s.length) : idxsA (.str s) (.int k (i : Int)) = some (.int .u8 (pk s i : Int)) := by
  rw [pk_lt h]; exact idxsA_some (List.getElem?_eq_getElem h)
theorem drop_pk {s : Str} {i : Nat} (h : i < s.length) : s.drop i = pk s i :: s.drop (i + 1) := by
  rw [pk_lt h]; exact List.drop_eq_getElem_cons h

/-- What is read of a slice, in every heap to come. -/
theorem View.atE {h : AHeap} {n : Nat} {v : AV} {es : List (List AV)} (V : View h n v es) {i : Nat} {e : List AV} (hi : es[i]? = some e) :
    ∃ id g j, ∀ h', Ext h h' → (∀ k, iadrA h' n v (.int k (i : Int)) = some (.ptr id g j 0)) ∧ ∀ ag off m, loadA h' ag m (.ptr id g j off) = partA ag off m e := by
  rcases V with ⟨rfl, _⟩ | ⟨id, g, s, cap, ex, r, rfl, h2, h3, h4, h5, h6⟩
  · simp at hi
  · have hlt : i < es.length := (List.getElem?_eq_some_iff.1 hi).1
    refine ⟨id, g, s + i, fun h' e' => ?_⟩
    have h2' := e'.row h2
    refine ⟨fun k => ?_, fun ag off m => ?_⟩
    · have : rowSz h' id n = true := by simp only [rowSz, h2', nbeq_true]; exact h4
      simp only [iadrA, asNat_nat, nblt_true.2 hlt, this, Bool.and_self, cond_true]
    · have hn : nth r.es (s + i) = some e := by
        rw [nth_eq]
        rw [← h5, List.getElem?_take] at hi
        simp only [hlt, if_true, List.getElem?_drop] at hi
        exact hi
      simp only [loadA, h2', nble_true.2 h3, cond_true, hn]

theorem sg_t (o : Option AV) (u : AV) (r : Bool) : sameG (wantV (.bool true) true) o u r = sameB o u r := rfl
theorem sg_f (o : Option AV) (u : AV) (r : Bool) : sameG (wantV (.bool false) true) o u r = r := rfl
theorem eqbb (h : AHeap) (b : Bool) : eqV h true EqK.bool (.bool b) (.bool b) = some (.bool false) := by cases b <;> rfl
theorem neqi (k : IntKind) (z : Int) : binA .neq (.int k z) (.int k z) = some (.bool false) := by rw [binA_neq]; simp
theorem neqs (s : Str) : binA .neq (.str s) (.str s) = some (.bool false) := by rw [binA_sneq]; simp

end Go.Ab
