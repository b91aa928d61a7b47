/-
  The pieces of the shallow functions, reckoned at values of known shape; slices as lists.
-/
import Derived.Test.YtbamgdknkhhikaaAbInput
namespace Go.Ab
set_option linter.unusedSimpArgs false
set_option linter.unusedVariables false

@[simp] theorem optB_some (v : AV) (k : AV → Bool) : optB (some v) k = k v := rfl
@[simp] theorem optB_none (k : AV → Bool) : optB none k = false := rfl
@[simp] theorem optP_some (v : AV) (h : AHeap) (k : Kont) : optP (some (v, h)) k = k v h := rfl
@[simp] theorem optP_none (k : Kont) : optP none k = false := rfl
@[simp] theorem condB_true (a b : Bool) : condB (.bool true) a b = a := rfl
@[simp] theorem condB_false (a b : Bool) : condB (.bool false) a b = b := rfl
theorem condB_bool (c a b : Bool) : condB (.bool c) a b = if c = true then a else b := by cases c <;> rfl
theorem condB_t {c a b : Bool} (h : c = true) : condB (.bool c) a b = a := by subst h; rfl
theorem condB_f {c a b : Bool} (h : c = false) : condB (.bool c) a b = b := by subst h; rfl
@[simp] theorem wantV_true (c : Bool) : wantV (.bool c) true = c := by cases c <;> rfl
@[simp] theorem wantV_false (c : Bool) : wantV (.bool c) false = !c := by cases c <;> rfl
@[simp] theorem wantV_tup (l : List AV) (b : Bool) : wantV (.tup l) b = false := rfl
@[simp] theorem grdO_true (o : Option AV) : grdO true o = o := rfl
@[simp] theorem grdO_false (o : Option AV) : grdO false o = some (.tup []) := rfl
@[simp] theorem grdP_true (o : Option (AV × AHeap)) (h : AHeap) : grdP true o h = o := rfl
@[simp] theorem grdP_false (o : Option (AV × AHeap)) (h : AHeap) : grdP false o h = some (.tup [], h) := rfl
@[simp] theorem grdC_true (r : Kont → Bool) (h : AHeap) (K : Kont) : grdC true r h K = r K := rfl
@[simp] theorem grdC_false (r : Kont → Bool) (h : AHeap) (K : Kont) : grdC false r h K = K (.tup []) h := rfl
@[simp] theorem pickV_true (a b : AV) : pickV (.bool true) a b = some a := rfl
@[simp] theorem pickV_false (a b : AV) : pickV (.bool false) a b = some b := rfl
@[simp] theorem notA_bool (b : Bool) : notA (.bool b) = some (.bool (!b)) := rfl
@[simp] theorem nilckA_ptr (a b c d : Nat) : nilckA (.ptr a b c d) = some (.ptr a b c d) := rfl
@[simp] theorem fadrA_ptr (off a b c d : Nat) : fadrA off (.ptr a b c d) = some (.ptr a b c (d + off)) := rfl
@[simp] theorem extA_tup (i : Nat) (l : List AV) : extA i (.tup l) = nth l i := rfl
@[simp] theorem nth_zero {α : Type} (x : α) (l : List α) : nth (x :: l) 0 = some x := rfl
@[simp] theorem nth_succ {α : Type} (x : α) (l : List α) (n : Nat) : nth (x :: l) (n + 1) = nth l n := rfl
@[simp] theorem nth_nil {α : Type} (n : Nat) : nth ([] : List α) n = none := rfl
@[simp] theorem fldA_agg (ag : Bool) (off n : Nat) (l : List AV) : fldA ag off n (.agg l) = partA ag off n l := rfl
@[simp] theorem partA_false (off n : Nat) (l : List AV) : partA false off n l = nth l off := rfl
@[simp] theorem lenA_str (h : AHeap) (s : List Nat) : lenA h 0 (.str s) = some (.int .i64 (s.length : Int)) := rfl
@[simp] theorem callV_fn (call : CallFn) (f : AFn) (a b vs : List AV) (h : AHeap) (K : Kont) : callV call (.fn f a b) vs h K = call f (a ++ vs ++ b) h K := rfl
@[simp] theorem optR_some (l : List AV) (h : AHeap) (K : Kont) : optR (some l) h K = K (oneOf l) h := rfl
@[simp] theorem oneOf_one (v : AV) : oneOf [v] = v := rfl

theorem iltb_dec (a b : Int) : iltb a b = decide (a < b) := iltb_eq a b
theorem ieqb_dec (a b : Int) : ieqb a b = decide (a = b) := by rw [ieqb_eq]; rfl
theorem leqb_dec (a b : List Nat) : leqb a b = decide (a = b) := by
  rw [leqb_eq]
  by_cases e : a = b
  · subst e; simp
  · rw [decide_eq_false e]; exact beq_eq_false_iff_ne.2 e

theorem binA_ints (op : BinOp) (k : IntKind) (a b : Int) (hs : isShift op = false) : binA op (.int k a) (.int k b) = intOp op k a b := by
  simp only [binA, hs, cond_false, Nat.beq_refl, cond_true]

@[simp] theorem binA_lss (k : IntKind) (a b : Int) : binA .lss (.int k a) (.int k b) = some (.bool (decide (a < b))) := by rw [binA_ints _ _ _ _ rfl]; simp only [intOp, iltb_dec]
@[simp] theorem binA_gtr (k : IntKind) (a b : Int) : binA .gtr (.int k a) (.int k b) = some (.bool (decide (b < a))) := by rw [binA_ints _ _ _ _ rfl]; simp only [intOp, iltb_dec]
@[simp] theorem binA_leq (k : IntKind) (a b : Int) : binA .leq (.int k a) (.int k b) = some (.bool (decide (a ≤ b))) := by
  rw [binA_ints _ _ _ _ rfl]; simp only [intOp, iltb_dec]
  by_cases e : b < a
  · rw [decide_eq_true e, decide_eq_false (by omega)]; rfl
  · rw [decide_eq_false e, decide_eq_true (by omega)]; rfl
@[simp] theorem binA_geq (k : IntKind) (a b : Int) : binA .geq (.int k a) (.int k b) = some (.bool (decide (b ≤ a))) := by
  rw [binA_ints _ _ _ _ rfl]; simp only [intOp, iltb_dec]
  by_cases e : a < b
  · rw [decide_eq_true e, decide_eq_false (by omega)]; rfl
  · rw [decide_eq_false e, decide_eq_true (by omega)]; rfl
@[simp] theorem binA_eql (k : IntKind) (a b : Int) : binA .eql (.int k a) (.int k b) = some (.bool (decide (a = b))) := by rw [binA_ints _ _ _ _ rfl]; simp only [intOp, ieqb_dec]
@[simp] theorem binA_neq (k : IntKind) (a b : Int) : binA .neq (.int k a) (.int k b) = some (.bool (!decide (a = b))) := by rw [binA_ints _ _ _ _ rfl]; simp only [intOp, ieqb_dec]
theorem binA_add (k : IntKind) (a b : Int) : binA .add (.int k a) (.int k b) = some (.int k (wrapA k (a + b))) := by rw [binA_ints _ _ _ _ rfl]; rfl
theorem binA_sub (k : IntKind) (a b : Int) : binA .sub (.int k a) (.int k b) = some (.int k (wrapA k (a - b))) := by rw [binA_ints _ _ _ _ rfl]; rfl
theorem binA_mul (k : IntKind) (a b : Int) : binA .mul (.int k a) (.int k b) = some (.int k (wrapA k (a * b))) := by rw [binA_ints _ _ _ _ rfl]; rfl
@[simp] theorem binA_seql (a b : List Nat) : binA .eql (.str a) (.str b) = some (.bool (decide (a = b))) := by simp only [binA, strOp, leqb_dec]
@[simp] theorem binA_sneq (a b : List Nat) : binA .neq (.str a) (.str b) = some (.bool (!decide (a = b))) := by simp only [binA, strOp, leqb_dec]

theorem wrap64 {n : Int} (h1 : -9223372036854775808 ≤ n) (h2 : n ≤ 9223372036854775807) : wrapA .i64 n = n := by
  have : fitsK .i64 n = true := by
    cases n with
    | ofNat m =>
      have e : Int.ofNat m = (m : Int) := rfl
      simp only [fitsK]; exact nble_true.2 (by omega)
    | negSucc m =>
      have e : Int.negSucc m = -((m : Int) + 1) := rfl
      simp only [fitsK]; exact nble_true.2 (by omega)
  simp only [wrapA, this, cond_true]

theorem add64 {a b : Int} (h1 : -9223372036854775808 ≤ a + b) (h2 : a + b ≤ 9223372036854775807) : binA .add (.int .i64 a) (.int .i64 b) = some (.int .i64 (a + b)) := by rw [binA_add, wrap64 h1 h2]
theorem sub64 {a b : Int} (h1 : -9223372036854775808 ≤ a - b) (h2 : a - b ≤ 9223372036854775807) : binA .sub (.int .i64 a) (.int .i64 b) = some (.int .i64 (a - b)) := by rw [binA_sub, wrap64 h1 h2]
/-- No length comes near it. -/
def lim : Nat := 4611686018427387904
theorem lim_eq : lim = 4611686018427387904 := rfl

/-- One more. -/
theorem inc64 {i : Nat} (h0 : i < lim) : binA .add (.int .i64 (i : Int)) (.int .i64 1) = some (.int .i64 ((i + 1 : Nat) : Int)) := by
  have h : i < 4611686018427387904 := h0
  rw [add64 (by omega) (by omega)]; rfl

@[simp] theorem asNat_nat (k : IntKind) (n : Nat) : asNat (.int k (n : Int)) = some n := rfl

theorem idxsA_some {s : List Nat} {k : IntKind} {i b : Nat} (h : s[i]? = some b) : idxsA (.str s) (.int k (i : Int)) = some (.int .u8 (b : Int)) := by
  simp only [idxsA, asNat_nat, nth_eq, h]; rfl

@[simp] theorem lit_le (k b : Nat) : ((@OfNat.ofNat Int k _ : Int) ≤ (b : Int)) = ((@OfNat.ofNat Nat k _ : Nat) ≤ b) := by
  apply propext; show ((k : Nat) : Int) ≤ (b : Int) ↔ k ≤ b; omega
@[simp] theorem le_lit (k b : Nat) : ((b : Int) ≤ (@OfNat.ofNat Int k _ : Int)) = (b ≤ (@OfNat.ofNat Nat k _ : Nat)) := by
  apply propext; show (b : Int) ≤ ((k : Nat) : Int) ↔ b ≤ k; omega
@[simp] theorem lit_lt (k b : Nat) : ((@OfNat.ofNat Int k _ : Int) < (b : Int)) = ((@OfNat.ofNat Nat k _ : Nat) < b) := by
  apply propext; show ((k : Nat) : Int) < (b : Int) ↔ k < b; omega
@[simp] theorem lt_lit (k b : Nat) : ((b : Int) < (@OfNat.ofNat Int k _ : Int)) = (b < (@OfNat.ofNat Nat k _ : Nat)) := by
  apply propext; show (b : Int) < ((k : Nat) : Int) ↔ b < k; omega
@[simp] theorem lit_eq (k b : Nat) : ((@OfNat.ofNat Int k _ : Int) = (b : Int)) = ((@OfNat.ofNat Nat k _ : Nat) = b) := by
  apply propext; show ((k : Nat) : Int) = (b : Int) ↔ k = b; omega
@[simp] theorem eq_lit (k b : Nat) : ((b : Int) = (@OfNat.ofNat Int k _ : Int)) = (b = (@OfNat.ofNat Nat k _ : Nat)) := by
  apply propext; show (b : Int) = ((k : Nat) : Int) ↔ b = k; omega

/-! ### Slices -/
/-- 'v' is a slice of the elements 'es', each of n cells. -/
def View (h : AHeap) (n : Nat) (v : AV) (es : List (List AV)) : Prop :=
  (es = [] ∧ (v = .nilSlc ∨ v = .emp)) ∨ ∃ id g s cap ex r, v = .slc id g s es.length cap ex ∧ h.row id = some r ∧ r.m ≤ g ∧ r.sz = n ∧ (r.es.drop s).take es.length = es ∧ es.length ≤ cap

theorem View.nil (h : AHeap) (n : Nat) : View h n .nilSlc [] := .inl ⟨rfl, .inl rfl⟩
theorem View.ext {h h' : AHeap} {n : Nat} {v : AV} {es : List (List AV)} (V : View h n v es) (e : Ext h h') : View h' n v es := by
  rcases V with V | ⟨id, g, s, cap, ex, r, h1, h2, h3⟩
  · exact .inl V
  · exact .inr ⟨id, g, s, cap, ex, r, h1, e.row h2, h3⟩

/-- A slice's elements are kept where something else is written. -/
theorem View.put {h : AHeap} {n : Nat} {v : AV} {es : List (List AV)} (V : View h n v es) {id : Nat} (hid : ∀ r, h.row id = some r → r.sz ≠ n) (o : AObj) : View (h.put id o) n v es := by
  rcases V with V | ⟨i', g', s', cp, ex, rr, w1, w2, w3, w4, w5⟩
  · exact .inl V
  · refine .inr ⟨i', g', s', cp, ex, rr, w1, ?_, w3, w4, w5⟩
    have hne : i' ≠ id := fun e => hid rr (by rw [← e]; exact w2) w4
    rw [AHeap.row_some] at w2 ⊢
    rw [AHeap.get_put, if_neg hne]; exact w2

theorem View.leaf {h : AHeap} {n : Nat} {v : AV} {es : List (List AV)} (V : View h n v es) : v.leaf = true := by
  rcases V with ⟨rfl, rfl | rfl⟩ | ⟨id, g, s, cap, ex, r, rfl, _⟩ <;> rfl

theorem View.len {h : AHeap} {n : Nat} {v : AV} {es : List (List AV)} (V : View h n v es) : lenA h 1 v = some (.int .i64 (es.length : Int)) := by
  rcases V with ⟨rfl, rfl | rfl⟩ | ⟨id, g, s, cap, ex, r, rfl, _⟩ <;> rfl

theorem View.at {h : AHeap} {n : Nat} {v : AV} {es : List (List AV)} (V : View h n v es) {i : Nat} {e : List AV} (hi : es[i]? = some e) :
    ∃ id g j, (∀ k, iadrA h n v (.int k (i : Int)) = some (.ptr id g j 0)) ∧ ∀ ag off m, loadA h ag m (.ptr id g j off) = partA ag off m e := by
  rcases V with ⟨rfl, _⟩ | ⟨id, g, s, cap, ex, r, rfl, h2, h3, h4, h5, h6⟩
  · simp at hi
  · have hlt : i < es.length := (List.getElem?_eq_some_iff.1 hi).1
    refine ⟨id, g, s + i, fun k => ?_, fun ag off m => ?_⟩
    · have : rowSz h id n = true := by simp only [rowSz, h2, nbeq_true]; exact h4
      simp only [iadrA, asNat_nat, nblt_true.2 hlt, this, Bool.and_self, cond_true]
    · have hn : nth r.es (s + i) = some e := by
        rw [nth_eq]
        rw [← h5, List.getElem?_take] at hi
        simp only [hlt, if_true, List.getElem?_drop] at hi
        exact hi
      simp only [loadA, h2, nble_true.2 h3, cond_true, hn]

theorem View.src {h : AHeap} {n : Nat} {v : AV} {es : List (List AV)} (V : View h n v es) : source h n v = some es := by
  rcases V with ⟨rfl, rfl | rfl⟩ | ⟨id, g, s, cap, ex, r, rfl, h2, h3, h4, h5, h6⟩
  · rfl
  · rfl
  · simp only [source]
    cases hb : Nat.beq es.length 0 with
    | true =>
      rw [cond_true]
      have := nbeq_true.1 hb
      rw [List.length_eq_zero_iff.1 this]
    | false =>
      simp only [cond_false, h2, nble_true.2 h3, nbeq_true.2 h4, Bool.and_self, cond_true, h5, nbeq_true.2 rfl]

/-- Of a slice a part. -/
theorem View.cut {h : AHeap} {n : Nat} {v : AV} {es : List (List AV)} (V : View h n v es) {k j : IntKind} {a b : Nat} (hab : a ≤ b) (hb : b ≤ es.length) :
    ∃ v', sliceV h n v (some (.int k (a : Int))) (some (.int j (b : Int))) none = some v' ∧ View h n v' ((es.take b).drop a) := by
  rcases V with ⟨rfl, rfl | rfl⟩ | ⟨id, g, s, cap, ex, r, rfl, h2, h3, h4, h5, h6⟩
  · have h1 : b = 0 := by simpa using hb
    have h0 : a = 0 := by omega
    subst h1; subst h0
    exact ⟨.nilSlc, by simp [sliceV, natV, asNat], .inl ⟨rfl, .inl rfl⟩⟩
  · have h1 : b = 0 := by simpa using hb
    have h0 : a = 0 := by omega
    subst h1; subst h0
    exact ⟨.emp, by simp [sliceV, natV, asNat], .inl ⟨rfl, .inr rfl⟩⟩
  · have hr : rowSz h id n = true := by simp only [rowSz, h2, nbeq_true]; exact h4
    refine ⟨.slc id g (s + a) (b - a) (cap - a) ex, ?_, .inr ⟨id, g, s + a, cap - a, ex, r, ?_, h2, h3, h4, ?_, ?_⟩⟩
    · simp only [sliceV, hr, cond_true, natV, asNat_nat, nble_true.2 hab, nble_true.2 (Nat.le_trans hb h6), Bool.and_self]
    · simp; omega
    · have e1 : ((es.take b).drop a).length = b - a := by simp; omega
      rw [e1]
      have e2 : es.take b = (r.es.drop s).take b := by rw [← h5, List.take_take]; congr 1; omega
      rw [e2, List.drop_take, List.drop_drop]
    · simp; omega

theorem View.front {h : AHeap} {n : Nat} {v : AV} {es : List (List AV)} (V : View h n v es) {j : IntKind} {b : Nat} (hb : b ≤ es.length) :
    ∃ v', sliceV h n v none (some (.int j (b : Int))) none = some v' ∧ View h n v' (es.take b) := by
  obtain ⟨v', h1, h2⟩ := V.cut (k := .i64) (j := j) (Nat.zero_le b) hb
  refine ⟨v', ?_, by simpa using h2⟩
  rw [← h1]
  unfold sliceV
  cases v <;> simp [natV, asNat]

theorem View.back {h : AHeap} {n : Nat} {v : AV} {es : List (List AV)} (V : View h n v es) {k : IntKind} {a : Nat} (ha : a ≤ es.length) :
    ∃ v', sliceV h n v (some (.int k (a : Int))) none none = some v' ∧ View h n v' (es.drop a) := by
  obtain ⟨v', h1, h2⟩ := V.cut (k := k) (j := .i64) ha (Nat.le_refl _)
  refine ⟨v', ?_, by simpa using h2⟩
  rw [← h1]
  rcases V with ⟨rfl, rfl | rfl⟩ | ⟨id, g, s, cap, ex, r, rfl, h2, h3, h4, h5, h6⟩
  · simp [sliceV, natV, asNat]
  · simp [sliceV, natV, asNat]
  · simp only [sliceV, natV, asNat_nat]

/-- A slice that may be appended to: laid since 'b'. -/
def Own (b : Nat) (h : AHeap) (n : Nat) (v : AV) (es : List (List AV)) : Prop :=
  (v = .nilSlc ∧ es = []) ∨ ∃ id r, b ≤ id ∧ v = .slc id r.g 0 es.length es.length false ∧ h.row id = some r ∧ r.rw = true ∧ r.m ≤ r.g ∧ r.sz = n ∧ r.es = es

theorem Own.view {b : Nat} {h : AHeap} {n : Nat} {v : AV} {es : List (List AV)} (O : Own b h n v es) : View h n v es := by
  rcases O with ⟨rfl, rfl⟩ | ⟨id, r, _, rfl, h2, h3, h4, h5, h6⟩
  · exact View.nil h n
  · exact .inr ⟨id, r.g, 0, es.length, false, r, rfl, h2, h4, h5, by simp [h6], Nat.le_refl _⟩

theorem Own.ext {b n : Nat} {h h' : AHeap} {v : AV} {es : List (List AV)} (V : Own b h n v es) (e : Ext h h') : Own b h' n v es := by
  rcases V with V | ⟨id, r, w1, w2, w3, w4, w5, w6, w7⟩
  · exact .inl V
  · exact .inr ⟨id, r, w1, w2, e.row w3, w4, w5, w6, w7⟩

theorem Own.nil (b : Nat) (h : AHeap) (n : Nat) : Own b h n .nilSlc [] := .inl ⟨rfl, rfl⟩

/-- What keeps all that lay below b, and all that is not that row. -/
structure Ext1 (b : Nat) (id : Nat) (h h' : AHeap) : Prop where
  sz : h.sz ≤ h'.sz
  keep : ∀ j o, j < h.sz → j ≠ id → h.get j = some o → h'.get j = some o

theorem ext_push {h : AHeap} (gone : ∀ id, h.sz ≤ id → h.get id = none) (o : AObj) : Ext h (h.push o) := by
  refine ⟨by simp, fun id x e => ?_⟩
  rw [AHeap.get_push]
  have : id ≠ h.sz := fun hh => by rw [gone id (by omega)] at e; cases e
  rw [if_neg this]; exact e

/-- A heap whose places are all below its size. -/
def AHeap.Ok (h : AHeap) : Prop := ∀ id, h.sz ≤ id → h.get id = none
theorem AHeap.Ok.push {h : AHeap} (k : h.Ok) (o : AObj) : (h.push o).Ok := by
  intro id hid
  simp at hid
  rw [AHeap.get_push, if_neg (by omega)]
  exact k id (by omega)
theorem AHeap.Ok.lt {h : AHeap} (k : h.Ok) {id : Nat} {o : AObj} (e : h.get id = some o) : id < h.sz := by
  rcases Nat.lt_or_ge id h.sz with h1 | h1
  · exact h1
  · rw [k id h1] at e; cases e
theorem AHeap.Ok.put {h : AHeap} (k : h.Ok) {id : Nat} (hid : id < h.sz) (o : AObj) : (h.put id o).Ok := by
  intro j hj
  rw [AHeap.get_put, if_neg (by simp at hj; omega)]
  exact k j (by simpa using hj)

/-- Since 'h0' nothing of it has turned. -/
theorem ext_put {h0 h : AHeap} (e : Ext h0 h) (k0 : h0.Ok) {id : Nat} (hid : h0.sz ≤ id) (o : AObj) : Ext h0 (h.put id o) := by
  refine ⟨by simpa using e.1, fun j x hj => ?_⟩
  rw [AHeap.get_put]
  have := k0.lt hj
  rw [if_neg (by omega)]
  exact e.2 j x hj

/-- The type of a slice's elements is noted. -/
def TyOf (h : AHeap) (v : AV) (e : Nat) : Prop := ∀ id g s l c ex, v = .slc id g s l c ex → ∃ r, h.row id = some r ∧ r.ty = some e

/-- Appending to a slice that may be appended to. -/
theorem Own.appT {b : Nat} {h h0 : AHeap} {n bytes : Nat} {v x : AV} {es new : List (List AV)} (nt : Option Nat) (O : Own b h n v es) (hn : 0 < n) (hb : b ≤ h.sz) (k : h.Ok) (k0 : h0.Ok) (e0 : Ext h0 h) (hb0 : h0.sz ≤ b) (hs : source h n x = some new)
    (h1 : (es.length + new.length) * bytes ≤ most) (h2 : es.length + new.length ≤ most) :
    ∃ v' h', appendA h n bytes v x nt = some (v', h') ∧ Own b h' n v' (es ++ new) ∧ h'.Ok ∧ Ext h0 h' ∧ h.sz ≤ h'.sz ∧
      (∀ j o, h.get j = some o → (∀ id g s l c ex, v = .slc id g s l c ex → j ≠ id) → h'.get j = some o) ∧ (∀ k u q, View h k u q → View h' k u q) ∧ (∀ e, nt = some e → TyOf h v e → TyOf h' v' e) := by
  have hn0 : Nat.beq n 0 = false := nbeq_false.2 (by omega)
  simp only [appendA, hn0, cond_false, hs]
  have hrow : ∀ (h : AHeap) (r : Row), (h.push (.row r)).row h.sz = some r := fun h r => by rw [AHeap.row_some, AHeap.get_push, if_pos rfl]
  rcases O with ⟨rfl, rfl⟩ | ⟨id, r, o1, rfl, o2, o3, o4, o5, o6⟩
  · cases new with
    | nil => exact ⟨.nilSlc, h, rfl, .inl ⟨rfl, rfl⟩, k, e0, Nat.le_refl _, fun j o hj _ => hj, fun _ _ _ V => V, fun _ _ T => T⟩
    | cons y new =>
      refine ⟨.slc h.sz 0 0 (y :: new).length (y :: new).length false, newRow h (y :: new) n nt, ?_, .inr ⟨h.sz, { es := y :: new, sz := n, g := 0, m := 0, rw := true, ty := nt }, hb, by simp, hrow _ _, rfl, Nat.le_refl _, rfl, rfl⟩, k.push _, e0.trans (ext_push k _), by simp [newRow], fun j o hj _ => (ext_push k _).2 j o hj, fun _ _ _ V => V.ext (ext_push k _), fun e he _ id g s l c ex hv => ⟨_, by cases hv; exact hrow _ _, he⟩⟩
      simp only [appendNew]
      rw [nble_true.2 (by simpa using h1), nble_true.2 (by simpa using h2)]
      rfl
  · cases new with
    | nil => exact ⟨.slc id r.g 0 es.length es.length false, h, rfl, .inr ⟨id, r, o1, by simp, o2, o3, o4, o5, by simpa using o6⟩, k, e0, Nat.le_refl _, fun j o hj _ => hj, fun _ _ _ V => V, fun _ _ T id g s l c ex hv => T id g s l c ex (by simpa using hv)⟩
    | cons y new =>
      have hid := k.lt (AHeap.row_some.1 o2)
      have hnc : Nat.ble (es.length + (y :: new).length) es.length = false := by
        cases hh : Nat.ble (es.length + (y :: new).length) es.length with
        | false => rfl
        | true => have := nble_true.1 hh; simp at this; omega
      refine ⟨.slc id (r.g + 1) 0 (es.length + (y :: new).length) (es.length + (y :: new).length) false, h.put id (.row { r with es := r.es ++ (y :: new), g := r.g + 1, ty := tyJoin r.ty nt }), ?_, .inr ⟨id, { r with es := r.es ++ (y :: new), g := r.g + 1, ty := tyJoin r.ty nt }, o1, by simp, ?_, o3, by simp only; omega, o5, by simp [o6]⟩, k.put hid _, ext_put e0 k0 (by omega) _, by simp, fun j o hj hne => ?_, fun kk u q V => ?_, fun e he T id' g' s' l' c' ex' hv => ?_⟩
      · simp only [appendNew, o2]
        rw [nble_true.2 h1, nble_true.2 h2, nbeq_true.2 o5]
        simp only [Bool.and_self, cond_true, hnc, cond_false, o3, nbeq_true.2 rfl, nbeq_true.2 (show es.length = r.es.length by rw [o6])]
      · rw [AHeap.row_some, AHeap.get_put, if_pos rfl]
      · rw [AHeap.get_put, if_neg (hne id _ _ _ _ _ rfl)]; exact hj
      · rcases V with V | ⟨i', g', s', cp, ex, rr, w1, w2, w3, w4, w5, w6⟩
        · exact .inl V
        · by_cases hi : i' = id
          · subst hi
            rw [o2] at w2; cases w2
            refine .inr ⟨i', g', s', cp, ex, { r with es := r.es ++ (y :: new), g := r.g + 1, ty := tyJoin r.ty nt }, w1, by rw [AHeap.row_some, AHeap.get_put, if_pos rfl], w3, w4, ?_, w6⟩
            simp only
            by_cases hq : q.length = 0
            · rw [hq, List.take_zero]; exact (List.length_eq_zero_iff.1 hq).symm
            · have hlen : ((r.es.drop s').take q.length).length = q.length := by rw [w5]
              rw [List.length_take, List.length_drop] at hlen
              rw [List.drop_append_of_le_length (by omega), List.take_append_of_le_length (by rw [List.length_drop]; omega)]
              exact w5
          · refine .inr ⟨i', g', s', cp, ex, rr, w1, ?_, w3, w4, w5, w6⟩
            rw [AHeap.row_some] at w2 ⊢
            rw [AHeap.get_put, if_neg hi]; exact w2
      · cases hv
        obtain ⟨r', q1, q2⟩ := T id _ _ _ _ _ rfl
        rw [o2] at q1; cases q1
        refine ⟨_, by rw [AHeap.row_some, AHeap.get_put, if_pos rfl], ?_⟩
        simp [q2, he, tyJoin]

theorem Own.app {b : Nat} {h h0 : AHeap} {n bytes : Nat} {v x : AV} {es new : List (List AV)} (O : Own b h n v es) (hn : 0 < n) (hb : b ≤ h.sz) (k : h.Ok) (k0 : h0.Ok) (e0 : Ext h0 h) (hb0 : h0.sz ≤ b) (hs : source h n x = some new)
    (h1 : (es.length + new.length) * bytes ≤ most) (h2 : es.length + new.length ≤ most) :
    ∃ v' h', appendA h n bytes v x = some (v', h') ∧ Own b h' n v' (es ++ new) ∧ h'.Ok ∧ Ext h0 h' ∧ h.sz ≤ h'.sz ∧
      (∀ j o, h.get j = some o → (∀ id g s l c ex, v = .slc id g s l c ex → j ≠ id) → h'.get j = some o) ∧ (∀ k u q, View h k u q → View h' k u q) := by
  obtain ⟨v', h', a1, a2, a3, a4, a5, a6, a7, _⟩ := O.appT none hn hb k k0 e0 hb0 hs h1 h2
  exact ⟨v', h', a1, a2, a3, a4, a5, a6, a7⟩

/-- Bytes appended. -/
theorem Own.appb {b : Nat} {h h0 : AHeap} {e : Nat} {v x : AV} {es new : List (List AV)} (O : Own b h 1 v es) (hb : b ≤ h.sz) (k : h.Ok) (k0 : h0.Ok) (e0 : Ext h0 h) (hb0 : h0.sz ≤ b) (hs : source h 1 x = some new) (h2 : es.length + new.length ≤ most) :
    ∃ v' h', appbA h e v x = some (v', h') ∧ Own b h' 1 v' (es ++ new) ∧ h'.Ok ∧ Ext h0 h' ∧ h.sz ≤ h'.sz ∧
      (∀ j o, h.get j = some o → (∀ id g s l c ex, v = .slc id g s l c ex → j ≠ id) → h'.get j = some o) ∧ (∀ k u q, View h k u q → View h' k u q) ∧ (TyOf h v e → TyOf h' v' e) := by
  obtain ⟨v', h', a1, a2, a3, a4, a5, a6, a7, a8⟩ := O.appT (bytes := 1) (some e) (by decide) hb k k0 e0 hb0 hs (by omega) h2
  exact ⟨v', h', a1, a2, a3, a4, a5, a6, a7, a8 e rfl⟩
end Go.Ab
