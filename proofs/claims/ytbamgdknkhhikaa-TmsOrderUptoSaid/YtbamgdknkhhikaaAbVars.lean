/-
  Variables, maps keyed by texts, as they lie on the abstract heap.
-/
import Derived.Test.YtbamgdknkhhikaaAbView
namespace Go.Ab
set_option linter.unusedSimpArgs false
set_option linter.unusedVariables false

theorem PT.setF_lf_setF {α : Type} : ∀ (f g : Nat) (t : PT α) (n : Nat) (x y : Option α), n < f → n < g → PT.setF g (PT.setF f t n x) n y = PT.setF g t n y
  | 0, _, _, n, _, _, h, _ => absurd h (Nat.not_lt_zero n)
  | _, 0, _, n, _, _, _, h => absurd h (Nat.not_lt_zero n)
  | f + 1, g + 1, t, n, x, y, h1, h2 => by
    cases n with
    | zero => cases t <;> rfl
    | succ k =>
      have d1 : Nat.div k 2 = k / 2 := rfl
      have hf : Nat.div k 2 < f := by omega
      have hg : Nat.div k 2 < g := by omega
      cases t with
      | lf =>
        simp only [PT.setF]
        cases hb : Nat.beq (Nat.mod k 2) 0 <;> simp only [cond_true, cond_false, PT.setF, hb] <;> rw [PT.setF_lf_setF f g _ _ _ _ hf hg]
      | nd l v r =>
        simp only [PT.setF]
        cases hb : Nat.beq (Nat.mod k 2) 0 <;> simp only [cond_true, cond_false, PT.setF, hb] <;> rw [PT.setF_lf_setF f g _ _ _ _ hf hg]

theorem PT.set_set {α : Type} (t : PT α) (n : Nat) (x y : α) : (t.set n x).set n y = t.set n y := PT.setF_lf_setF _ _ _ _ _ _ (Nat.lt_succ_self n) (Nat.lt_succ_self n)

theorem push_put (h : AHeap) (a b : AObj) : (h.push a).put h.sz b = h.push b := by
  simp only [AHeap.push, AHeap.put, PT.set_set]
theorem put_put (h : AHeap) (i : Nat) (a b : AObj) : (h.put i a).put i b = h.put i b := by
  simp only [AHeap.put, PT.set_set]

@[simp] theorem newRow_sz (h : AHeap) (es : List (List AV)) (n : Nat) : (newRow h es n).sz = h.sz + 1 := rfl

def VRow (cells : List AV) : Row := { es := [cells], sz := cells.length, g := 0, m := 0, rw := true }

/-- At 'id' lies a variable of these cells. -/
def Var (h : AHeap) (id : Nat) (cells : List AV) : Prop := h.row id = some (VRow cells)

theorem Var.ext {h h' : AHeap} {id : Nat} {c : List AV} (V : Var h id c) (e : Ext h h') : Var h' id c := e.row V
theorem Var.lt {h : AHeap} {id : Nat} {c : List AV} (V : Var h id c) (k : h.Ok) : id < h.sz := k.lt (AHeap.row_some.1 V)

theorem Var.load {h : AHeap} {id : Nat} {c : List AV} (V : Var h id c) (ag : Bool) (off n : Nat) : loadA h ag n (.ptr id 0 0 off) = partA ag off n c := by
  have V' : h.row id = some (VRow c) := V
  simp only [loadA, V', VRow, Nat.ble_self_eq_true, cond_true, nth_zero]

theorem var_new (h : AHeap) (c : List AV) : Var (newRow h [c] c.length) h.sz c := by
  show AHeap.row _ _ = _
  rw [AHeap.row_some]
  simp only [newRow, AHeap.get_push, if_pos, VRow]

theorem alloc_eq {h : AHeap} {z : List AV} (h1 : 0 < z.length) (h2 : allLeaf z = true) : allocV h z = some (.ptr h.sz 0 0 0, newRow h [z] z.length) := by
  simp only [allocV, allocA, nbeq_false.2 (show z.length ≠ 0 by omega), h2, cond_false, cond_true]

theorem box_eq {h : AHeap} {n : Nat} {v : AV} (h0 : v.cells.length = n) (h1 : 0 < n) (h2 : allLeaf v.cells = true) : boxA h n v = some (.ptr h.sz 0 0 0, newRow h [v.cells] n) := by
  simp only [boxA, nbeq_true.2 h0, nblt_true.2 h1, h2, Bool.and_self, cond_true]

theorem lay_len {α : Type} {l new : List α} {n : Nat} (h : n + new.length ≤ l.length) : (lay l n new).length = l.length := by
  simp [lay]; omega

theorem Var.store {h : AHeap} {id : Nat} {c : List AV} (V : Var h id c) {n off : Nat} {v : AV} (h0 : v.cells.length = n) (h1 : off + n ≤ c.length) (h2 : allLeaf v.cells = true) :
    storeA h n (.ptr id 0 0 off) v = some (h.put id (.row (VRow (lay c off v.cells)))) := by
  have V' : h.row id = some (VRow c) := V
  have e : (lay c off v.cells).length = c.length := lay_len (by omega)
  simp only [storeA, V', VRow, Nat.beq_refl, nbeq_true.2 h0, h2, Bool.and_self, cond_true, nth_zero, nble_true.2 h1, setNth, e]

theorem cells_leaf {v : AV} (h : v.leaf = true) : v.cells = [v] := by cases v <;> first | rfl | cases h

theorem lay_one {α : Type} {l : List α} {n : Nat} {x : α} (h : n < l.length) : lay l n [x] = l.set n x := by
  rw [List.set_eq_take_append_cons_drop]
  simp [lay, h]

/-- One cell of a variable, written. -/
theorem Var.set1 {h : AHeap} {id : Nat} {c : List AV} (V : Var h id c) {off : Nat} {v : AV} (h1 : off < c.length) (h2 : v.leaf = true) :
    storeA h 1 (.ptr id 0 0 off) v = some (h.put id (.row (VRow (c.set off v)))) := by
  have hc := cells_leaf h2
  rw [V.store (n := 1) (by rw [hc]; rfl) (by omega) (by rw [hc]; simp [allLeaf, h2]), hc, lay_one h1]

theorem var_put {h : AHeap} (id : Nat) (c : List AV) : Var (h.put id (.row (VRow c))) id c := by
  show AHeap.row _ _ = _
  rw [AHeap.row_some, AHeap.get_put, if_pos rfl]

/-- A new variable, written whole at once. -/
theorem store_new {h : AHeap} {z : List AV} {n : Nat} {v : AV} (hz : z.length = n) (h0 : v.cells.length = n) (h2 : allLeaf v.cells = true) :
    storeA (newRow h [z] n) n (.ptr h.sz 0 0 0) v = some (newRow h [v.cells] n) := by
  subst hz
  rw [(var_new h z).store h0 (by omega) h2]
  have : lay z 0 v.cells = v.cells := by simp [lay]; omega
  rw [this]
  simp only [newRow, push_put, VRow, h0]

/-- A new variable, laid and written. -/
theorem alloc_set {h : AHeap} {z : List AV} {n : Nat} {v : AV} {k : Kont} (hz : z.length = n) (hp : 0 < n) (hl : allLeaf z = true) (h0 : v.cells.length = n) (h2 : allLeaf v.cells = true) :
    (optP (allocV h z) fun p h => optP (unit (storeA h n p v)) fun _ h => k p h) = k (.ptr h.sz 0 0 0) (newRow h [v.cells] n) := by
  rw [alloc_eq (by omega) hl, optP_some, hz, store_new hz h0 h2]
  rfl

/-! ### Maps keyed by texts -/
def StrMap (h : AHeap) (id : Nat) (f : List Nat → Option AV) : Prop :=
  ∃ es c, h.get id = some (.map es c) ∧ (∀ e ∈ es, ∃ s, e.1 = .str s) ∧ ∀ s, findE (.str s) es = some (f s)

theorem StrMap.ext {h h' : AHeap} {id : Nat} {f : List Nat → Option AV} (M : StrMap h id f) (e : Ext h h') : StrMap h' id f := by
  obtain ⟨es, c, h1, h2⟩ := M
  exact ⟨es, c, e.2 id _ h1, h2⟩

theorem strMap_new (h : AHeap) : mkmapV h = some (.map h.sz, h.push (.map [] 0)) ∧ StrMap (h.push (.map [] 0)) h.sz (fun _ => none) :=
  ⟨rfl, [], 0, by rw [AHeap.get_push, if_pos rfl], by simp, fun _ => rfl⟩

theorem StrMap.look {h : AHeap} {id : Nat} {f : List Nat → Option AV} (M : StrMap h id f) (z : AV) (s : List Nat) : lookA h (.leaf .str) false z (.map id) (.str s) = some ((f s).getD z) := by
  obtain ⟨es, c, h1, h2, h3⟩ := M
  simp only [lookA, fitsKK, fits0, cond_true, mapOf, h1, h3]
  cases f s <;> rfl
theorem StrMap.look2 {h : AHeap} {id : Nat} {f : List Nat → Option AV} (M : StrMap h id f) (z : AV) (s : List Nat) : lookA h (.leaf .str) true z (.map id) (.str s) = some (.tup [(f s).getD z, .bool (f s).isSome]) := by
  obtain ⟨es, c, h1, h2, h3⟩ := M
  simp only [lookA, fitsKK, fits0, cond_true, mapOf, h1, h3]
  cases f s <;> rfl

theorem keyEq_str (a b : List Nat) : keyEq (.str a) (.str b) = some (decide (a = b)) := by
  simp only [keyEq, leafEq, leqb_dec]

theorem findE_append (s t : List Nat) (v : AV) (c : Nat) : ∀ (es : List (AV × AV × Nat)), (∀ e ∈ es, ∃ s, e.1 = .str s) → findE (.str t) es = some none →
    findE (.str s) (es ++ [(.str t, v, c)]) = if s = t then some (some v) else findE (.str s) es
  | [], _, _ => by
    simp only [List.nil_append, findE, keyEq_str]
    by_cases e : s = t <;> simp [e]
  | (k, u, b) :: es, hk, hf => by
    obtain ⟨x, hx⟩ := hk _ List.mem_cons_self
    simp only at hx; subst hx
    simp only [findE, keyEq_str] at hf
    simp only [List.cons_append, findE, keyEq_str]
    by_cases e1 : t = x
    · simp [e1] at hf
    · simp [e1] at hf
      have ih := findE_append s t v c es (fun e he => hk e (List.mem_cons_of_mem _ he)) hf
      by_cases e2 : s = x
      · subst e2
        have : ¬ s = t := fun h => e1 h.symm
        simp [this]
      · simp [e2, ih]

theorem findE_set (s t : List Nat) (v : AV) : ∀ (es : List (AV × AV × Nat)), (∀ e ∈ es, ∃ s, e.1 = .str s) → (∃ u, findE (.str t) es = some (some u)) →
    findE (.str s) (setE (.str t) v es) = (if s = t then some (some v) else findE (.str s) es) ∧ (∀ e ∈ setE (.str t) v es, ∃ s, e.1 = .str s)
  | [], _, hf => by obtain ⟨u, hf⟩ := hf; simp [findE] at hf
  | (k, u, b) :: es, hk, hf => by
    obtain ⟨x, hx⟩ := hk _ List.mem_cons_self
    simp only at hx; subst hx
    obtain ⟨w, hf⟩ := hf
    simp only [findE, keyEq_str] at hf
    simp only [setE, keyEq_str]
    by_cases e1 : t = x
    · subst e1
      simp only [decide_true]
      refine ⟨?_, ?_⟩
      · simp only [findE, keyEq_str]
        by_cases e2 : s = t <;> simp [e2]
      · intro e he
        rcases List.mem_cons.1 he with rfl | he
        · exact ⟨t, rfl⟩
        · exact hk e (List.mem_cons_of_mem _ he)
    · simp [e1] at hf
      obtain ⟨i1, i2⟩ := findE_set s t v es (fun e he => hk e (List.mem_cons_of_mem _ he)) ⟨w, hf⟩
      simp only [e1, decide_false]
      refine ⟨?_, ?_⟩
      · simp only [findE, keyEq_str]
        by_cases e2 : s = x
        · subst e2
          have : ¬ s = t := fun h => e1 h.symm
          simp [this]
        · simp [e2, i1]
      · intro e he
        rcases List.mem_cons.1 he with rfl | he
        · exact ⟨x, rfl⟩
        · exact i2 e he

theorem StrMap.upd {h : AHeap} {id : Nat} {f : List Nat → Option AV} (M : StrMap h id f) (t : List Nat) (v : AV) :
    ∃ o, mupdA h (.leaf .str) (.map id) (.str t) v = some (h.put id o) ∧ StrMap (h.put id o) id (fun s => if s = t then some v else f s) := by
  obtain ⟨es, c, h1, h2, h3⟩ := M
  have h4 := h3 t
  cases hft : f t with
  | none =>
    rw [hft] at h4
    refine ⟨.map (es ++ [(.str t, v, c)]) (c + 1), ?_, es ++ [(.str t, v, c)], c + 1, by rw [AHeap.get_put, if_pos rfl], ?_, fun s => ?_⟩
    · simp only [mupdA, fitsKK, fits0, cond_true, h1, h4]
    · intro e he
      rcases List.mem_append.1 he with he | he
      · exact h2 e he
      · simp at he; subst he; exact ⟨t, rfl⟩
    · rw [findE_append s t v c es h2 h4, h3 s]
      by_cases e : s = t <;> simp [e]
  | some u =>
    rw [hft] at h4
    refine ⟨.map (setE (.str t) v es) c, ?_, setE (.str t) v es, c, by rw [AHeap.get_put, if_pos rfl], (findE_set t t v es h2 ⟨u, h4⟩).2, fun s => ?_⟩
    · simp only [mupdA, fitsKK, fits0, cond_true, h1, h4]
    · rw [(findE_set s t v es h2 ⟨u, h4⟩).1, h3 s]
      by_cases e : s = t <;> simp [e]

theorem StrMap.lt {h : AHeap} {id : Nat} {f : List Nat → Option AV} (M : StrMap h id f) (k : h.Ok) : id < h.sz := by
  obtain ⟨es, c, h1, _⟩ := M; exact k.lt h1
theorem StrMap.other {h : AHeap} {id j : Nat} {f : List Nat → Option AV} (M : StrMap h id f) (e : id ≠ j) (o : AObj) : StrMap (h.put j o) id f := by
  obtain ⟨es, c, h1, h2⟩ := M
  exact ⟨es, c, by rw [AHeap.get_put, if_neg e]; exact h1, h2⟩
theorem Var.other {h : AHeap} {id j : Nat} {c : List AV} (V : Var h id c) (e : id ≠ j) (o : AObj) : Var (h.put j o) id c := by
  show AHeap.row _ _ = _
  rw [AHeap.row_some, AHeap.get_put, if_neg e]
  exact AHeap.row_some.1 V

/-- Slices that are laid new. -/
theorem bslice_view {h : AHeap} {n sz : Nat} {z : List AV} {ps : List (Nat × AV)} {es : List (List AV)} (h1 : z.length = sz) (h2 : 0 < sz) (h3 : n * sz ≤ 16777216) (h4 : allLeaf z = true) (h5 : fillRowV sz (repl n z) ps = some es) (h6 : es.length = n) :
    ∃ v, bsliceV h n sz z ps = some (v, newRow h es sz) ∧ View (newRow h es sz) sz v es := by
  refine ⟨.slc h.sz 0 0 n n true, ?_, .inr ⟨h.sz, 0, 0, n, true, { es, sz, g := 0, m := 0, rw := true }, by rw [h6], ?_, Nat.le_refl _, rfl, by simp, by omega⟩⟩
  · simp only [bsliceV, nbeq_true.2 h1, nblt_true.2 h2, nble_true.2 h3, h4, Bool.and_self, cond_true, h5]
  · rw [AHeap.row_some]; simp only [newRow, AHeap.get_push, if_pos]

/-- One element appended to none, or to a slice's own. -/
theorem ext_newRow {h : AHeap} (k : h.Ok) (es : List (List AV)) (n : Nat) : Ext h (newRow h es n) := ext_push k _
theorem ok_newRow {h : AHeap} (k : h.Ok) (es : List (List AV)) (n : Nat) : (newRow h es n).Ok := k.push _

end Go.Ab
