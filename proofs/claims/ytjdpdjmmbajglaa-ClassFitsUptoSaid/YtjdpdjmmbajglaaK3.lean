/-
  Tables of classes as they lie in memory; the way upwards from a class.
-/
import Derived.Test.YtjdpdjmmbajglaaK2
namespace Go.Proofs.Ytjdpdjmmbajglaa
open Go.Ab
set_option linter.unusedSimpArgs false
set_option linter.unusedVariables false

structure Fld where
  name : Str
  ty : Int
  cls : Str

structure Cls where
  name : Str
  super : Str
  fields : List Fld

def encF (f : Fld) : List AV := [.str f.name, .int .i64 f.ty, .str f.cls]
def RCls (h : AHeap) (a : List AV) (c : Cls) : Prop := ∃ v, a = [.str c.name, .str c.super, v] ∧ View h 3 v (c.fields.map encF)
def CV (h : AHeap) (v : AV) (l : List Cls) : Prop := ∃ es, View h 3 v es ∧ All2 (RCls h) es l
def names (l : List Cls) : List Str := l.map Cls.name

theorem RCls.ext {h h' : AHeap} {a : List AV} {c : Cls} (R : RCls h a c) (e : Ext h h') : RCls h' a c := let ⟨v, h1, h2⟩ := R; ⟨v, h1, h2.ext e⟩
theorem CV.ext {h h' : AHeap} {v : AV} {l : List Cls} (R : CV h v l) (e : Ext h h') : CV h' v l := let ⟨es, h1, h2⟩ := R; ⟨es, h1.ext e, h2.mono fun _ _ r => r.ext e⟩
theorem CV.named {h : AHeap} {v : AV} {l : List Cls} (R : CV h v l) : ∃ es, View h 3 v es ∧ All2 (RCls h) es l ∧ Named es (names l) := by
  obtain ⟨es, h1, h2⟩ := R
  refine ⟨es, h1, h2, ?_⟩
  clear h1
  induction h2 with
  | nil => exact .nil
  | cons r _ ih => obtain ⟨v, rfl, _⟩ := r; exact .cons rfl ih
theorem CV.len {h : AHeap} {v : AV} {l : List Cls} (R : CV h v l) : lenA h 1 v = some (.int .i64 (l.length : Int)) := by
  obtain ⟨es, h1, h2⟩ := R; rw [h1.len, h2.length]
/-- An element, where it lies. -/
theorem CV.at {h : AHeap} {v : AV} {l : List Cls} (R : CV h v l) {i : Nat} {c : Cls} (hi : l[i]? = some c) :
    ∃ id g j f, iadrA h 3 v (.int .i64 (i : Int)) = some (.ptr id g j 0) ∧ loadA h true 3 (.ptr id g j 0) = some (.agg [.str c.name, .str c.super, f]) ∧ loadA h false 1 (.ptr id g j 0) = some (.str c.name) ∧ loadA h false 1 (.ptr id g j 1) = some (.str c.super) ∧ loadA h false 1 (.ptr id g j 2) = some f ∧ View h 3 f (c.fields.map encF) := by
  obtain ⟨es, h1, h2⟩ := R
  obtain ⟨e, he, f, rfl, hf⟩ := h2.get hi
  obtain ⟨id, g, j, p1, p2⟩ := h1.at he
  exact ⟨id, g, j, f, p1 _, by rw [p2]; rfl, by rw [p2]; rfl, by rw [p2]; rfl, by rw [p2]; rfl, hf⟩

/-- An element, where it lies, whatever has come since. -/
theorem CV.at2 {h0 h : AHeap} {v : AV} {l : List Cls} (R : CV h0 v l) (x : Ext h0 h) {i : Nat} {c : Cls} (hi : l[i]? = some c) :
    ∃ id g j f, iadrA h 3 v (.int .i64 (i : Int)) = some (.ptr id g j 0) ∧ loadA h true 3 (.ptr id g j 0) = some (.agg [.str c.name, .str c.super, f]) ∧ loadA h false 1 (.ptr id g j 0) = some (.str c.name) ∧ loadA h false 1 (.ptr id g j 1) = some (.str c.super) ∧ loadA h false 1 (.ptr id g j 2) = some f ∧ View h0 3 f (c.fields.map encF) := by
  obtain ⟨es, h1, h2⟩ := R
  obtain ⟨e, he, f, rfl, hf⟩ := h2.get hi
  obtain ⟨id, g, j, p1, p2⟩ := (h1.ext x).at he
  exact ⟨id, g, j, f, p1 _, by rw [p2]; rfl, by rw [p2]; rfl, by rw [p2]; rfl, by rw [p2]; rfl, hf⟩

def TableRep (h : AHeap) (t : AV) (l : List Cls) : Prop :=
  ∃ id lv mid, t = .ptr id 0 0 0 ∧ Var h id [lv, .map mid] ∧ CV h lv l ∧ StrMap h mid (fun s => (idx s (names l)).map fun i => .int .i64 (i : Int))

theorem TableRep.ext {h h' : AHeap} {t : AV} {l : List Cls} (T : TableRep h t l) (e : Ext h h') : TableRep h' t l :=
  let ⟨id, lv, mid, h1, h2, h3, h4⟩ := T; ⟨id, lv, mid, h1, h2.ext e, h3.ext e, h4.ext e⟩

theorem c19 {n : Nat} {h : AHeap} {t : AV} {l : List Cls} {s : Str} {K : Kont} (T : TableRep h t l) (k : K (.bool (idx s (names l)).isSome) h = true) : callN E (n + 1) (.func 19) [t, .str s] h K = true := by
  obtain ⟨id, lv, mid, rfl, V, C, M⟩ := T
  apply d19
  unfold s19
  simp only [nilckA_ptr, optB_some, fadrA_ptr, V.load, partA_false, nth_succ, nth_zero, M.look2, extA_tup]
  cases hi : idx s (names l) <;> (rw [hi] at k; exact k)

theorem c38 {n : Nat} {h : AHeap} {id : Nat} {s : Str} {K : Kont} (k : K (.fn (.func 50) [] [.ptr h.sz 0 0 0, .ptr (h.sz + 1) 0 0 0]) (Ab.newRow (Ab.newRow h [[.ptr id 0 0 0]] 1) [[.str s]] 1) = true) : callN E (n + 1) (.func 38) [.ptr id 0 0 0, .str s] h K = true := by
  apply d38
  unfold s38
  rw [box_eq (n := 1) rfl (by decide) rfl, optP_some, box_eq (n := 1) rfl (by decide) rfl, optP_some, optB_some]
  exact k

/-! ### Upwards -/
def chainN : Nat → List Cls → Str → List Cls
  | 0, _, _ => []
  | k + 1, l, s => match idx s (names l) with
    | none => []
    | some i => match l[i]? with
      | some c => c :: chainN k l c.super
      | none => []

/-- Each class extends an earlier one, or none. -/
def Asc (l : List Cls) : Prop := ∀ (i : Nat) c, l[i]? = some c → ∀ j, idx c.super (names l) = some j → j < i

def chain (l : List Cls) (s : Str) : List Cls := chainN (l.length + 1) l s

theorem names_get {l : List Cls} {i : Nat} : (names l)[i]? = (l[i]?).map Cls.name := by simp [names]
theorem names_length (l : List Cls) : (names l).length = l.length := by simp [names]

theorem idx_get {l : List Cls} {s : Str} {i : Nat} (h : idx s (names l) = some i) : ∃ c, l[i]? = some c ∧ c.name = s := by
  obtain ⟨h1, h2⟩ := idx_lt h
  rw [names_get] at h2
  cases hc : l[i]? with
  | none => rw [hc] at h2; cases h2
  | some c => rw [hc] at h2; simp at h2; exact ⟨c, rfl, h2⟩

theorem chainN_stable {l : List Cls} (A : Asc l) : ∀ (i : Nat) {s : Str}, idx s (names l) = some i → ∀ k k', i < k → i < k' → chainN k l s = chainN k' l s := by
  intro i
  induction i using Nat.strongRecOn with
  | _ i ih =>
    intro s hs k k' hk hk'
    obtain ⟨k, rfl⟩ : ∃ j, k = j + 1 := ⟨k - 1, by omega⟩
    obtain ⟨k', rfl⟩ : ∃ j, k' = j + 1 := ⟨k' - 1, by omega⟩
    obtain ⟨c, hc, _⟩ := idx_get hs
    simp only [chainN, hs, hc]
    congr 1
    cases hj : idx c.super (names l) with
    | none =>
      cases k <;> cases k' <;> simp [chainN, hj]
    | some j =>
      have := A i c hc j hj
      exact ih j this hj k k' (by omega) (by omega)

theorem chain_none {l : List Cls} {s : Str} (h : idx s (names l) = none) : chain l s = [] := by simp [chain, chainN, h]
theorem chain_some {l : List Cls} (A : Asc l) {s : Str} {i : Nat} {c : Cls} (h : idx s (names l) = some i) (hc : l[i]? = some c) : chain l s = c :: chain l c.super := by
  have hi : i < l.length := (List.getElem?_eq_some_iff.1 hc).1
  show chainN (l.length + 1) l s = _
  simp only [chainN, h, hc]
  congr 1
  cases hj : idx c.super (names l) with
  | none => rw [chain_none hj]; cases hl : l.length <;> simp [chainN, hj]
  | some j => exact chainN_stable A j hj _ _ (by have := A i c hc j hj; omega) (by have := A i c hc j hj; omega)

theorem chain_mem {l : List Cls} (A : Asc l) : ∀ (i : Nat) {s : Str}, idx s (names l) = some i → ∀ c ∈ chain l s, c ∈ l := by
  intro i
  induction i using Nat.strongRecOn with
  | _ i ih =>
    intro s hs c hc
    obtain ⟨d, hd, _⟩ := idx_get hs
    rw [chain_some A hs hd] at hc
    rcases List.mem_cons.1 hc with rfl | hc
    · exact List.mem_of_getElem? hd
    · cases hj : idx d.super (names l) with
      | none => rw [chain_none hj] at hc; cases hc
      | some j => exact ih j (A i d hd j hj) hj c hc

theorem chain_length {l : List Cls} (A : Asc l) : ∀ (i : Nat) {s : Str}, idx s (names l) = some i → (chain l s).length ≤ i + 1 := by
  intro i
  induction i using Nat.strongRecOn with
  | _ i ih =>
    intro s hs
    obtain ⟨d, hd, _⟩ := idx_get hs
    rw [chain_some A hs hd]
    cases hj : idx d.super (names l) with
    | none => rw [chain_none hj]; simp
    | some j => have := ih j (A i d hd j hj) hj; have := A i d hd j hj; simp; omega

/-- The loop that goes upwards, over whatever is done at each step. -/
theorem l50 {n : Nat} {hb : AHeap} {t : AV} {l : List Cls} {y p1 p2 : Nat} {K : Kont} (A : Asc l) (T : TableRep hb t l) (Inv : List Cls → AHeap → Prop) (Stop : AHeap → Prop)
    (hI : ∀ r h, Inv r h → Ext hb h ∧ Var h p1 [t])
    (step : ∀ c r h f K, Inv (c :: r) h → View hb 3 f (c.fields.map encF) → (∀ h', Inv r h' → K (.bool true) h' = true) → (∀ h', Stop h' → K (.bool false) h' = true) → callN E n (.yield y) [.agg [.str c.name, .str c.super, f]] h K = true)
    (fin : ∀ h, Inv [] h → K (.tup []) h = true) (stop : ∀ h, Stop h → K (.tup []) h = true) : ∀ (m : Nat) (s : Str) (h : AHeap), Inv (chain l s) h → (chain l s).length < m →
      l50_3 (callN E n) n m (.fn (.yield y) [] []) (.ptr p1 0 0 0) (((idx s (names l)).map fun i : Nat => AV.int .i64 (i : Int)).getD (.int .i64 0)) (.bool (idx s (names l)).isSome) h K = true := by
  obtain ⟨id, lv, mid, rfl, V2, C, M⟩ := T
  intro m
  induction m with
  | zero => intro s h _ hm; omega
  | succ m ih =>
    intro s h hinv hm
    obtain ⟨xe, V⟩ := hI _ _ hinv
    unfold l50_3 b50_3
    cases hs : idx s (names l) with
    | none =>
      rw [chain_none hs] at hinv
      rw [Option.isSome_none, condB_false]
      exact fin h hinv
    | some i =>
      obtain ⟨c, hc, _⟩ := idx_get hs
      rw [chain_some A hs hc] at hinv hm
      obtain ⟨a1, a2, a3, f, q1, q2, q3, q4, q5, q6⟩ := C.at2 xe hc
      rw [Option.isSome_some, condB_true]
      simp only [V.load, partA_false, Nat.zero_add, nth_zero, optB_some, nilckA_ptr, fadrA_ptr, (V2.ext xe).load, Option.map_some, Option.getD_some, q1, q2, callV_fn, List.nil_append, List.append_nil]
      refine step c _ h f _ hinv q6 ?_ ?_
      · intro h' hinv'
        obtain ⟨xe', V'⟩ := hI _ _ hinv'
        obtain ⟨b1, b2, b3, f', r1, r2, r3, r4, r5, r6⟩ := C.at2 xe' hc
        simp only [notA_bool, Bool.not_true, optB_some, condB_false, V'.load, partA_false, nth_zero, nth_succ, nilckA_ptr, fadrA_ptr, (V2.ext xe').load, r1, r4, (M.ext xe').look2, extA_tup, Nat.zero_add]
        have := ih c.super h' hinv' (by simp at hm; omega)
        cases hj : idx c.super (names l) with
        | none => rw [hj] at this; simpa using this
        | some j => rw [hj] at this; simpa using this
      · intro h' hst
        simp only [notA_bool, Bool.not_false, optB_some, condB_true]
        exact stop h' hst
end Go.Proofs.Ytjdpdjmmbajglaa
