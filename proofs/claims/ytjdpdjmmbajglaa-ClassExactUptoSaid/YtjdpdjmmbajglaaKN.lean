/-
  Writing into what is one's own.
-/
import Derived.Test.YtjdpdjmmbajglaaKM
namespace Go.Proofs.Ytjdpdjmmbajglaa
open Go.Ab
set_option linter.unusedSimpArgs false
set_option linter.unusedVariables false

theorem setNth_set {α : Type} : ∀ (l : List α) (i : Nat) (x : α), setNth l i x = l.set i x
  | [], _, _ => rfl
  | _ :: _, 0, _ => rfl
  | a :: l, i + 1, x => by simp [setNth, setNth_set l i x]

/-- One cell of an element of one's own slice is written. -/
theorem _root_.Go.Ab.Own.store1 {b n : Nat} {h : AHeap} {v : AV} {es : List (List AV)} (O : Own b h n v es) {i o : Nat} {e : List AV} {w : AV} (hi : es[i]? = some e) (ho : o < e.length) (hw : w.leaf = true) :
    ∃ id g obj, (∀ k, iadrA h n v (.int k (i : Int)) = some (.ptr id g i 0)) ∧ b ≤ id ∧ storeA h 1 (.ptr id g i o) w = some (h.put id obj) ∧ Own b (h.put id obj) n v (es.set i (e.set o w)) ∧ (∃ s l c ex, v = .slc id g s l c ex) ∧ (∃ r, h.get id = some (.row r)) := by
  rcases O with ⟨_, rfl⟩ | ⟨id, r, h1, rfl, h2, h3, h4, h5, h6⟩
  · simp at hi
  · have hlt := (List.getElem?_eq_some_iff.1 hi).1
    have hc := cells_leaf hw
    have hn : nth r.es i = some e := by rw [nth_eq, h6]; exact hi
    refine ⟨id, r.g, .row { r with es := setNth r.es i (lay e o w.cells), m := r.g }, fun k => ?_, h1, ?_, ?_, ⟨_, _, _, _, rfl⟩, r, AHeap.row_some.1 h2⟩
    · have : rowSz h id n = true := by simp only [rowSz, h2, nbeq_true]; exact h5
      simp only [iadrA, asNat_nat, nblt_true.2 hlt, this, Bool.and_self, cond_true, Nat.zero_add]
    · simp only [storeA, h2, h3, Nat.beq_refl, hc, Bool.and_self, Bool.true_and, cond_true, hn, List.length_cons, List.length_nil, Nat.zero_add, nble_true.2 (show o + 1 ≤ e.length by omega)]
      simp [allLeaf, hw]
    · refine .inr ⟨id, { r with es := setNth r.es i (lay e o w.cells), m := r.g }, h1, by simp, ?_, h3, Nat.le_refl _, h5, ?_⟩
      · rw [AHeap.row_some, AHeap.get_put, if_pos rfl]
      · simp only [setNth_set, hc, lay_one ho, h6]

theorem l37 {n : Nat} {h0 : AHeap} {v : AV} {K : Kont} (k0 : h0.Ok) (k : ∀ h', Ext h0 h' → h'.Ok → K (.tup []) h' = true) : ∀ (m i : Nat) (h : AHeap) (es : List (List AV)), Ext h0 h → h.Ok → Own h0.sz h 1 v es → (∀ e ∈ es, e.length = 1) → es.length < 100000 → i ≤ es.length → es.length - i < m →
    l37_4 (callN E n) n m v (.int .i64 (i : Int)) h K = true := by
  intro m
  induction m with
  | zero => intro i h es _ _ _ _ _ _ hm; omega
  | succ m ih =>
    intro i h es e o O h1 hb hi hm
    rw [l37_4_s]
    unfold b37_4
    rw [O.view.len, optB_some, binA_lss, optB_some]
    by_cases hlt : i < es.length
    · obtain ⟨id, g, obj, p1, p2, p3, p4, _, r, p5⟩ := O.store1 (w := .str [111, 118, 101, 114]) (o := 0) (List.getElem?_eq_getElem hlt) (by rw [h1 _ (List.getElem_mem hlt)]; decide) rfl
      rw [condB_t (by simpa using hlt), p1, optB_some, p3]
      simp only [unit, Option.map_some, optP_some]
      rw [inc64 (by unfold lim; omega), optB_some]
      refine ih (i + 1) _ _ (ext_put e k0 p2 _) (o.put (o.lt p5) _) p4 ?_ (by rw [List.length_set]; exact hb) (by rw [List.length_set]; omega) (by rw [List.length_set]; omega)
      intro x hx
      rcases List.mem_or_eq_of_mem_set hx with hx | rfl
      · exact h1 x hx
      · rw [List.length_set]; exact h1 _ (List.getElem_mem hlt)
    · rw [condB_f (by simpa using hlt)]
      unfold p37_15
      obtain ⟨v6, b1, b2⟩ := bslice_view (h := h) (n := 1) (sz := 1) (z := [AV.str []]) (ps := [(0, AV.str [98, 101, 121, 111, 110, 100])]) (es := [[AV.str [98, 101, 121, 111, 110, 100]]]) rfl (by decide) (by decide) rfl rfl rfl
      rw [b1, optP_some]
      have e1 := ext_newRow o [[AV.str [98, 101, 121, 111, 110, 100]]] 1
      have o1 := ok_newRow o [[AV.str [98, 101, 121, 111, 110, 100]]] 1
      generalize Ab.newRow h [[AV.str [98, 101, 121, 111, 110, 100]]] 1 = h2 at *
      have hlen : lenA h2 1 v = some (.int .i64 (es.length : Int)) := (O.view.ext e1).len
      have O2 : Own h0.sz h2 1 v es := by
        rcases O with O | ⟨id, r, w1, w2, w3, w4, w5, w6, w7⟩
        · exact .inl O
        · exact .inr ⟨id, r, w1, w2, e1.row w3, w4, w5, w6, w7⟩
      obtain ⟨v7, h3, a1, a2, a3, a4, a5, a6, a7⟩ := O2.app (bytes := 16) (by decide) (e.trans e1).1 o1 k0 (e.trans e1) (Nat.le_refl _) b2.src (by simp; unfold most; omega) (by simp; unfold most; omega)
      have hlen3 : lenA h3 1 v = some (.int .i64 (es.length : Int)) := by
        rcases O with ⟨rfl, rfl⟩ | ⟨id, r, w1, rfl, _⟩ <;> rfl
      obtain ⟨id, g, obj, p1, p2, p3, p4, _, r, p5⟩ := a2.store1 (i := es.length) (w := .str [111, 118, 101, 114]) (o := 0) (e := [AV.str [98, 101, 121, 111, 110, 100]]) (by simp) (by decide) rfl
      rw [a1, optP_some, hlen3, optB_some, p1, optB_some, p3]
      simp only [unit, Option.map_some, optP_some]
      exact k _ (ext_put a4 k0 p2 _) (a3.put (a3.lt p5) _)

theorem c37 {n : Nat} {h0 h : AHeap} {v : AV} {es : List (List AV)} {K : Kont} (k0 : h0.Ok) (e : Ext h0 h) (o : h.Ok) (O : Own h0.sz h 1 v es) (h1 : ∀ e ∈ es, e.length = 1) (hb : es.length < 100000) (hn : es.length < n)
    (k : ∀ h', Ext h0 h' → h'.Ok → K (.tup []) h' = true) : callN E (n + 1) (.func 37) [v] h K = true := by
  apply d37
  unfold s37
  exact l37 k0 k n 0 h es e o O h1 hb (Nat.zero_le _) (by omega)
end Go.Proofs.Ytjdpdjmmbajglaa
