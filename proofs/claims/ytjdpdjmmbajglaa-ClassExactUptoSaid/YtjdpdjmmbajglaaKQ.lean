/-
  Copies of classes, that are one's own.
-/
import Derived.Test.YtjdpdjmmbajglaaKP
import Derived.Test.YtjdpdjmmbajglaaKV
namespace Go.Proofs.Ytjdpdjmmbajglaa
open Go.Ab
set_option linter.unusedSimpArgs false
set_option linter.unusedVariables false

theorem _root_.Go.Ab.All2.mono_mem {α β : Type} {R S : α → β → Prop} {l : List α} {m : List β} (h : All2 R l m) : (∀ a b, a ∈ l → R a b → S a b) → All2 S l m := by
  induction h with
  | nil => intro _; exact .nil
  | cons r _ ih => intro k; exact .cons (k _ _ List.mem_cons_self r) (ih fun a b ha hr => k a b (List.mem_cons_of_mem _ ha) hr)

theorem load_len : ∀ (l : List Cls), l.length ≤ load l
  | [] => Nat.zero_le _
  | c :: l => by
    have := load_len l
    have e : load (c :: l) = 1 + c.fields.length + load l := by simp [load]
    rw [e, List.length_cons]; omega
theorem load_mem : ∀ {l : List Cls} {c : Cls}, c ∈ l → c.fields.length ≤ load l
  | [], _, h => by cases h
  | d :: l, c, h => by
    have e : load (d :: l) = 1 + d.fields.length + load l := by simp [load]
    rcases List.mem_cons.1 h with rfl | h
    · omega
    · have := load_mem h; omega
theorem load_at {l : List Cls} {i : Nat} {c : Cls} (h : l[i]? = some c) : c.fields.length ≤ load l := load_mem (List.mem_of_getElem? h)

/-- A slice whose row is another one. -/
def VNe (j : Nat) (v : AV) : Prop := ∀ id g s l c ex, v = .slc id g s l c ex → id ≠ j
def VLt (b : Nat) (v : AV) : Prop := ∀ id g s l c ex, v = .slc id g s l c ex → id < b

theorem _root_.Go.Ab.Own.put_ne {b n : Nat} {h : AHeap} {v : AV} {es : List (List AV)} (O : Own b h n v es) {j : Nat} (hj : VNe j v) (o : AObj) : Own b (h.put j o) n v es := by
  rcases O with O | ⟨id, r, w1, w2, w3, w4⟩
  · exact .inl O
  · refine .inr ⟨id, r, w1, w2, ?_, w4⟩
    have := hj _ _ _ _ _ _ w2
    rw [AHeap.row_some] at w3 ⊢
    rw [AHeap.get_put, if_neg this]; exact w3
theorem _root_.Go.Ab.Own.keep_ne {b n : Nat} {h h' : AHeap} {v x : AV} {es : List (List AV)} (O : Own b h n v es) (k : ∀ j o, h.get j = some o → (∀ id g s l c ex, x = .slc id g s l c ex → j ≠ id) → h'.get j = some o) (hne : ∀ j, (∃ g s l c ex, v = .slc j g s l c ex) → ∀ id g s l c ex, x = .slc id g s l c ex → j ≠ id) : Own b h' n v es := by
  rcases O with O | ⟨id, r, w1, w2, w3, w4⟩
  · exact .inl O
  · refine .inr ⟨id, r, w1, w2, ?_, w4⟩
    rw [AHeap.row_some] at w3 ⊢
    exact k _ _ w3 (hne id ⟨_, _, _, _, _, w2⟩)
theorem _root_.Go.Ab.Own.lower {b b' n : Nat} {h : AHeap} {v : AV} {es : List (List AV)} (O : Own b h n v es) (hb : b' ≤ b) : Own b' h n v es := by
  rcases O with O | ⟨id, r, w1, w2⟩
  · exact .inl O
  · exact .inr ⟨id, r, by omega, w2⟩
theorem _root_.Go.Ab.Own.below {b n : Nat} {h : AHeap} {v : AV} {es : List (List AV)} (O : Own b h n v es) (k : h.Ok) : VLt h.sz v := by
  intro id g s l c ex hv
  rcases O with ⟨rfl, _⟩ | ⟨id', r, w1, rfl, w3, _⟩
  · cases hv
  · cases hv; exact k.lt (AHeap.row_some.1 w3)
theorem _root_.Go.Ab.Own.above {b n : Nat} {h : AHeap} {v : AV} {es : List (List AV)} (O : Own b h n v es) : VAt b v := O.at_

def RO (b : Nat) (h : AHeap) (e : List AV) (c : Cls) : Prop := ∃ v, e = [.str c.name, .str c.super, v] ∧ Own b h 3 v (c.fields.map encF)

/-- A row of classes is none of fields. -/
theorem rows_ne {b b' : Nat} {h : AHeap} {x w v : AV} {es : List (List AV)} {s u : Str} {fs : List Fld} (O : Own b h 3 x es) (he : [AV.str s, AV.str u, v] ∈ es) (P : Own b' h 3 w (fs.map encF)) :
    ∀ j, (∃ g s l c ex, w = .slc j g s l c ex) → ∀ id g s l c ex, x = .slc id g s l c ex → j ≠ id := by
  rintro j ⟨g, s', l, c, ex, hw⟩ id g2 s2 l2 c2 ex2 hx hji
  subst hji
  rcases O with ⟨rfl, _⟩ | ⟨i1, r1, _, rfl, a3, _, _, _, a7⟩
  · cases hx
  · rcases P with ⟨rfl, _⟩ | ⟨i2, r2, _, rfl, b3, _, _, _, b7⟩
    · cases hw
    · cases hx; cases hw
      rw [a3] at b3; cases b3
      rw [← a7, b7] at he
      simp only [List.mem_map] at he
      obtain ⟨f, _, hf⟩ := he
      simp [encF] at hf

theorem l10 {n : Nat} {h0 : AHeap} {x0 : AV} {l : List Cls} {K : Kont} (k0 : h0.Ok) (C : CV h0 x0 l) (hld : load l ≤ 100000)
    (k : ∀ h' v es, Ext h0 h' → h'.Ok → Own h0.sz h' 3 v es → All2 (RO h0.sz h') es l → K v h' = true) :
    ∀ (m i : Nat) (h : AHeap) (x3 : AV) (es : List (List AV)), Ext h0 h → h.Ok → Own h0.sz h 3 x3 es → All2 (RO h0.sz h) es (l.take i) → i ≤ l.length → l.length - i < m →
      l10_8 (callN E n) n m x0 x3 (.int .i64 (i : Int)) h K = true := by
  intro m
  induction m with
  | zero => intro i h x3 es _ _ _ _ _ hm; omega
  | succ m ih =>
    intro i h x3 es e o O A hi hm
    rw [l10_8_s]
    unfold b10_8
    have C1 := C.ext e
    have hll := load_len l
    rw [C1.len, optB_some, binA_lss, optB_some]
    by_cases hlt : i < l.length
    · have hci := List.getElem?_eq_getElem hlt
      have hb := load_at hci
      have ht : l.take (i + 1) = l.take i ++ [l[i]] := take_next hlt
      obtain ⟨id, g, j, f, p1, p2, p3, p4, p5, p6⟩ := C1.at hci
      generalize l[i] = c at *
      have hlen : es.length = i := by rw [A.length]; simp; omega
      rw [condB_t (by simpa using hlt), p1, optB_some, p2, optB_some, alloc_set (n := 3) rfl (by decide) rfl rfl (leaf3 p6.leaf)]
      have e1 := ext_newRow o [[AV.str c.name, AV.str c.super, f]] 3
      have o1 := ok_newRow o [[AV.str c.name, AV.str c.super, f]] 3
      have V1 := var_new h [AV.str c.name, AV.str c.super, f]
      have hcc : (AV.agg [AV.str c.name, AV.str c.super, f]).cells = [AV.str c.name, AV.str c.super, f] := rfl
      rw [hcc]
      simp only [List.length_cons, List.length_nil, Nat.zero_add] at V1
      have s1 : (Ab.newRow h [[AV.str c.name, AV.str c.super, f]] 3).sz = h.sz + 1 := rfl
      generalize Ab.newRow h [[AV.str c.name, AV.str c.super, f]] 3 = h1 at *
      rw [fadrA_ptr, optB_some, Nat.zero_add, V1.load, partA_false, nth_succ, nth_succ, nth_zero, optB_some]
      obtain ⟨v9, h2, a1, a2, a3, a4, a5, a6, a7⟩ := (Own.nil h1.sz h1 3).app (bytes := 40) (by decide) (Nat.le_refl _) o1 o1 (Ext.refl h1) (Nat.le_refl _) (p6.ext e1).src (by simp only [List.length_map, List.length_nil]; unfold most; omega) (by simp only [List.length_map, List.length_nil]; unfold most; omega)
      rw [a1, optP_some, optB_some]
      have V2 := V1.ext a4
      rw [V2.set1 (by simp) a2.view.leaf]
      simp only [unit, Option.map_some, optP_some]
      rw [List.nil_append] at a2
      have hv9 := a2.view.leaf
      have E2 := e.trans (e1.trans a4)
      have hp : h.sz < h2.sz := V2.lt a3
      have e3 := ext_put (id := h.sz) E2 k0 e.1 (.row (VRow ([AV.str c.name, AV.str c.super, f].set 2 v9)))
      have o3 := a3.put hp (.row (VRow ([AV.str c.name, AV.str c.super, f].set 2 v9)))
      have V3 : Var (h2.put h.sz (.row (VRow ([AV.str c.name, AV.str c.super, f].set 2 v9)))) h.sz [AV.str c.name, AV.str c.super, v9] := var_put h.sz _
      have O3 : Own h0.sz (h2.put h.sz (.row (VRow ([AV.str c.name, AV.str c.super, f].set 2 v9)))) 3 x3 es := (O.ext (e1.trans a4)).put_ne (fun id g s l c ex hv => by have := O.below o _ _ _ _ _ _ hv; omega) _
      have P3 : Own h1.sz (h2.put h.sz (.row (VRow ([AV.str c.name, AV.str c.super, f].set 2 v9)))) 3 v9 (c.fields.map encF) := a2.put_ne (fun id g s l c ex hv => by have := a2.above _ _ _ _ _ _ hv; omega) _
      have A3 : All2 (RO h0.sz (h2.put h.sz (.row (VRow ([AV.str c.name, AV.str c.super, f].set 2 v9))))) es (l.take i) := A.mono (by
        rintro e' c' ⟨v', r1, r2⟩
        exact ⟨v', r1, (r2.ext (e1.trans a4)).put_ne (fun id g s l c ex hv => by have := r2.below o _ _ _ _ _ _ hv; omega) _⟩)
      have s3 : h1.sz ≤ (h2.put h.sz (.row (VRow ([AV.str c.name, AV.str c.super, f].set 2 v9)))).sz := by simpa using a5
      generalize h2.put h.sz (.row (VRow ([AV.str c.name, AV.str c.super, f].set 2 v9))) = h3 at *
      have hag : partA true 0 3 [AV.str c.name, AV.str c.super, v9] = some (.agg [AV.str c.name, AV.str c.super, v9]) := rfl
      rw [V3.load, hag, optB_some]
      obtain ⟨v13, b1, b2⟩ := bslice_view (h := h3) (n := 1) (sz := 3) (z := [AV.str [], AV.str [], AV.nilSlc]) (ps := [(0, AV.agg [AV.str c.name, AV.str c.super, v9])]) (es := [[AV.str c.name, AV.str c.super, v9]]) rfl (by decide) (by decide) rfl (cls_fill _ _ _ hv9) rfl
      rw [b1, optP_some]
      have e4 := ext_newRow o3 [[AV.str c.name, AV.str c.super, v9]] 3
      have o4 := ok_newRow o3 [[AV.str c.name, AV.str c.super, v9]] 3
      generalize Ab.newRow h3 [[AV.str c.name, AV.str c.super, v9]] 3 = h4 at *
      have O4 := O3.ext e4
      have E4 := e3.trans e4
      obtain ⟨v14, h5, c1, c2, c3, c4, c5, c6, c7⟩ := O4.app (bytes := 56) (by decide) E4.1 o4 k0 E4 (Nat.le_refl _) b2.src (by simp only [List.length_cons, List.length_nil]; unfold most; omega) (by simp only [List.length_cons, List.length_nil]; unfold most; omega)
      rw [c1, optP_some, inc64 (by unfold lim; omega), optB_some]
      have P5 : Own h0.sz h5 3 v9 (c.fields.map encF) := ((P3.ext e4).keep_ne c6 (by
        rintro j ⟨g, s, q, cp, ex, hv⟩ id g2 s2 l2 c2 ex2 hx hji
        have t1 := P3.above _ _ _ _ _ _ hv
        have t2 := O.below o _ _ _ _ _ _ hx
        omega)).lower (by have := e.1; omega)
      refine ih (i + 1) h5 v14 _ c4 c3 c2 ?_ hlt (by omega)
      rw [ht]
      refine All2.append ?_ (.cons ⟨v9, rfl, P5⟩ .nil)
      have hmem : ∀ e' c', e' ∈ es → RO h0.sz h3 e' c' → RO h0.sz h5 e' c' := by
        rintro e' c' he ⟨v', rfl, r2⟩
        exact ⟨v', rfl, (r2.ext e4).keep_ne c6 (rows_ne O4 he (r2.ext e4))⟩
      exact A3.mono_mem hmem
    · have ht : l.take i = l := List.take_of_length_le (by omega)
      rw [ht] at A
      rw [condB_f (by simpa using hlt)]
      exact k h x3 es e o O A

theorem c10 {n : Nat} {h : AHeap} {x0 : AV} {l : List Cls} {K : Kont} (o : h.Ok) (C : CV h x0 l) (hld : load l ≤ 100000) (hn : l.length < n)
    (k : ∀ h' v es, Ext h h' → h'.Ok → Own h.sz h' 3 v es → All2 (RO h.sz h') es l → K v h' = true) : callN E (n + 1) (.func 10) [x0] h K = true := by
  apply d10
  unfold s10
  exact l10 o C hld k n 0 h .nilSlc [] (Ext.refl _) o (Own.nil _ _ _) (by simp; exact .nil) (Nat.zero_le _) (by omega)
end Go.Proofs.Ytjdpdjmmbajglaa
