/-
  What stays where justifications went; the order of contents.
-/
import Derived.Test.YtbamgdknkhhikaaTN
namespace Go.Proofs.Ytbamgdknkhhikaa
open Go.Ab
set_option linter.unusedSimpArgs false
set_option linter.unusedVariables false

theorem sub_filter {α : Type} {p : α → Bool} : ∀ {s l : List α}, s.Sublist l → l.Nodup → (∀ x ∈ l, x ∈ s ↔ p x = true) → s = l.filter p := by
  intro s l hs
  induction hs with
  | slnil => intro _ _; rfl
  | cons a t ih =>
    rename_i s l
    intro hn hp
    rw [List.nodup_cons] at hn
    have ha : p a = false := by
      cases e : p a with
      | false => rfl
      | true => exact absurd (t.subset ((hp a List.mem_cons_self).2 e)) hn.1
    rw [List.filter_cons_of_neg (by rw [ha]; exact fun q => by cases q)]
    exact ih hn.2 fun x hx => hp x (List.mem_cons_of_mem _ hx)
  | cons_cons a t ih =>
    rename_i s l
    intro hn hp
    rw [List.nodup_cons] at hn
    rw [List.filter_cons_of_pos ((hp a List.mem_cons_self).1 List.mem_cons_self)]
    rw [← ih hn.2 fun x hx => ?_]
    rw [← hp x (List.mem_cons_of_mem _ hx), List.mem_cons]
    exact ⟨.inr, fun q => q.elim (fun e => absurd (e ▸ hx) hn.1) id⟩

theorem bys_some {x : CD} (h : x.bys.length ≠ 0) : ∃ r, lkG x.bys r = some () := by
  cases e : x.bys with
  | nil => rw [e] at h; exact absurd rfl h
  | cons p t => exact ⟨p.1, by simp [lkG]⟩

theorem nodup_of_keys {κ β : Type} {l : List (κ × β)} (h : (l.map fun p => p.1).Nodup) : l.Nodup := by
  rw [List.nodup_iff_pairwise_ne, List.pairwise_map] at h
  rw [List.nodup_iff_pairwise_ne]
  exact h.imp fun q e => q (by rw [e])

open Classical in
/-- What stays, stays in its order. -/
theorem Less.lines {T T' : TD} {D : SK → BK → Prop} (W : TW T) (L : Less T T' D) : mp barC T'.cs = (mp barC T.cs).filter fun p => decide (∃ r, hasB T p.1 r ∧ ¬ D p.1 r) := by
  have hk : ((mp barC T.cs).map fun p => p.1).Nodup := by rw [mp_keys]; exact W.ck
  refine sub_filter L.sc (nodup_of_keys hk) fun p hp => ?_
  rw [decide_eq_true_iff]
  constructor
  · intro q
    obtain ⟨⟨k, x⟩, hx, rfl⟩ := List.mem_map.1 q
    have h1 := lkG_of_mem L.w.ck hx
    obtain ⟨r, hr⟩ := bys_some (L.w.cne k x h1)
    exact ⟨r, (L.has k r).1 ⟨x, h1, hr⟩⟩
  · rintro ⟨r, h1, h2⟩
    obtain ⟨x, q1, q2⟩ := (L.has p.1 r).2 ⟨h1, h2⟩
    have q3 : (p.1, barC x) ∈ mp barC T'.cs := List.mem_map.2 ⟨_, lkG_mem q1, rfl⟩
    have q4 := lkG_of_mem hk (L.sc.subset q3)
    have q5 := lkG_of_mem (k := p.1) (u := p.2) hk hp
    rw [q4] at q5
    injection q5 with q5
    have : p = (p.1, barC x) := Prod.ext rfl q5.symm
    rw [this]; exact q3

open Classical in
/-- One content that lost all. -/
theorem Less.one {T T' : TD} {k : SK} (W : TW T) (L : Less T T' fun k' _ => k' = k) : mp barC T'.cs = (mp barC T.cs).filter fun p => !decide (p.1 = k) := by
  rw [L.lines W]
  refine List.filter_congr fun p hp => ?_
  obtain ⟨⟨k', x⟩, hx, rfl⟩ := List.mem_map.1 hp
  have h1 := lkG_of_mem W.ck hx
  obtain ⟨r, hr⟩ := bys_some (W.cne k' x h1)
  by_cases e : k' = k
  · exact (decide_eq_false fun ⟨r, _, q⟩ => q e).trans (by simp [e])
  · exact (decide_eq_true ⟨r, ⟨x, h1, hr⟩, e⟩).trans (by simp [e])

theorem cs_le {T : TD} (W : TW T) : T.cs.length ≤ T.n := by
  rw [W.sum]
  have : ∀ (l : List (SK × CD)), (∀ p ∈ l, p.2.bys.length ≠ 0) → l.length ≤ sumG CD.bys l := by
    intro l
    induction l with
    | nil => intro _; exact Nat.zero_le _
    | cons p t ih =>
      intro h
      have h1 := ih fun q hq => h q (List.mem_cons_of_mem _ hq)
      have h2 := h p List.mem_cons_self
      simp only [sumG, List.map_cons, List.sum_cons, List.length_cons] at h1 ⊢
      omega
  exact this _ fun p hp => W.cne p.1 p.2 (lkG_of_mem W.ck hp)

/-! ### A list of one's own, appended to -/
theorem own_app2 {b : Nat} {h h0 : AHeap} {n bytes : Nat} {v x : AV} {es new : List (List AV)} (O : Own b h n v es) (hn : 0 < n) (hb : b ≤ h.sz) (o : h.Ok) (k0 : h0.Ok) (e0 : Ext h0 h) (hb0 : h0.sz ≤ b) (hs : source h n x = some new) (h1 : (es.length + new.length) * bytes ≤ most) (h2 : es.length + new.length ≤ most) :
    ∃ v' h', appendA h n bytes v x = some (v', h') ∧ Own b h' n v' (es ++ new) ∧ h'.Ok ∧ Ext h0 h' ∧ Fr (inRow v) h h' ∧ (∀ j, inRow v' j → inRow v j ∨ j = h.sz) := by
  obtain ⟨v', h', a1, a2, a3, a4, a5, a6, a7⟩ := O.app hn hb o k0 e0 hb0 hs h1 h2
  exact ⟨v', h', a1, a2, a3, a4, ⟨a5, fun j o' nj g => a6 j o' g fun id g' s l c ex e q => nj ⟨g', s, l, c, ex, by rw [e, q]⟩⟩, fun j i => app_row a1 i⟩

/-! ### Names -/
abbrev Line := SK × (Nat × Nat × Str × AV × Nat)
def nmL (l : List Line) : List Str := l.map fun p => p.2.2.2.1
def encS (l : List Str) : List (List AV) := l.map fun s => [.str s]

structure OI (h0 h : AHeap) (τ : Nat → Tag) (T : TD) (nv : AV) (names : List Str) (i : Nat) : Prop where
  o : TO τ h T
  w : TW T
  e : Ext h0 h
  t0 : ∀ j, j < h0.sz → τ j = .out
  own : Own h0.sz h 1 nv (encS names)
  tn : ∀ j, inRow nv j → τ j = .out
  nm : names = nmL (mp barC T.cs)
  ks : ∀ p ∈ mp barC T.cs, p.1 = (p.2.2.2.1, []) ∧ p.2.2.2.2.1 = .nilSlc
  cn : T.n ≤ i
  ca : T.came ≤ 2 * i

section
variable {h0 h h' : AHeap} {τ : Nat → Tag} {T : TD} {nv : AV} {names : List Str} {i : Nat}
theorem OI.ext (I : OI h0 h τ T nv names i) (e : Ext h h') (o : h'.Ok) : OI h0 h' τ T nv names i :=
  ⟨I.o.ext e o, I.w, ext_two I.e e, I.t0, I.own.ext e, I.tn, I.nm, I.ks, I.cn, I.ca⟩
theorem OI.len (I : OI h0 h τ T nv names i) : names.length = T.cs.length := by rw [I.nm]; simp [nmL, mp]
theorem OI.le (I : OI h0 h τ T nv names i) : T.cs.length ≤ i := Nat.le_trans (cs_le I.w) I.cn
theorem OI.x (I : OI h0 h τ T nv names i) {k : SK} {x : CD} (hx : (k, x) ∈ T.cs) : k = (x.cls, []) ∧ x.vals = .nilSlc := I.ks (k, barC x) (List.mem_map.2 ⟨_, hx, rfl⟩)
theorem OI.at (I : OI h0 h τ T nv names i) {j : Nat} {p : SK × CD} (hp : T.cs[j]? = some p) : names[j]? = some p.2.cls := by
  rw [I.nm]; simp [nmL, mp, hp, barC]
theorem OI.own_fr (I : OI h0 h τ T nv names i) (F : Fr (W8 τ) h h') : Own h0.sz h' 1 nv (encS names) := by
  have f : ∀ j, inRow nv j → ¬ W8 τ j := fun j hj w => by have w : (τ j).own := w; rw [I.tn j hj] at w; exact w
  rcases I.own with q | ⟨id, r, w1, w2, w3, w4, w5, w6, w7⟩
  · exact .inl q
  · exact .inr ⟨id, r, w1, w2, F.row (f id (by rw [w2]; exact ⟨_, _, _, _, _, rfl⟩)) w3, w4, w5, w6, w7⟩
theorem OI.ext_fr (I : OI h0 h τ T nv names i) (k0 : h0.Ok) (F : Fr (W8 τ) h h') : Ext h0 h' := F.ext I.e k0 fun j w => by
  by_cases q : j < h0.sz
  · have w : (τ j).own := w; rw [I.t0 j q] at w; exact w.elim
  · omega
end
end Go.Proofs.Ytbamgdknkhhikaa
