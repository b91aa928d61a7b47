/-
  Values, as they lie in memory and as they are handed in.
-/
import Derived.Test.YtbamgdknkhhikaaAbLaw
namespace Go.Ab
set_option linter.unusedSimpArgs false
set_option linter.unusedVariables false

inductive Val where
  | mk (kind : Int) (b : Bool) (n : Int) (t : List Nat) (l : List Val) : Val

mutual
def RV (h : AHeap) : List AV → Val → Prop
  | a, .mk k b n t l => ∃ lv es, a = [.int .i64 k, .bool b, .int .i64 n, .str t, lv] ∧ View h 5 lv es ∧ RVs h es l ∧ (-9223372036854775808 ≤ n ∧ n ≤ 9223372036854775807) ∧ (-9223372036854775808 ≤ k ∧ k ≤ 9223372036854775807) ∧ ∀ x ∈ t, x < 256
def RVs (h : AHeap) : List (List AV) → List Val → Prop
  | es, [] => es = []
  | es, v :: l => ∃ e r, es = e :: r ∧ RV h e v ∧ RVs h r l
end

mutual
def szV : Val → Nat
  | .mk _ _ _ t l => t.length + szVs l + 1
def szVs : List Val → Nat
  | [] => 0
  | v :: l => szV v + szVs l
end

mutual
theorem RV.ext {h h' : AHeap} (e : Ext h h') : ∀ {a : List AV} {v : Val}, RV h a v → RV h' a v
  | a, .mk k b n t l, H => by
    simp only [RV] at H ⊢
    obtain ⟨lv, es, h1, h2, h3, h4⟩ := H
    exact ⟨lv, es, h1, h2.ext e, RVs.ext e h3, h4⟩
theorem RVs.ext {h h' : AHeap} (e : Ext h h') : ∀ {es : List (List AV)} {l : List Val}, RVs h es l → RVs h' es l
  | es, [], H => by simp only [RVs] at H ⊢; exact H
  | es, v :: l, H => by
    simp only [RVs] at H ⊢
    obtain ⟨x, r, h1, h2, h3⟩ := H
    exact ⟨x, r, h1, RV.ext e h2, RVs.ext e h3⟩
end

theorem RVs.all2 {h : AHeap} : ∀ {es : List (List AV)} {l : List Val}, RVs h es l → All2 (RV h) es l
  | es, [], H => by simp only [RVs] at H; subst H; exact .nil
  | es, v :: l, H => by
    simp only [RVs] at H
    obtain ⟨x, r, rfl, h2, h3⟩ := H
    exact .cons h2 h3.all2
theorem RVs.of {h : AHeap} {es : List (List AV)} {l : List Val} (A : All2 (RV h) es l) : RVs h es l := by
  induction A with
  | nil => simp [RVs]
  | cons a _ ih => simp only [RVs]; exact ⟨_, _, rfl, a, ih⟩

theorem szVs_eq : ∀ (l : List Val), szVs l = szL szV l
  | [] => rfl
  | v :: l => by simp only [szVs, szL, szVs_eq l]

theorem RV.mono : Mono RV := fun _ _ _ _ e H => RV.ext e H

section
variable {H : Type} {enc : TypeId × Value → H} {P : Program} {W : World} {held : Bool}

/-- Values are handed in: trees. -/
theorem inVal {t tl t0 t1 t2 t3 : TypeId} {fs : Array Field} (hu : P.underlying t = some (.struct fs)) (hl : (fs.toList.map fun f => (f.offset, f.type)) = [(0, t0), (1, t1), (2, t2), (3, t3), (4, tl)]) (hn : P.cellsOf t = 5)
    (h0 : P.underlying t0 = some (.int .i64)) (n0 : P.cellsOf t0 = 1) (h1 : P.underlying t1 = some .bool) (n1 : P.cellsOf t1 = 1) (h2 : P.underlying t2 = some (.int .i64)) (n2 : P.cellsOf t2 = 1) (h3 : P.underlying t3 = some .string) (n3 : P.cellsOf t3 = 1) (h4 : P.underlying tl = some (.slice t)) (n4 : P.cellsOf tl = 1) :
    In enc P W held t 5 szV RV := by
  intro fuel
  induction fuel using Nat.strongRecOn with
  | _ fuel ih =>
    match fuel, ih with
    | 0, _ => exact InAt.zero
    | fuel + 1, ih =>
      have hsl : InAt enc P W held tl 1 (fun l => szL szV l + 1) (RSl 5 RV) fuel := by
        match fuel, ih with
        | 0, _ => exact InAt.zero
        | f + 1, ih => exact InAt.slice h4 hn (by decide) RV.mono (ih f (by omega))
      have I := InAt.struct (enc := enc) (W := W) (held := held) hu hl hn
        (InFAt.cons (off := 0) (n := 1) n0 RInt.mono (In.int h0 fuel) (InFAt.cons (off := 1) (n := 1) n1 RBool.mono (In.bool h1 fuel) (InFAt.cons (off := 2) (n := 1) n2 RInt.mono (In.int h2 fuel) (InFAt.cons (off := 3) (n := 1) n3 RStr.mono (In.str h3 fuel) (InFAt.cons (off := 4) (n := 1) n4 (RSl.mono RV.mono) hsl (InF.nil fuel))))))
      refine I.conv ?_
      rintro h a ⟨k, b, n, s, l, u⟩ ⟨b1, c1, rfl, _, ⟨rfl, hk1, hk2⟩, b2, c2, rfl, _, hb, b3, c3, rfl, _, ⟨rfl, hn1, hn2⟩, b4, c4, rfl, _, ⟨rfl, ht⟩, b5, c5, rfl, _, hs, rfl⟩
      obtain ⟨v, es, rfl, hv, he⟩ := hs.view
      have hb' : b2 = [.bool b] := hb
      subst hb'
      refine ⟨.mk k b n s l, ?_, ?_⟩
      · simp only [RV]
        exact ⟨v, es, rfl, hv, RVs.of he, ⟨hn1, hn2⟩, ⟨hk1, hk2⟩, ht⟩
      · simp only [szV, szVs_eq]; omega

theorem inVals {t tl : TypeId} (I : In enc P W held t 5 szV RV) (h4 : P.underlying tl = some (.slice t)) (hn : P.cellsOf t = 5) : In enc P W held tl 1 (fun l => szL szV l + 1) (RSl 5 RV) := In.slice h4 hn (by decide) RV.mono I
end

/-- A slice of values. -/
def VV (h : AHeap) (v : AV) (l : List Val) : Prop := ∃ es, View h 5 v es ∧ All2 (RV h) es l
theorem VV.ext {h h' : AHeap} {v : AV} {l : List Val} (V : VV h v l) (e : Ext h h') : VV h' v l := let ⟨es, h1, h2⟩ := V; ⟨es, h1.ext e, h2.mono fun _ _ r => RV.ext e r⟩
theorem VV.len {h : AHeap} {v : AV} {l : List Val} (V : VV h v l) : lenA h 1 v = some (.int .i64 (l.length : Int)) := by
  obtain ⟨es, h1, h2⟩ := V; rw [h1.len, h2.length]

/-- A value's cells: what they are. -/
theorem RV.cells {h : AHeap} {a : List AV} {k n : Int} {b : Bool} {t : List Nat} {l : List Val} (R : RV h a (.mk k b n t l)) : ∃ lv, a = [.int .i64 k, .bool b, .int .i64 n, .str t, lv] ∧ VV h lv l ∧ (-9223372036854775808 ≤ n ∧ n ≤ 9223372036854775807) ∧ (-9223372036854775808 ≤ k ∧ k ≤ 9223372036854775807) ∧ ∀ x ∈ t, x < 256 := by
  simp only [RV] at R
  obtain ⟨lv, es, h1, h2, h3, h4⟩ := R
  exact ⟨lv, h1, ⟨es, h2, h3.all2⟩, h4⟩
theorem VV.leaf {h : AHeap} {v : AV} {l : List Val} (V : VV h v l) : v.leaf = true := by obtain ⟨es, h1, _⟩ := V; exact h1.leaf
theorem VV.at {h : AHeap} {v : AV} {l : List Val} (V : VV h v l) {i : Nat} {x : Val} (hi : l[i]? = some x) :
    ∃ id g j e, (∀ k, iadrA h 5 v (.int k (i : Int)) = some (.ptr id g j 0)) ∧ (∀ ag off m, loadA h ag m (.ptr id g j off) = partA ag off m e) ∧ RV h e x := by
  obtain ⟨es, h1, h2⟩ := V
  obtain ⟨e, he, hr⟩ := h2.get hi
  obtain ⟨id, g, j, p1, p2⟩ := h1.at he
  exact ⟨id, g, j, e, p1, p2, hr⟩
end Go.Ab
