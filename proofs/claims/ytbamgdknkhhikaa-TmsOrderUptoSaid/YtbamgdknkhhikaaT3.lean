/-
  Justifications in plain Lean: what hangs on what; one that goes.
-/
import Derived.Test.YtbamgdknkhhikaaT2
namespace Go.Proofs.Ytbamgdknkhhikaa
open Go.Ab
set_option linter.unusedSimpArgs false
set_option linter.unusedVariables false

section
variable {κ β γ δ : Type} [DecidableEq κ] [DecidableEq γ] {get : β → List (γ × Unit)} {set : β → List (γ × Unit) → β} {l : List (κ × β)} {k : κ} {r : γ} {x : β}

theorem dropG_lk (hn : (l.map fun p => p.1).Nodup) (hx : lkG l k = some x) (j : κ) : lkG (dropG get set l k r) j = if j = k then (if (dlG (get x) r).length = 0 then none else some (set x (dlG (get x) r))) else lkG l j := by
  unfold dropG
  rw [hx]
  simp only
  by_cases e : (dlG (get x) r).length = 0
  · rw [if_pos e, if_pos e, lkG_dl hn]
  · rw [if_neg e, if_neg e, lkG_up]
theorem dropG_nodup (hn : (l.map fun p => p.1).Nodup) : ((dropG get set l k r).map fun p => p.1).Nodup := by
  unfold dropG
  split
  · exact hn
  · split
    · exact dlG_nodup hn
    · exact upG_nodup hn
theorem upG_sub (f : β → δ) {v : β} (hx : lkG l k = some x) (hf : f v = f x) : mp f (upG l k v) = mp f l := by
  rw [upG_mp, upG_same]
  rw [lkG_mp, hx, hf]; rfl
theorem dropG_sub (f : β → δ) (hf : ∀ x d, f (set x d) = f x) : (mp f (dropG get set l k r)).Sublist (mp f l) := by
  unfold dropG
  split
  · exact List.Sublist.refl _
  · rename_i x hx
    split
    · rw [dlG_mp]; exact dlG_sub
    · rw [upG_sub f hx (hf _ _)]; exact List.Sublist.refl _

def hasG (get : β → List (γ × Unit)) (l : List (κ × β)) (k : κ) (r : γ) : Prop := ∃ x, lkG l k = some x ∧ lkG (get x) r = some ()
theorem dropG_has (hn : (l.map fun p => p.1).Nodup) (hx : lkG l k = some x) (hs : ∀ x d, get (set x d) = d) (hb : ((get x).map fun p => p.1).Nodup) (j : κ) (s : γ) :
    hasG get (dropG get set l k r) j s ↔ hasG get l j s ∧ ¬ (j = k ∧ s = r) := by
  unfold hasG
  rw [dropG_lk hn hx]
  by_cases e : j = k
  · subst e
    rw [if_pos rfl]
    by_cases e0 : (dlG (get x) r).length = 0
    · rw [if_pos e0]
      refine ⟨fun ⟨_, h, _⟩ => (by cases h), fun ⟨⟨x', h1, h2⟩, h3⟩ => ?_⟩
      rw [hx] at h1; cases h1
      have h4 : lkG (dlG (get x) r) s = some () := by rw [lkG_dl hb, if_neg (fun e => h3 ⟨rfl, e⟩)]; exact h2
      rw [List.length_eq_zero_iff.1 e0] at h4; cases h4
    · rw [if_neg e0]
      refine ⟨fun ⟨x', h, h2⟩ => ?_, fun ⟨⟨x', h1, h2⟩, h3⟩ => ?_⟩
      · cases h
        rw [hs, lkG_dl hb] at h2
        by_cases e1 : s = r
        · rw [if_pos e1] at h2; cases h2
        · rw [if_neg e1] at h2
          exact ⟨⟨x, hx, h2⟩, fun e => e1 e.2⟩
      · rw [hx] at h1; cases h1
        exact ⟨_, rfl, by rw [hs, lkG_dl hb, if_neg (fun e => h3 ⟨rfl, e⟩)]; exact h2⟩
  · rw [if_neg e]
    exact ⟨fun h => ⟨h, fun e' => e e'.1⟩, fun h => h.1⟩
theorem dropG_all (P : β → Prop) (hn : (l.map fun p => p.1).Nodup) (hx : lkG l k = some x) (h0 : ∀ j y, lkG l j = some y → P y) (h1 : (dlG (get x) r).length ≠ 0 → P (set x (dlG (get x) r))) : ∀ j y, lkG (dropG get set l k r) j = some y → P y := by
  intro j y hy
  rw [dropG_lk hn hx] at hy
  by_cases e : j = k
  · rw [if_pos e] at hy
    by_cases e0 : (dlG (get x) r).length = 0
    · rw [if_pos e0] at hy; cases hy
    · rw [if_neg e0] at hy; cases hy; exact h1 e0
  · rw [if_neg e] at hy; exact h0 j y hy

def sumG (get : β → List (γ × Unit)) (l : List (κ × β)) : Nat := (l.map fun p => (get p.2).length).sum
omit [DecidableEq γ] in
theorem sumG_dl {get : β → List (γ × Unit)} : ∀ {l : List (κ × β)}, lkG l k = some x → sumG get (dlG l k) + (get x).length = sumG get l
  | [], h => by cases h
  | p :: t, h => by
    simp only [lkG] at h
    simp only [dlG]
    by_cases e : k = p.1
    · rw [if_pos e] at h ⊢
      cases h
      simp only [sumG, List.map_cons, List.sum_cons]; omega
    · rw [if_neg e] at h ⊢
      have := sumG_dl (get := get) h
      simp only [sumG, List.map_cons, List.sum_cons] at this ⊢; omega
omit [DecidableEq γ] in
theorem sumG_up {get : β → List (γ × Unit)} {v : β} : ∀ {l : List (κ × β)}, lkG l k = some x → sumG get (upG l k v) + (get x).length = sumG get l + (get v).length
  | [], h => by cases h
  | p :: t, h => by
    simp only [lkG] at h
    simp only [upG]
    by_cases e : k = p.1
    · rw [if_pos e] at h ⊢
      cases h
      simp only [sumG, List.map_cons, List.sum_cons]; omega
    · rw [if_neg e] at h ⊢
      have := sumG_up (get := get) (v := v) h
      simp only [sumG, List.map_cons, List.sum_cons] at this ⊢; omega
theorem dropG_sum (hx : lkG l k = some x) (hs : ∀ x d, get (set x d) = d) (hb : lkG (get x) r = some ()) : sumG get (dropG get set l k r) + 1 = sumG get l := by
  have h1 := dlG_len hb
  unfold dropG
  rw [hx]
  simp only
  by_cases e : (dlG (get x) r).length = 0
  · rw [if_pos e]
    have := sumG_dl (get := get) hx
    omega
  · rw [if_neg e]
    have := sumG_up (get := get) (v := set x (dlG (get x) r)) hx
    rw [hs] at this
    omega
omit [DecidableEq κ] [DecidableEq γ] in
theorem sumG_app (l m : List (κ × β)) : sumG get (l ++ m) = sumG get l + sumG get m := by simp [sumG]
omit [DecidableEq γ] in
theorem lk_le_sum (hx : lkG l k = some x) : (get x).length ≤ sumG get l := by
  have := sumG_dl (get := get) hx; omega
end

abbrev hasB (T : TD) (k : SK) (r : BK) : Prop := hasG CD.bys T.cs k r
abbrev hasR (T : TD) (k : SK) (r : BK) : Prop := hasG RD.ofs T.rs r k

structure TW (T : TD) : Prop where
  ck : (T.cs.map fun p => p.1).Nodup
  rk : (T.rs.map fun p => p.1).Nodup
  bn : ∀ k x, lkG T.cs k = some x → (x.bys.map fun p => p.1).Nodup
  on : ∀ r y, lkG T.rs r = some y → (y.ofs.map fun p => p.1).Nodup
  bij : ∀ k r, hasB T k r ↔ hasR T k r
  cne : ∀ k x, lkG T.cs k = some x → x.bys.length ≠ 0
  rne : ∀ r y, lkG T.rs r = some y → y.ofs.length ≠ 0
  sc : ((mp CD.came T.cs).map fun p => p.2).Pairwise fun a b => a < b
  tc : ∀ x ∈ (mp CD.came T.cs).map fun p => p.2, x ≤ T.came
  sr : ((mp RD.came T.rs).map fun p => p.2).Pairwise fun a b => a < b
  tr : ∀ x ∈ (mp RD.came T.rs).map fun p => p.2, x ≤ T.came
  sum : T.n = sumG CD.bys T.cs

/-- A content, a match, but for what it hangs on. -/
def barC (x : CD) : Nat × Nat × Str × AV × Nat := (x.id, x.m, x.cls, x.vals, x.came)
def barR (x : RD) : Nat × Nat × Int × AV × AV × Nat := (x.id, x.m, x.core, x.els, x.env, x.came)

/-- From T to T' only justifications went. -/
structure Less (T T' : TD) (D : SK → BK → Prop) : Prop where
  w : TW T'
  p : T'.p = T.p
  cm : T'.cm = T.cm
  rm : T'.rm = T.rm
  came : T'.came = T.came
  has : ∀ k r, hasB T' k r ↔ hasB T k r ∧ ¬ D k r
  sc : (mp barC T'.cs).Sublist (mp barC T.cs)
  sr : (mp barR T'.rs).Sublist (mp barR T.rs)

theorem Less.refl {T : TD} (W : TW T) : Less T T fun _ _ => False := ⟨W, rfl, rfl, rfl, rfl, fun k r => ⟨fun h => ⟨h, id⟩, fun h => h.1⟩, List.Sublist.refl _, List.Sublist.refl _⟩
theorem Less.trans {T T' T'' : TD} {D D' : SK → BK → Prop} (a : Less T T' D) (b : Less T' T'' D') : Less T T'' fun k r => D k r ∨ D' k r :=
  ⟨b.w, b.p.trans a.p, b.cm.trans a.cm, b.rm.trans a.rm, b.came.trans a.came, fun k r => by rw [b.has, a.has, not_or, and_assoc], b.sc.trans a.sc, b.sr.trans a.sr⟩
theorem Less.iff {T T' : TD} {D D' : SK → BK → Prop} (a : Less T T' D) (h : ∀ k r, hasB T k r → (D k r ↔ D' k r)) : Less T T' D' :=
  ⟨a.w, a.p, a.cm, a.rm, a.came, fun k r => by rw [a.has]; exact ⟨fun ⟨x, y⟩ => ⟨x, fun z => y ((h k r x).2 z)⟩, fun ⟨x, y⟩ => ⟨x, fun z => y ((h k r x).1 z)⟩⟩, a.sc, a.sr⟩

theorem Less.came_c {T T' : TD} {D : SK → BK → Prop} (a : Less T T' D) : ((mp CD.came T'.cs).map fun p => p.2).Sublist ((mp CD.came T.cs).map fun p => p.2) := by
  have := a.sc.map fun p => p.2.2.2.2.2
  simpa [mp, List.map_map, Function.comp_def, barC] using this

theorem drop_less {T : TD} {k : SK} {r : BK} {x : CD} {y : RD} (W : TW T) (hx : lkG T.cs k = some x) (hb : lkG x.bys r = some ()) (hy : lkG T.rs r = some y) (hk : lkG y.ofs k = some ()) : Less T (dropT T k r) fun k' r' => k' = k ∧ r' = r := by
  have hC : ∀ k' r', hasB (dropT T k r) k' r' ↔ hasB T k' r' ∧ ¬ (k' = k ∧ r' = r) := fun k' r' => dropG_has (set := setC) W.ck hx (fun _ _ => rfl) (W.bn k x hx) k' r'
  have hR : ∀ k' r', hasR (dropT T k r) k' r' ↔ hasR T k' r' ∧ ¬ (r' = r ∧ k' = k) := fun k' r' => dropG_has (set := setR) W.rk hy (fun _ _ => rfl) (W.on r y hy) r' k'
  have s1 : (mp barC (dropT T k r).cs).Sublist (mp barC T.cs) := dropG_sub barC fun _ _ => rfl
  have s2 : (mp barR (dropT T k r).rs).Sublist (mp barR T.rs) := dropG_sub barR fun _ _ => rfl
  have c1 : ((mp CD.came (dropT T k r).cs).map fun p => p.2).Sublist ((mp CD.came T.cs).map fun p => p.2) := (dropG_sub (set := setC) CD.came fun _ _ => rfl).map _
  have c2 : ((mp RD.came (dropT T k r).rs).map fun p => p.2).Sublist ((mp RD.came T.rs).map fun p => p.2) := (dropG_sub (set := setR) RD.came fun _ _ => rfl).map _
  refine ⟨⟨dropG_nodup W.ck, dropG_nodup W.rk, ?_, ?_, fun k' r' => ?_, ?_, ?_, W.sc.sublist c1, fun z hz => W.tc z (c1.subset hz), W.sr.sublist c2, fun z hz => W.tr z (c2.subset hz), ?_⟩, rfl, rfl, rfl, rfl, hC, s1, s2⟩
  · exact dropG_all (set := setC) (fun x => (x.bys.map fun p => p.1).Nodup) W.ck hx W.bn fun _ => dlG_nodup (W.bn k x hx)
  · exact dropG_all (set := setR) (fun x => (x.ofs.map fun p => p.1).Nodup) W.rk hy W.on fun _ => dlG_nodup (W.on r y hy)
  · rw [hC, hR, W.bij]
    exact ⟨fun ⟨a, b⟩ => ⟨a, fun e => b ⟨e.2, e.1⟩⟩, fun ⟨a, b⟩ => ⟨a, fun e => b ⟨e.2, e.1⟩⟩⟩
  · exact dropG_all (set := setC) (fun x => x.bys.length ≠ 0) W.ck hx W.cne id
  · exact dropG_all (set := setR) (fun x => x.ofs.length ≠ 0) W.rk hy W.rne id
  · have := dropG_sum (set := setC) hx (fun _ _ => rfl) hb
    show T.n - 1 = sumG CD.bys (dropC T.cs k r)
    have h2 := W.sum
    have : sumG CD.bys (dropC T.cs k r) + 1 = sumG CD.bys T.cs := this
    omega
end Go.Proofs.Ytbamgdknkhhikaa
