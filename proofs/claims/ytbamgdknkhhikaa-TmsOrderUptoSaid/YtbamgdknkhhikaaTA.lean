/-
  One justification more, in plain Lean.
-/
import Derived.Test.YtbamgdknkhhikaaT3
namespace Go.Proofs.Ytbamgdknkhhikaa
open Go.Ab
set_option linter.unusedSimpArgs false
set_option linter.unusedVariables false

section
variable {κ β γ δ : Type} [DecidableEq κ] [DecidableEq γ] {get : β → List (γ × Unit)} {set : β → List (γ × Unit) → β} {l : List (κ × β)} {k : κ} {r : γ} {x new : β}

/-- What it says of r at k: where nothing is at k, that is new. -/
def putG (get : β → List (γ × Unit)) (set : β → List (γ × Unit) → β) (l : List (κ × β)) (k : κ) (r : γ) (new : β) : List (κ × β) :=
  upG l k (set ((lkG l k).getD new) (upG (get ((lkG l k).getD new)) r ()))

theorem upG_len (l : List (γ × Unit)) (r : γ) : (upG l r ()).length = l.length + (if lkG l r = none then 1 else 0) := by
  cases h : lkG l r with
  | none => rw [upG_none h, if_pos rfl]; simp
  | some u => rw [upG_length h, if_neg (by simp)]; rfl
theorem putG_lk (j : κ) : lkG (putG get set l k r new) j = if j = k then some (set ((lkG l k).getD new) (upG (get ((lkG l k).getD new)) r ())) else lkG l j := lkG_up
theorem putG_nodup (hn : (l.map fun p => p.1).Nodup) : ((putG get set l k r new).map fun p => p.1).Nodup := upG_nodup hn
theorem hasG_some (hx : lkG l k = some x) : hasG get l k r ↔ lkG (get x) r = some () := ⟨fun ⟨y, h1, h2⟩ => by rw [hx] at h1; cases h1; exact h2, fun h => ⟨x, hx, h⟩⟩
theorem hasG_none (hx : lkG l k = none) : ¬ hasG get l k r := fun ⟨y, h1, _⟩ => by rw [hx] at h1; cases h1
theorem putG_has (hs : ∀ x d, get (set x d) = d) (h0 : get new = []) (j : κ) (s : γ) : hasG get (putG get set l k r new) j s ↔ hasG get l j s ∨ (j = k ∧ s = r) := by
  by_cases e : j = k
  · subst e
    have h1 : lkG (putG get set l j r new) j = some _ := (putG_lk j).trans (if_pos rfl)
    rw [hasG_some h1, hs, lkG_up]
    by_cases e2 : s = r
    · rw [if_pos e2]; exact ⟨fun _ => .inr ⟨rfl, e2⟩, fun _ => rfl⟩
    · rw [if_neg e2]
      cases hx : lkG l j with
      | none =>
        simp only [Option.getD, h0]
        exact ⟨fun h => (by cases h), fun h => h.elim (fun h => (hasG_none hx h).elim) fun h => (e2 h.2).elim⟩
      | some x =>
        simp only [Option.getD]
        rw [hasG_some hx]
        exact ⟨.inl, fun h => h.elim id fun h => (e2 h.2).elim⟩
  · have h1 : lkG (putG get set l k r new) j = lkG l j := (putG_lk j).trans (if_neg e)
    unfold hasG
    rw [h1]
    exact ⟨.inl, fun h => h.elim id fun h => (e h.1).elim⟩
theorem putG_all (P : β → Prop) (h0 : ∀ j y, lkG l j = some y → P y) (h1 : P (set ((lkG l k).getD new) (upG (get ((lkG l k).getD new)) r ()))) : ∀ j y, lkG (putG get set l k r new) j = some y → P y := by
  intro j y hy
  rw [putG_lk] at hy
  by_cases e : j = k
  · rw [if_pos e] at hy; cases hy; exact h1
  · rw [if_neg e] at hy; exact h0 j y hy
theorem putG_ne (hs : ∀ x d, get (set x d) = d) : (get (set ((lkG l k).getD new) (upG (get ((lkG l k).getD new)) r ()))).length ≠ 0 := by
  rw [hs, upG_len]
  cases h : lkG (get ((lkG l k).getD new)) r with
  | none => simp
  | some u =>
    have := lkG_mem h
    have := List.length_pos_of_mem this
    omega
open Classical in
theorem putG_sum (hs : ∀ x d, get (set x d) = d) (h0 : get new = []) : sumG get (putG get set l k r new) = sumG get l + (if hasG get l k r then 0 else 1) := by
  cases hx : lkG l k with
  | none =>
    rw [if_neg (hasG_none hx)]
    unfold putG
    rw [hx, upG_none hx, sumG_app]
    simp [sumG, hs, h0, upG]
  | some x =>
    have h1 := sumG_up (get := get) (v := set x (upG (get x) r ())) hx
    rw [hs, upG_len] at h1
    unfold putG
    rw [hx]
    show sumG get (upG l k (set x (upG (get x) r ()))) = _
    by_cases h : hasG get l k r
    · have h2 := (hasG_some hx).1 h
      rw [if_pos h]
      rw [h2, if_neg (by simp)] at h1; omega
    · have h2 : lkG (get x) r = none := by
        cases q : lkG (get x) r with
        | none => rfl
        | some u => exact (h ((hasG_some hx).2 q)).elim
      rw [if_neg h]
      rw [h2, if_pos rfl] at h1; omega
theorem putG_some (f : β → δ) (hf : ∀ x d, f (set x d) = f x) (hx : lkG l k = some x) : mp f (putG get set l k r new) = mp f l := by
  unfold putG; rw [hx]; exact upG_sub f hx (hf _ _)
theorem putG_none (f : β → δ) (hf : ∀ x d, f (set x d) = f x) (hx : lkG l k = none) : mp f (putG get set l k r new) = mp f l ++ [(k, f new)] := by
  unfold putG; rw [hx, upG_none hx]
  simp [mp, hf]
/-- The times rise still. -/
theorem putG_rise (f : β → Nat) (hf : ∀ x d, f (set x d) = f x) {n : Nat} (h1 : ((mp f l).map fun p => p.2).Pairwise fun a b => a < b) (h2 : ∀ x ∈ (mp f l).map fun p => p.2, x ≤ n) (h3 : n < f new) {m : Nat} (h4 : n ≤ m) (h5 : lkG l k = none → f new ≤ m) :
    (((mp f (putG get set l k r new)).map fun p => p.2).Pairwise fun a b => a < b) ∧ ∀ x ∈ (mp f (putG get set l k r new)).map fun p => p.2, x ≤ m := by
  cases hx : lkG l k with
  | some x =>
    rw [putG_some f hf hx]
    exact ⟨h1, fun x hx => Nat.le_trans (h2 x hx) h4⟩
  | none =>
    rw [putG_none f hf hx, List.map_append]
    refine ⟨List.pairwise_append.2 ⟨h1, by simp, fun a ha b hb => ?_⟩, fun x q => ?_⟩
    · simp only [List.map_cons, List.map_nil, List.mem_singleton] at hb
      subst hb
      exact Nat.lt_of_le_of_lt (h2 a ha) h3
    · rcases List.mem_append.1 q with q | q
      · exact Nat.le_trans (h2 x q) h4
      · simp only [List.map_cons, List.map_nil, List.mem_singleton] at q
        subst q
        exact h5 hx
end

/-- How often it came, one time more for what is new. -/
def upC {κ β : Type} [DecidableEq κ] (n : Nat) (l : List (κ × β)) (k : κ) : Nat := n + if (lkG l k).isNone then 1 else 0
theorem upC_le {κ β : Type} [DecidableEq κ] {n : Nat} {l : List (κ × β)} {k : κ} : n ≤ upC n l k ∧ upC n l k ≤ n + 1 := by unfold upC; split <;> omega

def justT (T : TD) (k : SK) (r : BK) (x0 : CD) (y0 : RD) : TD :=
  { T with cs := putG CD.bys setC T.cs k r x0, rs := putG RD.ofs setR T.rs r k y0, came := upC (upC T.came T.cs k) T.rs r, n := T.n + if (lkG ((lkG T.cs k).getD x0).bys r).isNone then 1 else 0 }

structure Fresh (T : TD) (k : SK) (r : BK) (x0 : CD) (y0 : RD) : Prop where
  b : x0.bys = []
  o : y0.ofs = []
  c : x0.came = T.came + 1
  d : y0.came = upC T.came T.cs k + 1

section
variable {T : TD} {k : SK} {r : BK} {x0 : CD} {y0 : RD}
theorem just_n (F : Fresh T k r x0 y0) : (if (lkG ((lkG T.cs k).getD x0).bys r).isNone then 1 else 0) = (open Classical in if hasB T k r then 0 else 1) := by
  cases hx : lkG T.cs k with
  | none => rw [if_neg (hasG_none hx)]; simp only [Option.getD, F.b]; rfl
  | some x =>
    simp only [Option.getD]
    have iN : ∀ {o : Option Unit} {v}, o = v → (if o.isNone then 1 else 0 : Nat) = if v.isNone then 1 else 0 := fun e => by subst e; rfl
    by_cases h : hasB T k r
    · rw [if_pos h, iN ((hasG_some hx).1 h)]; rfl
    · rw [if_neg h]
      have : lkG x.bys r = none := by
        cases q : lkG x.bys r with
        | none => rfl
        | some u => exact (h ((hasG_some hx).2 q)).elim
      rw [iN this]; rfl
theorem just_hasB (F : Fresh T k r x0 y0) (k' : SK) (r' : BK) : hasB (justT T k r x0 y0) k' r' ↔ hasB T k' r' ∨ (k' = k ∧ r' = r) := putG_has (set := setC) (fun _ _ => rfl) F.b k' r'
theorem just_hasR (F : Fresh T k r x0 y0) (k' : SK) (r' : BK) : hasR (justT T k r x0 y0) k' r' ↔ hasR T k' r' ∨ (r' = r ∧ k' = k) := putG_has (set := setR) (fun _ _ => rfl) F.o r' k'
theorem just_w (W : TW T) (F : Fresh T k r x0 y0) : TW (justT T k r x0 y0) := by
  have bd : ∀ z : CD, (z.bys.map fun p => p.1).Nodup → ((setC z (upG z.bys r ())).bys.map fun p => p.1).Nodup := fun z hz => upG_nodup hz
  have od : ∀ z : RD, (z.ofs.map fun p => p.1).Nodup → ((setR z (upG z.ofs k ())).ofs.map fun p => p.1).Nodup := fun z hz => upG_nodup hz
  have c1 := putG_rise (get := CD.bys) (set := setC) (k := k) (r := r) (new := x0) CD.came (fun _ _ => rfl) (m := (justT T k r x0 y0).came) W.sc W.tc (by rw [F.c]; omega)
    (by have := (upC_le (n := T.came) (l := T.cs) (k := k)).1; have := (upC_le (n := upC T.came T.cs k) (l := T.rs) (k := r)).1; show _ ≤ upC (upC T.came T.cs k) T.rs r; omega)
    (fun h => by have := (upC_le (n := upC T.came T.cs k) (l := T.rs) (k := r)).1; rw [F.c]; show _ ≤ upC (upC T.came T.cs k) T.rs r; have : upC T.came T.cs k = T.came + 1 := by simp [upC, h]
                 omega)
  have c2 := putG_rise (get := RD.ofs) (set := setR) (k := r) (r := k) (new := y0) RD.came (fun _ _ => rfl) (n := upC T.came T.cs k) (m := (justT T k r x0 y0).came) W.sr (fun x hx => by have := W.tr x hx; have := (upC_le (n := T.came) (l := T.cs) (k := k)).1; omega) (by rw [F.d]; omega)
    (by have := (upC_le (n := upC T.came T.cs k) (l := T.rs) (k := r)).1; exact this)
    (fun h => by rw [F.d]; show _ ≤ upC (upC T.came T.cs k) T.rs r; have : upC (upC T.came T.cs k) T.rs r = upC T.came T.cs k + 1 := by simp [upC, h]
                 omega)
  refine ⟨putG_nodup W.ck, putG_nodup W.rk, ?_, ?_, fun k' r' => ?_, ?_, ?_, c1.1, c1.2, c2.1, c2.2, ?_⟩
  · refine putG_all (fun z : CD => (z.bys.map fun p => p.1).Nodup) W.bn (bd _ ?_)
    cases h : lkG T.cs k with
    | none => simp only [Option.getD, F.b]; exact List.nodup_nil
    | some x => exact W.bn k x h
  · refine putG_all (fun z : RD => (z.ofs.map fun p => p.1).Nodup) W.on (od _ ?_)
    cases h : lkG T.rs r with
    | none => simp only [Option.getD, F.o]; exact List.nodup_nil
    | some x => exact W.on r x h
  · rw [just_hasB F, just_hasR F, W.bij]
    exact ⟨fun h => h.imp id fun h => ⟨h.2, h.1⟩, fun h => h.imp id fun h => ⟨h.2, h.1⟩⟩
  · exact putG_all (fun z : CD => z.bys.length ≠ 0) W.cne (putG_ne fun _ _ => rfl)
  · exact putG_all (fun z : RD => z.ofs.length ≠ 0) W.rne (putG_ne fun _ _ => rfl)
  · show T.n + _ = sumG CD.bys (putG CD.bys setC T.cs k r x0)
    rw [putG_sum (fun _ _ => rfl) F.b, W.sum, just_n F]
theorem just_n_le : (justT T k r x0 y0).n ≤ T.n + 1 := by show T.n + _ ≤ _; split <;> omega
theorem just_came_le : (justT T k r x0 y0).came ≤ T.came + 2 := by
  have := (upC_le (n := T.came) (l := T.cs) (k := k)).2; have := (upC_le (n := upC T.came T.cs k) (l := T.rs) (k := r)).2; show upC (upC T.came T.cs k) T.rs r ≤ _; omega
end
end Go.Proofs.Ytbamgdknkhhikaa
