/-
  Where lexemes stand; each, read alone, is itself.
-/
import Derived.Test.YtajjclkdggoobaaL9
import Derived.Test.YtajjclkdggoobaaM2
namespace Go.Proofs.Ytajjclkdggoobaa
open Go.Ab
set_option linter.unusedSimpArgs false
set_option linter.unusedVariables false

theorem skip_take : ∀ (m : Bool) (l : Str), skip m (l.take (skip m l)) = skip m l
  | true, [] => rfl
  | false, [] => rfl
  | true, c :: l => by
    have h1 := skip_take true l
    have h2 := skip_take false l
    have s1 : skip true (c :: l) = if c = 10 then skip false l + 1 else skip true l + 1 := rfl
    by_cases hc : c = 10
    · rw [if_pos hc] at s1
      rw [s1, List.take_succ_cons]
      have s2 : skip true (c :: l.take (skip false l)) = if c = 10 then skip false (l.take (skip false l)) + 1 else skip true (l.take (skip false l)) + 1 := rfl
      rw [s2, if_pos hc, h2]
    · rw [if_neg hc] at s1
      rw [s1, List.take_succ_cons]
      have s2 : skip true (c :: l.take (skip true l)) = if c = 10 then skip false (l.take (skip true l)) + 1 else skip true (l.take (skip true l)) + 1 := rfl
      rw [s2, if_neg hc, h1]
  | false, c :: l => by
    have h1 := skip_take true l
    have h2 := skip_take false l
    have s1 : skip false (c :: l) = if blankB c = true then skip false l + 1 else if c = 47 ∧ l.head? = some 47 then skip true l + 1 else 0 := rfl
    have s2 : ∀ r, skip false (c :: r) = if blankB c = true then skip false r + 1 else if c = 47 ∧ r.head? = some 47 then skip true r + 1 else 0 := fun _ => rfl
    by_cases hb : blankB c = true
    · rw [if_pos hb] at s1
      rw [s1, List.take_succ_cons, s2, if_pos hb, h2]
    · rw [if_neg hb] at s1
      by_cases hc : c = 47 ∧ l.head? = some 47
      · rw [if_pos hc] at s1
        rw [s1, List.take_succ_cons, s2, if_neg hb, h1, if_pos]
        refine ⟨hc.1, ?_⟩
        cases l with
        | nil => cases hc.2
        | cons d l =>
          have hd : d = 47 := by simpa using hc.2
          have : skip true (d :: l) = skip true l + 1 := by
            show (if d = 10 then skip false l + 1 else skip true l + 1) = _
            rw [if_neg (by omega)]
          rw [this, List.take_succ_cons, hd]; rfl
      · rw [if_neg hc] at s1
        rw [s1, List.take_zero]; rfl

theorem skip_drop : ∀ (m : Bool) (l : Str), skip m l < l.length → skip false (l.drop (skip m l)) = 0
  | true, [], h => by simp at h
  | false, [], h => by simp at h
  | true, c :: l, h => by
    have s1 : skip true (c :: l) = if c = 10 then skip false l + 1 else skip true l + 1 := rfl
    by_cases hc : c = 10
    · rw [if_pos hc] at s1
      rw [s1] at h ⊢
      rw [List.drop_succ_cons]
      exact skip_drop false l (by simpa using h)
    · rw [if_neg hc] at s1
      rw [s1] at h ⊢
      rw [List.drop_succ_cons]
      exact skip_drop true l (by simpa using h)
  | false, c :: l, h => by
    have s1 : skip false (c :: l) = if blankB c = true then skip false l + 1 else if c = 47 ∧ l.head? = some 47 then skip true l + 1 else 0 := rfl
    by_cases hb : blankB c = true
    · rw [if_pos hb] at s1
      rw [s1] at h ⊢
      rw [List.drop_succ_cons]
      exact skip_drop false l (by simpa using h)
    · rw [if_neg hb] at s1
      by_cases hc : c = 47 ∧ l.head? = some 47
      · rw [if_pos hc] at s1
        rw [s1] at h ⊢
        rw [List.drop_succ_cons]
        exact skip_drop true l (by simpa using h)
      · rw [if_neg hc] at s1
        rw [s1, List.drop_zero]; exact s1

theorem skip_alone {l : Str} (h : skip false l = 0) (m : Nat) (hm : 0 < m) (hl : l ≠ []) : skip false (l.take m) = 0 := by
  cases l with
  | nil => exact absurd rfl hl
  | cons c l =>
    obtain ⟨m, rfl⟩ : ∃ k, m = k + 1 := ⟨m - 1, by omega⟩
    have s2 : ∀ r, skip false (c :: r) = if blankB c = true then skip false r + 1 else if c = 47 ∧ r.head? = some 47 then skip true r + 1 else 0 := fun _ => rfl
    rw [s2] at h
    rw [List.take_succ_cons, s2]
    by_cases hb : blankB c = true
    · rw [if_pos hb] at h; omega
    · rw [if_neg hb] at h ⊢
      by_cases hc : c = 47 ∧ l.head? = some 47
      · rw [if_pos hc] at h; omega
      · rw [if_neg]
        rintro ⟨h1, h2⟩
        refine hc ⟨h1, ?_⟩
        cases l with
        | nil => rw [List.take_nil] at h2; exact h2
        | cons d l =>
          cases m with
          | zero => rw [List.take_zero] at h2; cases h2
          | succ m => rw [List.take_succ_cons] at h2; exact h2

theorem while_take {p : Nat → Bool} : ∀ (l : Str), (l.take (l.takeWhile p).length).takeWhile p = l.takeWhile p
  | [] => rfl
  | c :: l => by
    rw [List.takeWhile_cons]
    cases hp : p c with
    | true => simp only [if_true, List.length_cons, List.take_succ_cons, List.takeWhile_cons, hp, while_take l]
    | false => simp

theorem wlen_take (l : Str) : wlen (l.take (wlen l)) = wlen l := by
  cases l with
  | nil => rfl
  | cons c l =>
    by_cases hc : letterB c = true
    · have e : wlen (c :: l) = ((c :: l).takeWhile wordB).length := by simp only [wlen]; rw [if_pos hc]
      have hw : wordB c = true := by simp [wordB, hc]
      have e2 : ((c :: l).takeWhile wordB).length = (l.takeWhile wordB).length + 1 := by rw [List.takeWhile_cons, hw]; simp
      rw [e, e2, List.take_succ_cons]
      show (if letterB c = true then ((c :: l.take (l.takeWhile wordB).length).takeWhile wordB).length else 0) = _
      rw [if_pos hc, List.takeWhile_cons, hw]
      simp only [if_true, List.length_cons, while_take]
    · have e : wlen (c :: l) = 0 := by simp only [wlen]; rw [if_neg hc]
      rw [e, List.take_zero]; rfl

theorem quo_take : ∀ (l t : Str) (n : Nat), quo l = some (t, n) → quo (l.take n) = some (t, n)
  | [], _, _, h => by cases h
  | [c], t, n, h => by
    simp only [quo] at h
    split at h
    · rename_i hc
      cases h
      subst hc; rfl
    · cases h
  | c :: d :: l, t, n, h => by
    by_cases h1 : c = 34
    · simp only [quo] at h
      rw [if_pos h1] at h
      cases h
      subst h1; rfl
    · by_cases h2 : c = 92
      · subst h2
        cases he : esc d with
        | none =>
          have : quo (92 :: d :: l) = none := by simp only [quo, he]; rfl
          rw [this] at h; cases h
        | some e =>
          rw [quo_two he] at h
          cases hq : quo l with
          | none => rw [hq] at h; cases h
          | some r =>
            rw [hq] at h
            obtain ⟨t', n'⟩ := r
            simp only [Option.map, Option.some.injEq, Prod.mk.injEq] at h
            obtain ⟨rfl, rfl⟩ := h
            have ih := quo_take l t' n' hq
            rw [List.take_succ_cons, List.take_succ_cons, quo_two he, ih]; rfl
      · rw [quo_one (by simp) h1 h2] at h
        split at h
        · cases h
        · rename_i h3
          cases hq : quo (d :: l) with
          | none => rw [hq] at h; cases h
          | some r =>
            rw [hq] at h
            obtain ⟨t', n'⟩ := r
            simp only [Option.map, Option.some.injEq, Prod.mk.injEq] at h
            obtain ⟨rfl, rfl⟩ := h
            have ih := quo_take (d :: l) t' n' hq
            have hn := quo_le _ _ _ hq
            rw [List.take_succ_cons, quo_one (by
              intro e
              have := congrArg List.length e
              simp only [List.length_take, List.length_cons, List.length_nil] at this
              omega) h1 h2, if_neg h3, ih]; rfl

theorem mark_take (l : Str) : markL (l.take (markL l)) = markL l := by
  by_cases h : (twos.any fun t => t.isPrefixOf l) = true
  · have e : markL l = 2 := by unfold markL; rw [if_pos h]
    rw [e]
    obtain ⟨t, ht, hp⟩ := List.any_eq_true.1 h
    have h2 : t.length = 2 := by
      have : ∀ t ∈ twos, t.length = 2 := by decide
      exact this t ht
    have h3 := List.prefix_iff_eq_take.1 (List.isPrefixOf_iff_prefix.1 hp)
    rw [h2] at h3
    rw [← h3]
    have : ∀ t ∈ twos, markL t = 2 := by decide
    exact this t ht
  · cases l with
    | nil => rfl
    | cons c l =>
      have e : markL (c :: l) = if (bidx c singles).isSome = true then 1 else 0 := by unfold markL; rw [if_neg h]
      by_cases hc : (bidx c singles).isSome = true
      · rw [if_pos hc] at e
        rw [e]
        show markL [c] = 1
        have hf : (twos.any fun t => t.isPrefixOf [c]) = false := by
          rw [List.any_eq_false]
          intro t ht hp
          have := (List.isPrefixOf_iff_prefix.1 hp).length_le
          have h2 : ∀ t ∈ twos, t.length = 2 := by decide
          rw [h2 t ht] at this
          simp at this
        unfold markL
        rw [hf, if_neg (by decide)]
        show (if (bidx c singles).isSome = true then 1 else 0) = 1
        rw [if_pos hc]
      · rw [if_neg hc] at e
        rw [e, List.take_zero]; rfl

theorem next_take {l t : Str} {kd m : Nat} (h : nextS l = some (kd, t, m)) : nextS (l.take m) = some (kd, t, m) := by
  cases l with
  | nil => cases h
  | cons c l =>
    have nx : ∀ r, nextS (c :: r) = if letterB c = true then some (0, (c :: r).take (wlen (c :: r)), wlen (c :: r))
      else if c = 36 then (if 0 < wlen r then some (1, r.take (wlen r), wlen r + 1) else none)
      else if digitB c = true then some (2, (c :: r).take ((c :: r).takeWhile digitB).length, ((c :: r).takeWhile digitB).length)
      else if c = 34 then (quo r).map fun q => (3, q.1, q.2 + 1)
      else if 0 < markL (c :: r) then some (4, (c :: r).take (markL (c :: r)), markL (c :: r)) else none := fun _ => rfl
    have hm := next_le h
    obtain ⟨m, rfl⟩ : ∃ k, m = k + 1 := ⟨m - 1, by omega⟩
    have w1 := wlen_take (c :: l)
    have w2 := wlen_take l
    have w3 := mark_take (c :: l)
    have w4 := while_take (p := digitB) (c :: l)
    rw [nx] at h
    rw [List.take_succ_cons, nx]
    by_cases hc : letterB c = true
    · rw [if_pos hc] at h ⊢
      simp only [Option.some.injEq, Prod.mk.injEq] at h
      obtain ⟨rfl, rfl, h3⟩ := h
      rw [h3, List.take_succ_cons] at w1 ⊢
      rw [w1, List.take_succ_cons, List.take_take, Nat.min_self]
    · rw [if_neg hc] at h ⊢
      by_cases hd : c = 36
      · rw [if_pos hd] at h ⊢
        by_cases hw : 0 < wlen l
        · rw [if_pos hw] at h
          simp only [Option.some.injEq, Prod.mk.injEq] at h
          obtain ⟨rfl, rfl, h3⟩ := h
          have h3 : wlen l = m := by omega
          rw [h3] at w2 hw ⊢
          rw [w2, if_pos hw, List.take_take, Nat.min_self]
        · rw [if_neg hw] at h; cases h
      · rw [if_neg hd] at h ⊢
        by_cases he : digitB c = true
        · rw [if_pos he] at h ⊢
          simp only [Option.some.injEq, Prod.mk.injEq] at h
          obtain ⟨rfl, rfl, h3⟩ := h
          rw [h3, List.take_succ_cons] at w4 ⊢
          rw [w4, h3, List.take_succ_cons, List.take_take, Nat.min_self]
        · rw [if_neg he] at h ⊢
          by_cases hf : c = 34
          · rw [if_pos hf] at h ⊢
            cases hq : quo l with
            | none => rw [hq] at h; cases h
            | some r =>
              rw [hq] at h
              obtain ⟨t', n'⟩ := r
              simp only [Option.map, Option.some.injEq, Prod.mk.injEq] at h
              obtain ⟨rfl, rfl, h3⟩ := h
              have h3 : n' = m := by omega
              subst h3
              rw [quo_take l _ _ hq]; rfl
          · rw [if_neg hf] at h ⊢
            by_cases hg : 0 < markL (c :: l)
            · rw [if_pos hg] at h
              simp only [Option.some.injEq, Prod.mk.injEq] at h
              obtain ⟨rfl, rfl, h3⟩ := h
              rw [h3, List.take_succ_cons] at w3 ⊢
              rw [w3, if_pos (by omega), List.take_succ_cons, List.take_take, Nat.min_self]
            · rw [if_neg hg] at h; cases h

/-- A lexeme read alone is itself. -/
theorem lex_alone {l t : Str} {kd m : Nat} (hs : skip false l = 0) (hn : nextS l = some (kd, t, m)) (hl : l.length ≤ 4096) : lexS (l.take m) = .ok [⟨kd, t, 0, m⟩] := by
  have hm := next_le hn
  have hne : l ≠ [] := by
    intro e; subst e; cases hn
  have hlen : (l.take m).length = m := by rw [List.length_take]; omega
  rw [lexS_eq (by omega), hlen]
  have h0 := skip_alone hs m hm.1 hne
  simp only [lexL, h0]
  rw [if_neg (by omega), List.drop_zero, next_take hn]
  simp only [Nat.zero_add]
  have hd : (l.take m).drop m = [] := by rw [List.drop_of_length_le (by omega)]
  rw [hd]
  obtain ⟨m, rfl⟩ : ∃ k, m = k + 1 := ⟨m - 1, by omega⟩
  rfl

/-- Where the lexemes stand, from 'a' on. -/
def Places (s : Str) : Nat → List Lx → Prop
  | a, [] => a ≤ s.length ∧ skip false (s.drop a) = (s.drop a).length
  | a, y :: r => a ≤ y.beg ∧ y.beg < y.fin ∧ y.fin ≤ s.length ∧ skip false ((s.take y.beg).drop a) = ((s.take y.beg).drop a).length ∧ lexS ((s.take y.fin).drop y.beg) = .ok [⟨y.kind, y.text, 0, y.fin - y.beg⟩] ∧ Places s y.fin r

theorem lexL_places {s : Str} (hs : s.length ≤ 4096) : ∀ (f a : Nat) (r : List Lx), a ≤ s.length → s.length - a < f → lexL f a (s.drop a) = .ok r → Places s a r
  | 0, _, _, _, h, _ => by omega
  | f + 1, a, r, ha, hf, h => by
    simp only [lexL] at h
    have hle := skip_le false (s.drop a)
    simp only [List.length_drop] at h hle
    by_cases hend : s.length - a ≤ skip false (s.drop a)
    · rw [if_pos hend] at h
      cases h
      exact ⟨ha, by simp only [List.length_drop]; omega⟩
    · rw [if_neg hend] at h
      have hsk := skip_drop false (s.drop a) (by simp only [List.length_drop]; omega)
      have htk := skip_take false (s.drop a)
      rw [List.drop_drop] at h hsk
      generalize hb : skip false (s.drop a) = b at *
      cases hn : nextS (s.drop (a + b)) with
      | none => rw [hn] at h; cases h
      | some q =>
        obtain ⟨kd, t, m⟩ := q
        have hm := next_le hn
        simp only [List.length_drop] at hm
        rw [hn] at h
        simp only at h
        rw [List.drop_drop, show a + (b + m) = a + b + m by omega] at h
        cases hr : lexL f (a + b + m) (s.drop (a + b + m)) with
        | error e => rw [hr] at h; cases h
        | ok r' =>
          rw [hr] at h
          cases h
          refine ⟨by simp only; omega, by simp only; omega, by simp only; omega, ?_, ?_, lexL_places hs f (a + b + m) r' (by omega) (by omega) hr⟩
          · simp only
            have e : (s.take (a + b)).drop a = (s.drop a).take b := by rw [List.drop_take]; congr 1; omega
            rw [e, htk, List.length_take, List.length_drop]; omega
          · simp only
            have e : (s.take (a + b + m)).drop (a + b) = (s.drop (a + b)).take m := by rw [List.drop_take]; congr 1; omega
            rw [e, lex_alone hsk hn (by simp only [List.length_drop]; omega), show a + b + m - (a + b) = m by omega]
end Go.Proofs.Ytajjclkdggoobaa
