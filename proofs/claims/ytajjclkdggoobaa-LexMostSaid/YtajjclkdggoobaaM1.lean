/-
  Lexemes of a text by its rest; of two texts with a line's end between.
-/
import Derived.Test.YtajjclkdggoobaaL8
namespace Go.Proofs.Ytajjclkdggoobaa
open Go.Ab
set_option linter.unusedSimpArgs false
set_option linter.unusedVariables false

/-- The lexemes of a rest that stands at p, as many as there are. -/
def lexL : Nat → Nat → Str → Except Nat (List Lx)
  | 0, _, _ => .ok []
  | f + 1, p, l => if l.length ≤ skip false l then .ok [] else match nextS (l.drop (skip false l)) with
    | none => .error (p + skip false l)
    | some (kd, t, m) => match lexL f (p + skip false l + m) (l.drop (skip false l + m)) with
      | .error e => .error e
      | .ok r => .ok (⟨kd, t, p + skip false l, p + skip false l + m⟩ :: r)

theorem lexF_eq : ∀ (f : Nat) (s : Str) (a k : Nat), a ≤ s.length → k + (s.length - a) ≤ 4096 → lexF f s a k = lexL f a (s.drop a)
  | 0, _, _, _, _, _ => rfl
  | f + 1, s, a, k, ha, hk => by
    simp only [lexF, lexL]
    have hle := skip_le false (s.drop a)
    simp only [List.length_drop] at hle ⊢
    by_cases hend : s.length ≤ a + skip false (s.drop a)
    · rw [if_pos hend, if_pos (by omega)]
    · rw [if_neg hend, if_neg (by omega), List.drop_drop]
      cases hn : nextS (s.drop (a + skip false (s.drop a))) with
      | none => rfl
      | some r =>
        obtain ⟨kd, t, m⟩ := r
        have hm := next_le hn
        simp only [List.length_drop] at hm
        simp only
        rw [if_neg (by omega), lexF_eq f s _ (k + 1) (by omega) (by omega), List.drop_drop]
        rw [show a + (skip false (s.drop a) + m) = a + skip false (s.drop a) + m by omega]
        cases lexL f (a + skip false (s.drop a) + m) (s.drop (a + skip false (s.drop a) + m)) <;> rfl

theorem lexL_fuel : ∀ (f g p : Nat) (l : Str), l.length < f → l.length < g → lexL f p l = lexL g p l
  | 0, _, _, _, h, _ => by omega
  | _, 0, _, _, _, h => by omega
  | f + 1, g + 1, p, l, hf, hg => by
    simp only [lexL]
    by_cases hend : l.length ≤ skip false l
    · rw [if_pos hend, if_pos hend]
    · rw [if_neg hend, if_neg hend]
      cases hn : nextS (l.drop (skip false l)) with
      | none => rfl
      | some r =>
        obtain ⟨kd, t, m⟩ := r
        have hm := next_le hn
        simp only [List.length_drop] at hm
        simp only
        rw [lexL_fuel f g _ (l.drop (skip false l + m)) (by simp only [List.length_drop]; omega) (by simp only [List.length_drop]; omega)]

theorem lexS_eq {s : Str} (h : s.length ≤ 4096) : lexS s = lexL (s.length + 1) 0 s := by
  unfold lexS
  rw [lexF_eq _ s 0 0 (by omega) (by omega), List.drop_zero]

/-! ### What a line's end behind it turns: nothing -/
theorem skip_app (b : Str) : ∀ (m : Bool) (l : Str), skip m (l ++ 10 :: b) = if skip m l = l.length then l.length + 1 + skip false b else skip m l
  | true, [] => by simp [skip]; omega
  | false, [] => by simp [skip, blankB]; omega
  | true, c :: l => by
    have h1 := skip_app b true l
    have h2 := skip_app b false l
    have s1 : skip true (c :: l) = if c = 10 then skip false l + 1 else skip true l + 1 := rfl
    have s2 : skip true (c :: l ++ 10 :: b) = if c = 10 then skip false (l ++ 10 :: b) + 1 else skip true (l ++ 10 :: b) + 1 := rfl
    by_cases hc : c = 10
    · rw [if_pos hc] at s1 s2
      rw [s2, s1, h2, List.length_cons]
      by_cases h : skip false l = l.length
      · rw [if_pos h, if_pos (by omega)]; omega
      · rw [if_neg h, if_neg (by omega)]
    · rw [if_neg hc] at s1 s2
      rw [s2, s1, h1, List.length_cons]
      by_cases h : skip true l = l.length
      · rw [if_pos h, if_pos (by omega)]; omega
      · rw [if_neg h, if_neg (by omega)]
  | false, c :: l => by
    have h1 := skip_app b true l
    have h2 := skip_app b false l
    have hh : ((l ++ 10 :: b).head? = some 47) ↔ (l.head? = some 47) := by
      cases l with
      | nil => simp
      | cons d l => simp
    have s1 : skip false (c :: l) = if blankB c = true then skip false l + 1 else if c = 47 ∧ l.head? = some 47 then skip true l + 1 else 0 := rfl
    have s2 : skip false (c :: l ++ 10 :: b) = if blankB c = true then skip false (l ++ 10 :: b) + 1 else if c = 47 ∧ (l ++ 10 :: b).head? = some 47 then skip true (l ++ 10 :: b) + 1 else 0 := rfl
    by_cases hb : blankB c = true
    · rw [if_pos hb] at s1 s2
      rw [s2, s1, h2, List.length_cons]
      by_cases h : skip false l = l.length
      · rw [if_pos h, if_pos (by omega)]; omega
      · rw [if_neg h, if_neg (by omega)]
    · rw [if_neg hb] at s1 s2
      by_cases hc : c = 47 ∧ l.head? = some 47
      · rw [if_pos hc] at s1
        rw [if_pos ⟨hc.1, hh.2 hc.2⟩] at s2
        rw [s2, s1, h1, List.length_cons]
        by_cases h : skip true l = l.length
        · rw [if_pos h, if_pos (by omega)]; omega
        · rw [if_neg h, if_neg (by omega)]
      · rw [if_neg hc] at s1
        rw [if_neg (fun e => hc ⟨e.1, hh.1 e.2⟩)] at s2
        rw [s2, s1, List.length_cons, if_neg (by omega)]

theorem takeWhile_app {p : Nat → Bool} (h : p 10 = false) (b : Str) : ∀ (l : Str), (l ++ 10 :: b).takeWhile p = l.takeWhile p
  | [] => by simp [h]
  | c :: l => by
    simp only [List.cons_append, List.takeWhile_cons, takeWhile_app h b l]

theorem wlen_app (b : Str) (l : Str) : wlen (l ++ 10 :: b) = wlen l := by
  cases l with
  | nil => rfl
  | cons c l =>
    show (if letterB c = true then ((c :: l ++ 10 :: b).takeWhile wordB).length else 0) = _
    rw [takeWhile_app (by decide)]
    rfl

theorem quo_app (b : Str) : ∀ (l : Str), quo (l ++ 10 :: b) = quo l
  | [] => by
    cases b with
    | nil => rfl
    | cons d b => rfl
  | [c] => by
    have h0 : quo (10 :: b) = none := quo_app b []
    show quo (c :: 10 :: b) = quo [c]
    simp only [quo, h0]
    have e10 : esc 10 = none := rfl
    rw [e10]
    by_cases h1 : c = 34
    · rw [if_pos h1, if_pos h1]
    · rw [if_neg h1, if_neg h1]
      by_cases h2 : c = 92
      · rw [if_pos h2]
      · rw [if_neg h2]
        by_cases h3 : c < 32
        · rw [if_pos h3]
        · rw [if_neg h3]; rfl
  | c :: d :: l => by
    have h1 := quo_app b l
    have h2 := quo_app b (d :: l)
    show quo (c :: d :: (l ++ 10 :: b)) = _
    simp only [quo, h1]
    rw [show d :: (l ++ 10 :: b) = d :: l ++ 10 :: b from rfl, h2]

theorem two_app {t : Str} (ht : t ∈ twos) (b : Str) {l : Str} (hl : l ≠ []) : t.isPrefixOf (l ++ 10 :: b) = t.isPrefixOf l := by
  match l, hl with
  | [c], _ =>
    have : ∀ t ∈ twos, ∃ x y, t = [x, y] ∧ y ≠ 10 := by
      intro t ht
      simp only [twos, List.mem_cons, List.not_mem_nil, or_false] at ht
      rcases ht with rfl | rfl | rfl | rfl | rfl | rfl <;> exact ⟨_, _, rfl, by decide⟩
    obtain ⟨x, y, rfl, hy⟩ := this t ht
    have e : (y == 10) = false := by simpa using hy
    show ((x == c) && ((y == 10) && true)) = ((x == c) && false)
    rw [e]; cases (x == c) <;> rfl
  | c :: d :: l, _ =>
    have : ∀ t ∈ twos, ∃ x y, t = [x, y] := by
      intro t ht
      simp only [twos, List.mem_cons, List.not_mem_nil, or_false] at ht
      rcases ht with rfl | rfl | rfl | rfl | rfl | rfl <;> exact ⟨_, _, rfl⟩
    obtain ⟨x, y, rfl⟩ := this t ht
    rfl

theorem mark_app (b : Str) {l : Str} (hl : l ≠ []) : markL (l ++ 10 :: b) = markL l := by
  have h : (twos.any fun t => t.isPrefixOf (l ++ 10 :: b)) = (twos.any fun t => t.isPrefixOf l) := by
    have : ∀ (us : List Str), (∀ t ∈ us, t ∈ twos) → (us.any fun t => t.isPrefixOf (l ++ 10 :: b)) = (us.any fun t => t.isPrefixOf l) := by
      intro us
      induction us with
      | nil => intro _; rfl
      | cons t us ih => intro hu; rw [List.any_cons, List.any_cons, two_app (hu t List.mem_cons_self) b hl, ih (fun u hu' => hu u (List.mem_cons_of_mem _ hu'))]
    exact this twos fun _ h => h
  unfold markL
  rw [h]
  cases l with
  | nil => exact absurd rfl hl
  | cons c l => rfl

theorem take_app {l : Str} {n : Nat} (b : Str) (h : n ≤ l.length) : (l ++ b).take n = l.take n := by
  rw [List.take_append_of_le_length h]

theorem next_app (b : Str) {l : Str} (hl : l ≠ []) : nextS (l ++ 10 :: b) = nextS l := by
  cases l with
  | nil => exact absurd rfl hl
  | cons c l =>
    have e1 := wlen_app b (c :: l)
    have e2 := wlen_app b l
    have e3 := mark_app b (l := c :: l) (by simp)
    have e4 := takeWhile_app (p := digitB) (by decide) b (c :: l)
    have e5 := quo_app b l
    have t1 := take_app (10 :: b) (wlen_le (c :: l))
    have t2 := take_app (10 :: b) (wlen_le l)
    have t3 := take_app (10 :: b) (mark_le (c :: l))
    have t4 := take_app (10 :: b) (take_le (p := digitB) (c :: l))
    simp only [List.cons_append] at e1 e3 e4 t1 t3 t4
    simp only [List.cons_append, nextS, e1, e2, e3, e4, e5, t1, t2, t3, t4]

theorem lexL_app (b : Str) : ∀ (f p : Nat) (l : Str), l.length + 1 + b.length < f → lexL f p (l ++ 10 :: b) = match lexL f p l with
    | .error e => .error e
    | .ok x => match lexL f (p + l.length + 1) b with
      | .error e => .error e
      | .ok y => .ok (x ++ y)
  | 0, _, _, h => by omega
  | f + 1, p, l, hf => by
    have hs := skip_app b false l
    have hle := skip_le false l
    by_cases hend : skip false l = l.length
    · rw [if_pos hend] at hs
      have h1 : lexL (f + 1) p l = .ok [] := by simp only [lexL]; rw [if_pos (by omega)]
      rw [h1]
      simp only [lexL, hs]
      have hlen : (l ++ 10 :: b).length = l.length + 1 + b.length := by simp; omega
      rw [hlen]
      have hd : ∀ j, (l ++ 10 :: b).drop (l.length + 1 + j) = b.drop j := by
        intro j
        rw [← List.drop_drop, ← List.drop_drop, List.drop_left]
        rfl
      by_cases hb : b.length ≤ skip false b
      · rw [if_pos (by omega), if_pos hb]; rfl
      · rw [if_neg (by omega), if_neg hb, hd]
        cases hn : nextS (b.drop (skip false b)) with
        | none => simp only [Nat.add_assoc]
        | some r =>
          obtain ⟨kd, t, m⟩ := r
          simp only
          rw [show l.length + 1 + skip false b + m = l.length + 1 + (skip false b + m) by omega, hd, show p + (l.length + 1 + skip false b) = p + l.length + 1 + skip false b by omega]
          cases lexL f (p + l.length + 1 + skip false b + m) (b.drop (skip false b + m)) <;> rfl
    · rw [if_neg hend] at hs
      have hlt : skip false l < l.length := by omega
      have hlen : (l ++ 10 :: b).length = l.length + 1 + b.length := by simp; omega
      have hd : (l ++ 10 :: b).drop (skip false l) = l.drop (skip false l) ++ 10 :: b := List.drop_append_of_le_length hle
      have hne : l.drop (skip false l) ≠ [] := by
        intro e
        have := congrArg List.length e
        simp only [List.length_drop, List.length_nil] at this
        omega
      have h1 : lexL (f + 1) p (l ++ 10 :: b) = match nextS (l.drop (skip false l)) with
          | none => .error (p + skip false l)
          | some (kd, t, m) => match lexL f (p + skip false l + m) ((l ++ 10 :: b).drop (skip false l + m)) with
            | .error e => .error e
            | .ok r => .ok (⟨kd, t, p + skip false l, p + skip false l + m⟩ :: r) := by
        simp only [lexL, hs, hlen]
        rw [if_neg (by omega), hd, next_app b hne]
      have h2 : lexL (f + 1) p l = match nextS (l.drop (skip false l)) with
          | none => .error (p + skip false l)
          | some (kd, t, m) => match lexL f (p + skip false l + m) (l.drop (skip false l + m)) with
            | .error e => .error e
            | .ok r => .ok (⟨kd, t, p + skip false l, p + skip false l + m⟩ :: r) := by
        simp only [lexL]
        rw [if_neg (by omega)]
      rw [h1, h2]
      cases hn : nextS (l.drop (skip false l)) with
      | none => rfl
      | some r =>
        obtain ⟨kd, t, m⟩ := r
        have hm := next_le hn
        simp only [List.length_drop] at hm
        simp only
        rw [List.drop_append_of_le_length (show skip false l + m ≤ l.length by omega)]
        have hdl : (l.drop (skip false l + m)).length = l.length - (skip false l + m) := by simp
        rw [lexL_app b f _ (l.drop (skip false l + m)) (by rw [hdl]; omega), hdl]
        rw [show p + skip false l + m + (l.length - (skip false l + m)) + 1 = p + l.length + 1 by omega]
        rw [lexL_fuel f (f + 1) (p + l.length + 1) b (by omega) (by omega)]
        cases lexL f (p + skip false l + m) (l.drop (skip false l + m)) with
        | error e => rfl
        | ok x =>
          simp only
          cases lexL (f + 1) (p + l.length + 1) b <;> rfl

/-! ### Moved -/
def mvL (d : Nat) (x : Lx) : Lx := ⟨x.kind, x.text, x.beg + d, x.fin + d⟩
theorem lexL_move (d : Nat) : ∀ (f p : Nat) (l : Str), lexL f (p + d) l = match lexL f p l with
    | .error e => .error (e + d)
    | .ok x => .ok (x.map (mvL d))
  | 0, _, _ => rfl
  | f + 1, p, l => by
    simp only [lexL]
    by_cases hend : l.length ≤ skip false l
    · rw [if_pos hend, if_pos hend]; rfl
    · rw [if_neg hend, if_neg hend]
      cases hn : nextS (l.drop (skip false l)) with
      | none => simp only; congr 1; omega
      | some r =>
        obtain ⟨kd, t, m⟩ := r
        simp only
        rw [show p + d + skip false l + m = (p + skip false l + m) + d by omega, lexL_move d f]
        cases lexL f (p + skip false l + m) (l.drop (skip false l + m)) with
        | error e => rfl
        | ok x =>
          simp only [List.map_cons, mvL]
          rw [show p + d + skip false l = p + skip false l + d by omega]

/-- Two texts with a line's end between. -/
theorem lex_join {a b : Str} (h : a.length + b.length ≤ 2000) : lexS (a ++ [10] ++ b) = match lexS a with
    | .error e => .error e
    | .ok x => match lexS b with
      | .error e => .error (a.length + 1 + e)
      | .ok y => .ok (x ++ y.map (mvL (a.length + 1))) := by
  have e : a ++ [10] ++ b = a ++ 10 :: b := by simp
  have hl : (a ++ 10 :: b).length = a.length + 1 + b.length := by simp; omega
  rw [e, lexS_eq (by omega), lexS_eq (s := a) (by omega), lexS_eq (s := b) (by omega), lexL_app b _ 0 a (by omega), hl]
  rw [lexL_fuel (a.length + 1 + b.length + 1) (a.length + 1) 0 a (by omega) (by omega)]
  rw [show 0 + a.length + 1 = 0 + (a.length + 1) by omega, lexL_move, lexL_fuel (a.length + 1 + b.length + 1) (b.length + 1) 0 b (by omega) (by omega)]
  cases lexL (a.length + 1) 0 a with
  | error e => rfl
  | ok x =>
    simp only
    cases lexL (b.length + 1) 0 b with
    | error e => simp only; rw [Nat.add_comm]
    | ok y => rfl
end Go.Proofs.Ytajjclkdggoobaa
