/-
  LexMost: the plain law; walked.
-/
import Derived.Test.YtajjclkdggoobaaM2
namespace Go.Proofs.Ytajjclkdggoobaa
open Go.Ab
set_option linter.unusedSimpArgs false
set_option linter.unusedVariables false

theorem lexF_succ' (f : Nat) (s : Str) (a k : Nat) : lexF (f + 1) s a k = if s.length ≤ a + skip false (s.drop a) then .ok [] else match nextS (s.drop (a + skip false (s.drop a))) with
      | none => .error (a + skip false (s.drop a))
      | some (kd, t, m) => if 4096 ≤ k then .error (a + skip false (s.drop a)) else match lexF f s (a + skip false (s.drop a) + m) (k + 1) with
        | .error e => .error e
        | .ok l => .ok (⟨kd, t, a + skip false (s.drop a), a + skip false (s.drop a) + m⟩ :: l) := rfl

/-- So many words of one letter, each with a blank behind it. -/
def aas : Nat → Str
  | 0 => []
  | j + 1 => 97 :: 32 :: aas j
theorem aas_len : ∀ j, (aas j).length = 2 * j
  | 0 => rfl
  | j + 1 => by simp only [aas, List.length_cons, aas_len j]; omega
theorem aas_snoc : ∀ j, aas (j + 1) = aas j ++ [97, 32]
  | 0 => rfl
  | j + 1 => by
    show 97 :: 32 :: aas (j + 1) = 97 :: 32 :: aas j ++ [97, 32]
    rw [aas_snoc j]; rfl

theorem lex_aas (t : Str) (ht : t = [] ∨ t = [98]) (s : Str) : ∀ (j f a k : Nat) (w : Str), (w = [] ∨ w = [32]) → s.drop a = w ++ (aas j ++ t) → j + 1 < f → k + j = 4096 → a + w.length + 2 * j + t.length = s.length →
    (t = [] → ∃ r, lexF f s a k = .ok r ∧ r.length = j) ∧ (t = [98] → lexF f s a k = .error (a + w.length + 2 * j))
  | 0, f, a, k, w, hw, hd, hf, hk, hl => by
    obtain ⟨f, rfl⟩ : ∃ g, f = g + 1 := ⟨f - 1, by omega⟩
    have hs : skip false (s.drop a) = w.length := by
      rw [hd]
      rcases hw with rfl | rfl <;> rcases ht with rfl | rfl <;> rfl
    rcases ht with rfl | rfl
    · refine ⟨fun _ => ⟨[], ?_, rfl⟩, fun h => by cases h⟩
      rw [lexF_succ', hs, if_pos (by simp only [List.length_nil] at hl; omega)]
    · refine ⟨fun h => (by cases h), fun _ => ?_⟩
      simp only [List.length_cons, List.length_nil] at hl
      have hn : nextS (s.drop (a + w.length)) = some (0, [98], 1) := by
        rw [← List.drop_drop, hd, List.drop_left]; rfl
      rw [lexF_succ', hs, if_neg (by omega), hn]
      simp only
      rw [if_pos (by omega), Nat.mul_zero, Nat.add_zero]
  | j + 1, f, a, k, w, hw, hd, hf, hk, hl => by
    obtain ⟨f, rfl⟩ : ∃ g, f = g + 1 := ⟨f - 1, by omega⟩
    have hs : skip false (s.drop a) = w.length := by
      rw [hd]
      rcases hw with rfl | rfl <;> rfl
    have hn : nextS (s.drop (a + w.length)) = some (0, [97], 1) := by
      rw [← List.drop_drop, hd, List.drop_left]; rfl
    have hd' : s.drop (a + w.length + 1) = [32] ++ (aas j ++ t) := by
      rw [← List.drop_drop, ← List.drop_drop, hd, List.drop_left]; rfl
    have ih := lex_aas t ht s j f (a + w.length + 1) (k + 1) [32] (.inr rfl) hd' (by omega) (by omega) (by simp only [List.length_cons, List.length_nil]; omega)
    have hne : lexF (f + 1) s a k = match lexF f s (a + w.length + 1) (k + 1) with
        | .error e => .error e
        | .ok l => .ok (⟨0, [97], a + w.length, a + w.length + 1⟩ :: l) := by
      rw [lexF_succ', hs, if_neg (by omega), hn]
      simp only
      rw [if_neg (by omega)]
    refine ⟨fun h => ?_, fun h => ?_⟩
    · obtain ⟨r, h1, h2⟩ := ih.1 h
      rw [hne, h1]
      exact ⟨_, rfl, by simp [h2]⟩
    · have := ih.2 h
      rw [hne, this]
      simp only [List.length_cons, List.length_nil]
      rw [show a + w.length + 1 + (0 + 1) + 2 * j = a + w.length + 2 * (j + 1) by omega]

theorem most1 : ∃ r, lexS (aas 4096) = .ok r ∧ r.length = 4096 := by
  have hl := aas_len 4096
  exact (lex_aas [] (.inl rfl) (aas 4096) 4096 ((aas 4096).length + 1) 0 0 [] (.inl rfl) (by rw [List.drop_zero]; simp) (by omega) (by omega) (by simp only [List.length_nil]; omega)).1 rfl
theorem most2 : lexS (aas 4096 ++ [98]) = .error 8192 := by
  have hl := aas_len 4096
  have := (lex_aas [98] (.inr rfl) (aas 4096 ++ [98]) 4096 ((aas 4096 ++ [98]).length + 1) 0 0 [] (.inl rfl) (by rw [List.drop_zero]; simp) (by simp only [List.length_append]; omega) (by omega) (by simp only [List.length_append, List.length_cons, List.length_nil]; omega)).2 rfl
  exact this

theorem skip_blanks : ∀ j, skip false (List.replicate j 32) = j
  | 0 => rfl
  | j + 1 => by
    rw [List.replicate_succ]
    show (if blankB 32 = true then skip false (List.replicate j 32) + 1 else _) = _
    rw [if_pos (by decide), skip_blanks j]
theorem most3 (j : Nat) : lexS (List.replicate j 32) = .ok [] := by
  unfold lexS
  rw [lexF_succ', List.drop_zero, skip_blanks, if_pos (by simp)]
end Go.Proofs.Ytajjclkdggoobaa
