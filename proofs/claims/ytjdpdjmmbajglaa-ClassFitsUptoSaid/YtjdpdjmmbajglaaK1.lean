/-
  Names: what the program's own functions and the document's answer say of them.
-/
import Derived.Test.YtjdpdjmmbajglaaXD
import Derived.Test.YtjdpdjmmbajglaaAbVars
namespace Go.Proofs.Ytjdpdjmmbajglaa
open Go.Ab
set_option linter.unusedSimpArgs false
set_option linter.unusedVariables false

abbrev Str := List Nat

def isLetter (b : Int) : Bool := (decide (97 ≤ b) && decide (b ≤ 122)) || (decide (65 ≤ b) && decide (b ≤ 90))

theorem c56 {n : Nat} {b : Int} {h : AHeap} {K : Kont} (k : K (.bool (isLetter b)) h = true) : callN E (n + 1) (.func 56) [.int .u8 b] h K = true := by
  apply d56
  unfold s56
  unfold isLetter at k
  by_cases h1 : 97 ≤ b <;> by_cases h2 : b ≤ 122 <;> by_cases h3 : 65 ≤ b <;> by_cases h4 : b ≤ 90 <;> simp [h1, h2, h3, h4] at k ⊢ <;> exact k

/-! ### A text's place among texts -/
def idx (s : Str) : List Str → Option Nat
  | [] => none
  | c :: l => if c = s then some 0 else (idx s l).map (· + 1)

def fint : Option Nat → Int
  | none => -1
  | some k => k

def off (i : Nat) : Option Nat → Option Nat
  | none => none
  | some k => some (i + k)

theorem idx_lt {s : Str} : ∀ {l : List Str} {i : Nat}, idx s l = some i → i < l.length ∧ l[i]? = some s
  | [], i, h => by cases h
  | c :: l, i, h => by
    simp only [idx] at h
    by_cases e : c = s
    · rw [if_pos e] at h; cases h; simp [e]
    · rw [if_neg e] at h
      cases hi : idx s l with
      | none => rw [hi] at h; cases h
      | some j =>
        rw [hi] at h; cases h
        have := idx_lt hi
        refine ⟨?_, ?_⟩
        · simp; omega
        · simpa using this.2
theorem idx_none {s : Str} : ∀ {l : List Str}, idx s l = none ↔ s ∉ l
  | [] => by simp [idx]
  | c :: l => by
    simp only [idx]
    by_cases e : c = s
    · simp [e]
    · rw [if_neg e]
      have := idx_none (s := s) (l := l)
      cases hi : idx s l with
      | none => rw [hi] at this; simp at this; simp [this]; exact fun h => e h.symm
      | some j => rw [hi] at this; simp at this; simp [this]

/-- The elements' first cells are these texts. -/
def Named (es : List (List AV)) (l : List Str) : Prop := All2 (fun e s => nth e 0 = some (.str s)) es l


theorem loop_find {k : Nat} {n : Nat} {h : AHeap} {v : AV} {es : List (List AV)} {ns : List Str} {s : Str} {K : Kont} {B : AV → AV → AV → AHeap → Bool} (V : View h k v es) (N : Named es ns) {i : Nat} (hi : i < ns.length) :
    ∃ id g j, iadrA h k v (.int .i64 (i : Int)) = some (.ptr id g j 0) ∧ loadA h false 1 (.ptr id g j 0) = some (.str ns[i]) ∧ ∃ e, es[i]? = some e := by
  obtain ⟨e, he, hn⟩ := N.get (List.getElem?_eq_getElem hi)
  obtain ⟨id, g, j, p1, p2⟩ := V.at he
  exact ⟨id, g, j, p1 _, by rw [p2, partA_false, hn], e, he⟩

theorem l33 {n : Nat} {h : AHeap} {v : AV} {es : List (List AV)} {ns : List Str} {s : Str} {K : Kont} (V : View h 3 v es) (N : Named es ns) (hl : ns.length < lim) : ∀ (m i : Nat), i ≤ ns.length → ns.length - i < m →
    K (.int .i64 (fint (off i (idx s (ns.drop i))))) h = true → l33_6 (callN E n) n m v (.str s) (.int .i64 (i : Int)) h K = true
  | 0, i, _, hm, _ => by omega
  | m + 1, i, hi, hm, k => by
    have hlen := N.length
    unfold l33_6 b33_6
    rw [V.len, hlen]
    by_cases hlt : i < ns.length
    · have hd : ns.drop i = ns[i] :: ns.drop (i + 1) := List.drop_eq_getElem_cons hlt
      obtain ⟨id, g, j, p1, p2, _⟩ := loop_find (n := n) (s := s) (K := K) (B := fun _ _ _ _ => true) V N hlt
      rw [hd] at k
      simp [hlt, p1, p2, idx] at k ⊢
      by_cases hs : ns[i] = s
      · simp [hs, off, fint] at k ⊢; exact k
      · simp [hs] at k ⊢
        rw [inc64 (by omega)]
        refine l33 V N hl m (i + 1) (by omega) (by omega) ?_
        cases hx : idx s (ns.drop (i + 1)) with
        | none => simp only [hx, off, Option.map] at k ⊢; exact k
        | some x => simp only [hx, off, Option.map] at k ⊢; rw [show i + 1 + x = i + (x + 1) by omega]; exact k
    · have : ns.drop i = [] := List.drop_of_length_le (by omega)
      rw [this] at k
      simp [hlt]
      exact k

theorem off0 (o : Option Nat) : off 0 o = o := by cases o <;> simp [off]

theorem c33 {n : Nat} {h : AHeap} {v : AV} {es : List (List AV)} {ns : List Str} {s : Str} {K : Kont} (V : View h 3 v es) (N : Named es ns) (hl : ns.length < n) (hl2 : ns.length < lim) (k : K (.int .i64 (fint (idx s ns))) h = true) :
    callN E (n + 1) (.func 33) [v, .str s] h K = true :=
  d33 (l33 V N hl2 n 0 (by omega) (by omega) (by rw [off0]; simpa using k))

theorem l35 {n : Nat} {h : AHeap} {v : AV} {es : List (List AV)} {ns : List Str} {s : Str} {K : Kont} (V : View h 3 v es) (N : Named es ns) (hl : ns.length < lim) : ∀ (m i : Nat), i ≤ ns.length → ns.length - i < m →
    K (.int .i64 (fint (off i (idx s (ns.drop i))))) h = true → l35_6 (callN E n) n m v (.str s) (.int .i64 (i : Int)) h K = true
  | 0, i, _, hm, _ => by omega
  | m + 1, i, hi, hm, k => by
    have hlen := N.length
    unfold l35_6 b35_6
    rw [V.len, hlen]
    by_cases hlt : i < ns.length
    · have hd : ns.drop i = ns[i] :: ns.drop (i + 1) := List.drop_eq_getElem_cons hlt
      obtain ⟨id, g, j, p1, p2, _⟩ := loop_find (n := n) (s := s) (K := K) (B := fun _ _ _ _ => true) V N hlt
      rw [hd] at k
      simp [hlt, p1, p2, idx] at k ⊢
      by_cases hs : ns[i] = s
      · simp [hs, off, fint] at k ⊢; exact k
      · simp [hs] at k ⊢
        rw [inc64 (by omega)]
        refine l35 V N hl m (i + 1) (by omega) (by omega) ?_
        cases hx : idx s (ns.drop (i + 1)) with
        | none => simp only [hx, off, Option.map] at k ⊢; exact k
        | some x => simp only [hx, off, Option.map] at k ⊢; rw [show i + 1 + x = i + (x + 1) by omega]; exact k
    · have : ns.drop i = [] := List.drop_of_length_le (by omega)
      rw [this] at k
      simp [hlt]
      exact k

theorem c35 {n : Nat} {h : AHeap} {v : AV} {es : List (List AV)} {ns : List Str} {s : Str} {K : Kont} (V : View h 3 v es) (N : Named es ns) (hl : ns.length < n) (hl2 : ns.length < lim) (k : K (.int .i64 (fint (idx s ns))) h = true) :
    callN E (n + 1) (.func 35) [v, .str s] h K = true :=
  d35 (l35 V N hl2 n 0 (by omega) (by omega) (by rw [off0]; simpa using k))

theorem l22 {n : Nat} {h : AHeap} {v : AV} {es : List (List AV)} {ns : List Str} {s : Str} {K : Kont} (V : View h 1 v es) (N : Named es ns) (hl : ns.length < lim) : ∀ (m i : Nat), i ≤ ns.length → ns.length - i < m →
    K (.int .i64 (fint (off i (idx s (ns.drop i))))) h = true → l22_6 (callN E n) n m v (.str s) (.int .i64 (i : Int)) h K = true
  | 0, i, _, hm, _ => by omega
  | m + 1, i, hi, hm, k => by
    have hlen := N.length
    unfold l22_6 b22_6
    rw [V.len, hlen]
    by_cases hlt : i < ns.length
    · have hd : ns.drop i = ns[i] :: ns.drop (i + 1) := List.drop_eq_getElem_cons hlt
      obtain ⟨id, g, j, p1, p2, _⟩ := loop_find (n := n) (s := s) (K := K) (B := fun _ _ _ _ => true) V N hlt
      rw [hd] at k
      simp [hlt, p1, p2, idx] at k ⊢
      by_cases hs : ns[i] = s
      · simp [hs, off, fint] at k ⊢; exact k
      · simp [hs] at k ⊢
        rw [inc64 (by omega)]
        refine l22 V N hl m (i + 1) (by omega) (by omega) ?_
        cases hx : idx s (ns.drop (i + 1)) with
        | none => simp only [hx, off, Option.map] at k ⊢; exact k
        | some x => simp only [hx, off, Option.map] at k ⊢; rw [show i + 1 + x = i + (x + 1) by omega]; exact k
    · have : ns.drop i = [] := List.drop_of_length_le (by omega)
      rw [this] at k
      simp [hlt]
      exact k

theorem c22 {n : Nat} {h : AHeap} {v : AV} {es : List (List AV)} {ns : List Str} {s : Str} {K : Kont} (V : View h 1 v es) (N : Named es ns) (hl : ns.length < n) (hl2 : ns.length < lim) (k : K (.int .i64 (fint (idx s ns))) h = true) :
    callN E (n + 1) (.func 22) [v, .str s] h K = true :=
  d22 (l22 V N hl2 n 0 (by omega) (by omega) (by rw [off0]; simpa using k))

/-! ### Keywords -/
def kws : List Str := [[99, 108, 97, 115, 115], [101, 120, 116, 101, 110, 100, 115], [114, 117, 108, 101], [113, 117, 101, 114, 121], [119, 104, 101, 110], [116, 104, 101, 110], [101, 110, 100], [115, 97, 108, 105, 101, 110, 99, 101], [103, 114, 111, 117, 112], [102, 108, 111, 119], [110, 111, 108, 111, 111, 112], [108, 111, 99, 107], [110, 111, 116], [101, 120, 105, 115, 116, 115], [102, 111, 114, 97, 108, 108], [111, 114], [102, 114, 111, 109], [101, 118, 97, 108], [97, 99, 99], [111, 118, 101, 114], [105, 110, 115, 101, 114, 116], [108, 111, 103, 105, 99, 97, 108], [117, 112, 100, 97, 116, 101], [100, 101, 108, 101, 116, 101], [102, 111, 99, 117, 115], [112, 114, 105, 110, 116], [104, 97, 108, 116], [116, 114, 117, 101], [102, 97, 108, 115, 101], [110, 117, 108, 108], [115, 105, 122, 101], [104, 97, 115], [105, 110, 116], [98, 111, 111, 108], [116, 101, 120, 116], [108, 105, 115, 116], [97, 110, 121], [114, 101, 102]]

def isKey (s : Str) : Bool := (idx s kws).isSome

theorem isKey_false {s : Str} (h : s ∉ kws) : isKey s = false := by
  simp only [isKey, idx_none.2 h, Option.isSome_none]
theorem isKey_true {s : Str} (h : s ∈ kws) : isKey s = true := by
  cases e : idx s kws with
  | none => exact absurd h (idx_none.1 e)
  | some i => simp only [isKey, e, Option.isSome_some]

theorem c54 {n : Nat} {s : Str} {h : AHeap} {K : Kont} (k : K (.bool (isKey s)) h = true) : callN E (n + 1) (.func 54) [.str s] h K = true := by
  apply d54
  unfold s54 p54_156
  by_cases hk : s ∈ kws
  · rw [isKey_true hk] at k
    simp only [binA_seql, optB_some, condB_bool, decide_eq_true_eq, k]
    simp only [kws, List.mem_cons, List.not_mem_nil, or_false] at hk
    repeat (first | (rcases hk with hk | hk; · subst hk; simp) | (subst hk; simp))
  · rw [isKey_false hk] at k
    simp only [kws, List.mem_cons, List.not_mem_nil, or_false, not_or] at hk
    simp only [binA_seql, optB_some, condB_bool, decide_eq_true_eq, hk, if_false, k]

end Go.Proofs.Ytjdpdjmmbajglaa
