/-
  A table is made.
-/
import Derived.Test.YtjdpdjmmbajglaaKA
namespace Go.Proofs.Ytjdpdjmmbajglaa
open Go.Ab
set_option linter.unusedSimpArgs false
set_option linter.unusedVariables false

theorem c31 {n : Nat} {h : AHeap} {v : AV} {es : List (List AV)} {K : Kont} (ho : h.Ok) (V : View h 3 v es) (hl : es.length < 1000000)
    (k : ∀ h' v', Ext h h' → h'.Ok → View h' 3 v' es → (∀ id g s l c ex, v' = .slc id g s l c ex → h.sz ≤ id) → K v' h' = true) : callN E (n + 1) (.func 31) [v] h K = true := by
  apply d31
  unfold s31
  have hnil : v = .nilSlc ∨ eqV h false .slc v .nilSlc = some (.bool false) := by
    rcases V with ⟨_, rfl | rfl⟩ | ⟨id, g, s, cap, ex, r, rfl, _⟩
    · exact .inl rfl
    · exact .inr rfl
    · exact .inr rfl
  rcases hnil with rfl | hne
  · have : eqV h false .slc .nilSlc .nilSlc = some (.bool true) := rfl
    rw [this, optB_some, condB_true]
    exact k h _ (Ext.refl h) ho V (by intro id g s l c ex hh; cases hh)
  · rw [hne, optB_some, condB_false]
    have hb : bsliceV h 0 3 [AV.str [], AV.int .i64 0, AV.str []] [] = some (.slc h.sz 0 0 0 0 true, Ab.newRow h [] 3) := rfl
    rw [hb, optP_some]
    have e1 := ext_newRow ho [] 3
    have o1 := ok_newRow ho [] 3
    have r1 : (Ab.newRow h [] 3).row h.sz = some { es := [], sz := 3, g := 0, m := 0, rw := true } := by rw [AHeap.row_some]; exact get_push_same _ _
    generalize Ab.newRow h [] 3 = h1 at *
    have V1 := V.ext e1
    cases es with
    | nil =>
      have : appendA h1 3 40 (.slc h.sz 0 0 0 0 true) v = some (.slc h.sz 0 0 0 0 true, h1) := by
        simp only [appendA, show Nat.beq 3 0 = false from rfl, cond_false, V1.src, appendNew]
      rw [this, optP_some]
      exact k h1 _ e1 o1 (.inr ⟨h.sz, 0, 0, 0, true, _, rfl, r1, Nat.le_refl _, rfl, rfl, Nat.le_refl _⟩) (by intro id g s l c ex hh; cases hh; exact Nat.le_refl _)
    | cons y l =>
      have b1 : Nat.ble ((0 + (y :: l).length) * 40) most = true := nble_true.2 (by unfold most; omega)
      have b2 : Nat.ble (0 + (y :: l).length) most = true := nble_true.2 (by unfold most; omega)
      have b3 : Nat.ble (0 + (y :: l).length) 0 = false := by
        cases hh : Nat.ble (0 + (y :: l).length) 0 with
        | false => rfl
        | true => have := nble_true.1 hh; simp at this
      have : appendA h1 3 40 (.slc h.sz 0 0 0 0 true) v = some (.slc h1.sz 0 0 (0 + (y :: l).length) (0 + (y :: l).length) false, Ab.newRow h1 (y :: l) 3) := by
        simp only [appendA, show Nat.beq 3 0 = false from rfl, cond_false, V1.src, appendNew, r1, b1, b2, b3, Nat.beq_refl, Bool.and_self, cond_true, Nat.ble_self_eq_true, List.drop_nil, List.take_nil, List.length_nil, List.nil_append]
      rw [this, optP_some]
      refine k _ _ (e1.trans (ext_newRow o1 _ 3)) (ok_newRow o1 _ 3) (.inr ⟨h1.sz, 0, 0, 0 + (y :: l).length, false, { es := y :: l, sz := 3, g := 0, m := 0, rw := true }, by simp, ?_, Nat.le_refl _, rfl, by simp, by simp⟩) (by intro id g s l c ex hh; cases hh; exact e1.1)
      rw [AHeap.row_some]; exact get_push_same _ _

/-! ### Tables that may be -/
def validGo (all : List Str) : List Cls → List Cls → Bool
  | _, [] => true
  | pre, c :: r => decide (c.fields.length ≤ 62) && fitsB pre c all && validGo all (pre ++ [c]) r

def valid (l : List Cls) : Bool := decide (l.length ≤ 64) && validGo (names l) [] l

/-- Each class's super is none, or stands before it; names are names. -/
def Good (pre : List Cls) : Prop := (∀ (i : Nat) c, pre[i]? = some c → c.super = [] ∨ ∃ j, j < i ∧ idx c.super (names pre) = some j) ∧ ∀ c ∈ pre, isName c.name = true ∧ c.fields.length ≤ 62

theorem isName_nil : isName [] = false := rfl

theorem idx_mem {s : Str} {l : List Str} {i : Nat} (h : idx s l = some i) : s ∈ l := List.mem_of_getElem? (idx_lt h).2

theorem Good.asc {pre : List Cls} (G : Good pre) : Asc pre := by
  intro i c hc j hj
  rcases G.1 i c hc with h | ⟨k, hk, hk2⟩
  · rw [h] at hj
    have := idx_mem hj
    simp only [names, List.mem_map] at this
    obtain ⟨d, hd, hd2⟩ := this
    have := (G.2 d hd).1
    rw [hd2, isName_nil] at this; cases this
  · rw [hk2] at hj; cases hj; exact hk

theorem idx_append {s : Str} : ∀ {l m : List Str}, idx s (l ++ m) = match idx s l with | some i => some i | none => (idx s m).map (· + l.length)
  | [], m => by simp [idx]
  | c :: l, m => by
    simp only [List.cons_append, idx]
    by_cases h : c = s
    · simp [h]
    · rw [if_neg h, if_neg h, idx_append (l := l)]
      cases idx s l with
      | some i => rfl
      | none => cases idx s m <;> simp; omega

theorem names_append (a b : List Cls) : names (a ++ b) = names a ++ names b := by simp [names]

theorem Good.next {pre : List Cls} {c : Cls} {all : List Str} (G : Good pre) (hf : fitsB pre c all = true) (h62 : c.fields.length ≤ 62) : Good (pre ++ [c]) := by
  simp only [fitsB, Bool.and_eq_true, Bool.or_eq_true, decide_eq_true_eq, Bool.not_eq_true'] at hf
  obtain ⟨⟨⟨⟨f1, f2⟩, f3⟩, f4⟩, f5⟩ := hf
  refine ⟨fun i d hd => ?_, fun d hd => ?_⟩
  · rw [names_append]
    by_cases hi : i < pre.length
    · rw [List.getElem?_append_left hi] at hd
      rcases G.1 i d hd with h | ⟨j, h1, h2⟩
      · exact .inl h
      · exact .inr ⟨j, h1, by rw [idx_append, h2]⟩
    · rw [List.getElem?_append_right (by omega)] at hd
      have hz : i - pre.length = 0 := by
        rcases Nat.eq_zero_or_pos (i - pre.length) with h | h
        · exact h
        · rw [List.getElem?_eq_none (by simp; omega)] at hd; cases hd
      rw [hz] at hd
      simp at hd; subst hd
      rcases f3 with f3 | f3
      · exact .inl f3
      · cases hx : idx c.super (names pre) with
        | none => rw [hx] at f3; cases f3
        | some j =>
          have := (idx_lt hx).1
          rw [names_length] at this
          exact .inr ⟨j, by omega, by rw [idx_append, hx]⟩
  · rcases List.mem_append.1 hd with h | h
    · exact G.2 d h
    · simp at h; subst h; exact ⟨f1, h62⟩

theorem upF_le {pre : List Cls} (G : Good pre) (s : Str) : (upF pre s).length ≤ pre.length * 62 := by
  unfold upF
  have h1 : (chain pre s).length ≤ pre.length := by
    cases hs : idx s (names pre) with
    | none => rw [chain_none hs]; simp
    | some i =>
      have := chain_length G.asc i hs
      have := (idx_lt hs).1
      rw [names_length] at this
      omega
  have h2 : ∀ c ∈ chain pre s, c.fields.length ≤ 62 := by
    intro c hc
    cases hs : idx s (names pre) with
    | none => rw [chain_none hs] at hc; cases hc
    | some i => exact (G.2 c (chain_mem G.asc i hs c hc)).2
  have h3 : ∀ (m : List Cls), (∀ c ∈ m, c.fields.length ≤ 62) → (m.flatMap Cls.fields).length ≤ m.length * 62 := by
    intro m
    induction m with
    | nil => intro _; simp
    | cons c m ih =>
      intro hm
      have a := hm c List.mem_cons_self
      have b := ih (fun d hd => hm d (List.mem_cons_of_mem _ hd))
      simp only [List.flatMap_cons, List.length_append, List.length_cons]
      omega
  have := h3 _ h2
  have : (chain pre s).length * 62 ≤ pre.length * 62 := Nat.mul_le_mul_right _ h1
  omega
end Go.Proofs.Ytjdpdjmmbajglaa
