/-
  The document's answer: a lexeme.
-/
import Derived.Test.YtajjclkdggoobaaN4
import Derived.Test.YtajjclkdggoobaaL6
namespace Go.Proofs.Ytajjclkdggoobaa
open Go.Ab
set_option linter.unusedSimpArgs false
set_option linter.unusedVariables false

theorem fin24 {h : AHeap} {id : Nat} {c0 : List AV} {a b c d : AV} {K : Kont} (V : Var h id c0) (hc : c0.length = 4) (ha : a.leaf = true) (hb : b.leaf = true) (hcc : c.leaf = true) (hd : d.leaf = true) :
    (optP (unit (storeA h 4 (.ptr id 0 0 0) (.agg [a, b, c, d]))) fun _ h => optR (resV h [(.ptr id 0 0 0, some (true, 4))]) h K) = K (.agg [a, b, c, d]) (h.put id (.row (VRow [a, b, c, d]))) := by
  have hl : allLeaf (AV.agg [a, b, c, d]).cells = true := by
    show (bif a.leaf then (bif b.leaf then (bif c.leaf then (bif d.leaf then allLeaf [] else false) else false) else false) else false) = true
    rw [ha, hb, hcc, hd]; rfl
  have hy : lay c0 0 (AV.agg [a, b, c, d]).cells = [a, b, c, d] := by
    match c0, hc with
    | [_, _, _, _], _ => rfl
  have hs := V.store (n := 4) (off := 0) (v := .agg [a, b, c, d]) rfl (by omega) hl
  rw [hy] at hs
  rw [u_of hs]
  have V' := var_put (h := h) id [a, b, c, d]
  simp only [resV, V'.load]
  rfl

/-- Digits, one by one. -/
theorem l24 {n a : Nat} {s : Str} {h : AHeap} {x4 : AV} {K : Kont} (hL : s.length + 2 < lim) (k : ∀ j, j = a + ((s.drop a).takeWhile digitB).length → p24_37 (callN E (n + 1)) (n + 1) (.str s) (.int .i64 (a : Int)) x4 (.int .i64 (j : Int)) h K = true) :
    ∀ (m i : Nat), a ≤ i → i ≤ s.length → s.length - i < m → i + ((s.drop i).takeWhile digitB).length = a + ((s.drop a).takeWhile digitB).length → l24_28 (callN E (n + 1)) (n + 1) m (.str s) (.int .i64 (a : Int)) x4 (.int .i64 (i : Int)) h K = true := by
  intro m
  induction m with
  | zero => intro i _ _ hm; omega
  | succ m ih =>
    intro i h0 hi hm he
    unfold l24_28 b24_28
    rw [o_slen, o_lss]
    by_cases hlt : i < s.length
    · rw [show decide ((i : Int) < (s.length : Int)) = true from decide_eq_true (by omega), g_tt, o_some, g_tt, o_some, g_tt, o_of (idxs_pk hlt), gc_tt]
      refine c32 ?_
      rw [drop_pk hlt, List.takeWhile_cons] at he
      show (optB (pickV _ (.bool (digitB (pk s i))) _) _) = true
      rw [k_t]
      cases hd : digitB (pk s i) with
      | true =>
        rw [hd, if_pos rfl, List.length_cons] at he
        rw [condB_true, o_of (inc64 (show i < lim by omega))]
        exact ih (i + 1) (by omega) (by omega) (by omega) (by omega)
      | false =>
        rw [hd] at he
        rw [condB_false]
        exact k i (by simpa using he)
    · rw [show decide ((i : Int) < (s.length : Int)) = false from decide_eq_false (by omega), g_ft, g_ft, g_ft, gc_ft, k_f, condB_false]
      rw [List.drop_of_length_le (by omega)] at he
      exact k i (by simpa using he)
end Go.Proofs.Ytajjclkdggoobaa
