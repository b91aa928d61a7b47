/-
  LexExact, walked.
-/
import Derived.Test.YtajjclkdggoobaaN7
namespace Go.Proofs.Ytajjclkdggoobaa
open Go.Ab
set_option linter.unusedSimpArgs false
set_option linter.unusedVariables false

/-- What is read of a slice, in every heap to come. -/
theorem View.atE {h : AHeap} {n : Nat} {v : AV} {es : List (List AV)} (V : View h n v es) {i : Nat} {e : List AV} (hi : es[i]? = some e) :
    ∃ id g j, ∀ h', Ext h h' → (∀ k, iadrA h' n v (.int k (i : Int)) = some (.ptr id g j 0)) ∧ ∀ ag off m, loadA h' ag m (.ptr id g j off) = partA ag off m e := by
  rcases V with ⟨rfl, _⟩ | ⟨id, g, s, cap, ex, r, rfl, h2, h3, h4, h5, h6⟩
  · simp at hi
  · have hlt : i < es.length := (List.getElem?_eq_some_iff.1 hi).1
    refine ⟨id, g, s + i, fun h' e' => ?_⟩
    have h2' := e'.row h2
    refine ⟨fun k => ?_, fun ag off m => ?_⟩
    · have : rowSz h' id n = true := by simp only [rowSz, h2', nbeq_true]; exact h4
      simp only [iadrA, asNat_nat, nblt_true.2 hlt, this, Bool.and_self, cond_true]
    · have hn : nth r.es (s + i) = some e := by
        rw [nth_eq]
        rw [← h5, List.getElem?_take] at hi
        simp only [hlt, if_true, List.getElem?_drop] at hi
        exact hi
      simp only [loadA, h2', nble_true.2 h3, cond_true, hn]

theorem sg_t (o : Option AV) (u : AV) (r : Bool) : sameG (wantV (.bool true) true) o u r = sameB o u r := rfl
theorem sg_f (o : Option AV) (u : AV) (r : Bool) : sameG (wantV (.bool false) true) o u r = r := rfl
theorem eqbb (h : AHeap) (b : Bool) : eqV h true EqK.bool (.bool b) (.bool b) = some (.bool false) := by cases b <;> rfl
theorem neqi (k : IntKind) (z : Int) : binA .neq (.int k z) (.int k z) = some (.bool false) := by rw [binA_neq]; simp
theorem neqs (s : Str) : binA .neq (.str s) (.str s) = some (.bool false) := by rw [binA_sneq]; simp

theorem p54 {n : Nat} {h0 h : AHeap} {v : AV} {l : List Str} {i : Nat} {s : Str} {B6 : AV → AV → AHeap → Bool} {K : Kont} (W : View h0 1 v (l.map fun s => [.str s])) (hi : l[i]? = some s) (hb : ∀ b ∈ s, b < 256) (hn : 70000 < n) (e : Ext h0 h) (o : h.Ok)
    (k : ∀ h', Ext h h' → h'.Ok → p3_61 (callN E (n + 12)) (n + 12) B6 v (.int .i64 (i : Int)) h' K = true) : p3_54 (callN E (n + 12)) (n + 12) B6 v (.int .i64 (i : Int)) h K = true := by
  have hlim : most < lim := by decide
  have hm : most = 1099511627776 := rfl
  have he : (l.map fun s => [AV.str s])[i]? = some [.str s] := by rw [List.getElem?_map, hi]; rfl
  obtain ⟨id, g, j, q⟩ := View.atE W he
  have p1 : ∀ h', Ext h0 h' → iadrA h' 1 v (.int .i64 (i : Int)) = some (.ptr id g j 0) := fun h' e' => (q h' e').1 _
  have p3 : ∀ h', Ext h0 h' → loadA h' false 1 (.ptr id g j 0) = some (.str s) := fun h' e' => by rw [(q h' e').2]; rfl
  unfold p3_54
  rw [o_of (p1 h e), o_of (p3 h e), o_of (p1 h e), o_of (p3 h e)]
  refine c10 (n := n + 11) ?_
  show (sameB _ _ _) = true
  rw [sameB_of (p1 h e) (same_ptr _ _ _ _), sameB_of (p3 h e) (same_str _)]
  refine c11 (n := n + 10) o (by omega) fun h1 e1 o1 => ?_
  have E1 := e.trans e1
  show (optB _ _) = true
  rw [o_of (eqbb h1 _)]
  rw [g_ff, o_some, g_ff, o_some, g_ff, o_of (p1 h1 E1), g_ff, o_of (p3 h1 E1), g_ff, o_slen, g_ff, o_leq]
  by_cases hs : s.length ≤ 3000
  · rw [show decide ((s.length : Int) ≤ 3000) = true from decide_eq_true (by omega)]
    rw [g_ff, o_some, g_tt, o_some, g_tt, o_some, g_tt, o_of (p1 h1 E1), g_tt, o_of (p3 h1 E1), g_tt, o_some, g_tt, o_some, g_tt, o_of (p1 h1 E1), g_tt, o_of (p3 h1 E1), gc_tt]
    refine c12 (n := n + 8) o1 (by omega) hb (by omega) (by omega) fun h2 e2 o2 => ?_
    have E2 := E1.trans e2
    show (sameG _ _ _ _) = true
    rw [sg_t, sameB_of (p1 h2 E2) (same_ptr _ _ _ _), sg_t, sameB_of (p3 h2 E2) (same_str _), gc_tt]
    refine c13 (n := n + 11) o2 (by omega) hb (by omega) fun h3 e3 o3 => ?_
    show (optB _ _) = true
    rw [g_tt, o_of (neqs _), g_ff, k_t, k_f, condB_false]
    exact k h3 ((e1.trans e2).trans e3) o3
  · rw [show decide ((s.length : Int) ≤ 3000) = false from decide_eq_false (by omega)]
    rw [g_ff, o_some, g_ft, g_ft, g_ft, g_ft, g_ft, g_ft, g_ft, g_ft, gc_ft, sg_f, sg_f, gc_ft, g_ft, g_ff, k_f, k_f, condB_false]
    exact k h1 e1 o1

theorem l37 {n : Nat} {h : AHeap} {x0 x3 x4 x7 : AV} {ls : List Lx} {B6 : AV → AV → AHeap → Bool} {K : Kont} (W4 : View h 4 x4 (ls.map encL)) (W7 : View h 4 x7 (ls.map encL)) (hl : ls.length < 70000)
    (k : p3_54 (callN E n) n B6 x0 x3 h K = true) : ∀ (m i : Nat), i ≤ ls.length → ls.length - i < m → l3_37 (callN E n) n B6 m x0 x3 x4 x7 (.int .i64 (i : Int)) h K = true := by
  have hlim : 80000 < lim := by decide
  intro m
  induction m with
  | zero => intro i _ hm; omega
  | succ m ih =>
    intro i hi hm
    unfold l3_37 b3_37
    rw [o_of W4.len, o_lss, List.length_map]
    by_cases hlt : i < ls.length
    · rw [condB_t (decide_eq_true (by omega))]
      have he : (ls.map encL)[i]? = some (encL (ls[i]'hlt)) := by rw [List.getElem?_map, List.getElem?_eq_getElem hlt]; rfl
      obtain ⟨i4, g4, j4, a4, b4⟩ := W4.at he
      obtain ⟨i7, g7, j7, a7, b7⟩ := W7.at he
      generalize ls[i]'hlt = x at *
      have A0 : loadA h false 1 (.ptr i4 g4 j4 0) = some (.int .i64 (x.kind : Int)) := by rw [b4]; rfl
      have A1 : loadA h false 1 (.ptr i4 g4 j4 1) = some (.str x.text) := by rw [b4]; rfl
      have A2 : loadA h false 1 (.ptr i4 g4 j4 2) = some (.int .i64 (x.beg : Int)) := by rw [b4]; rfl
      have A3 : loadA h false 1 (.ptr i4 g4 j4 3) = some (.int .i64 (x.fin : Int)) := by rw [b4]; rfl
      have B0 : loadA h false 1 (.ptr i7 g7 j7 0) = some (.int .i64 (x.kind : Int)) := by rw [b7]; rfl
      have B1 : loadA h false 1 (.ptr i7 g7 j7 1) = some (.str x.text) := by rw [b7]; rfl
      have B2 : loadA h false 1 (.ptr i7 g7 j7 2) = some (.int .i64 (x.beg : Int)) := by rw [b7]; rfl
      have B3 : loadA h false 1 (.ptr i7 g7 j7 3) = some (.int .i64 (x.fin : Int)) := by rw [b7]; rfl
      have P4 := a4 .i64
      have P7 := a7 .i64
      rw [o_of P4, o_fadr0, o_of A0, o_of P7, o_fadr0, o_of B0, o_of (neqi _ _)]
      rw [g_ff, o_some, g_ff, o_some, g_ff, o_of P4, g_ff, o_fadr0, g_ff, o_of A1, g_ff, o_some, g_ff, o_some, g_ff, o_of P7, g_ff, o_fadr0, g_ff, o_of B1, g_ff, o_of (neqs _), k_f]
      rw [g_ff, o_some, g_ff, o_some, g_ff, o_of P4, g_ff, o_fadr0, g_ff, o_of A2, g_ff, o_some, g_ff, o_some, g_ff, o_of P7, g_ff, o_fadr0, g_ff, o_of B2, g_ff, o_of (neqi _ _), k_f]
      rw [g_ff, o_some, g_ff, o_some, g_ff, o_of P4, g_ff, o_fadr0, g_ff, o_of A3, g_ff, o_some, g_ff, o_some, g_ff, o_of P7, g_ff, o_fadr0, g_ff, o_of B3, g_ff, o_of (neqi _ _), k_f, condB_false]
      rw [o_of (inc64 (show i < lim by omega))]
      exact ih (i + 1) (by omega) (by omega)
    · rw [condB_f (decide_eq_false (by omega))]
      exact k

theorem lexF_len {s : Str} : ∀ (f a k : Nat) (l : List Lx), lexF f s a k = .ok l → l.length ≤ f
  | 0, a, k, l, h => by simp only [lexF] at h; cases h; simp
  | f + 1, a, k, l, h => by
    simp only [lexF] at h
    split at h
    · cases h; simp
    · split at h
      · cases h
      · split at h
        · cases h
        · split at h
          · cases h
          · rename_i hr
            cases h
            have := lexF_len f _ _ _ hr
            simp only [List.length_cons]; omega

/-- Both answers are the same. -/
theorem ans8_view (s : Str) : ∃ (ls : List Lx) (z w : Int), ls.length < 70000 ∧ ∀ h v, ans8 h v s → ∃ u, v = .tup [u, .int .i64 z, .int .i64 w] ∧ View h 4 u (ls.map encL) := by
  unfold ans8
  by_cases hl : 65536 < s.length
  · refine ⟨[], 0, 21, by simp, fun h v a => ?_⟩
    rw [if_pos hl] at a
    exact ⟨.nilSlc, a, View.nil _ _⟩
  · cases hr : lexS s with
    | error e =>
      refine ⟨[], e, 20, by simp, fun h v a => ?_⟩
      rw [if_neg hl] at a
      exact ⟨.nilSlc, a, View.nil _ _⟩
    | ok l =>
      refine ⟨l, 0, 0, ?_, fun h v a => ?_⟩
      · have := lexF_len _ _ _ _ hr
        omega
      · rw [if_neg hl] at a
        exact a

theorem p21 {n : Nat} {h0 h : AHeap} {v : AV} {l : List Str} {i : Nat} {s : Str} {B6 : AV → AV → AHeap → Bool} {K : Kont} (W : View h0 1 v (l.map fun s => [.str s])) (hi : l[i]? = some s) (hb : ∀ b ∈ s, b < 256) (hn : 70000 < n) (e : Ext h0 h) (o : h.Ok)
    (k : ∀ h', Ext h h' → h'.Ok → p3_61 (callN E (n + 12)) (n + 12) B6 v (.int .i64 (i : Int)) h' K = true) : p3_21 (callN E (n + 12)) (n + 12) B6 v (.int .i64 (i : Int)) h K = true := by
  have he : (l.map fun s => [AV.str s])[i]? = some [.str s] := by rw [List.getElem?_map, hi]; rfl
  obtain ⟨id, g, j, q⟩ := View.atE W he
  have p1 : ∀ h', Ext h0 h' → iadrA h' 1 v (.int .i64 (i : Int)) = some (.ptr id g j 0) := fun h' e' => (q h' e').1 _
  have p3 : ∀ h', Ext h0 h' → loadA h' false 1 (.ptr id g j 0) = some (.str s) := fun h' e' => by rw [(q h' e').2]; rfl
  obtain ⟨ls, z, w, hls, A⟩ := ans8_view s
  unfold p3_21
  rw [o_of (p1 h e), o_of (p3 h e)]
  refine c8 (n := n + 3) o hb (fun _ => by omega) (by omega) fun a h1 e1 o1 ha => ?_
  obtain ⟨u, rfl, U⟩ := A h1 a ha
  have E1 := e.trans e1
  show (optB _ _) = true
  rw [o_ext0, o_ext1, o_ext2, o_of (p1 h1 E1), o_of (p3 h1 E1)]
  refine c9 (n := n + 7) o1 hb (fun _ => by omega) fun a h2 e2 o2 ha => ?_
  obtain ⟨u', rfl, U'⟩ := A h2 a ha
  have U2 := U.ext e2
  show (optB _ _) = true
  rw [o_ext0, o_ext1, o_ext2, o_of (neqi _ _), g_ff, o_some, g_ff, o_some, g_ff, o_of (neqi _ _), k_f, g_ff, o_some, g_ff, o_of U2.len, g_ff, o_some, g_ff, o_of U'.len, g_ff, o_of (neqi _ _), k_f, condB_false]
  unfold p3_33
  refine l37 U2 U' hls ?_ (n + 12) 0 (by omega) (by omega)
  exact p54 W hi hb hn (E1.trans e2) o2 fun h' e' o' => k h' ((e1.trans e2).trans e') o'

theorem l3 {n : Nat} {h0 : AHeap} {v : AV} {l : List Str} {K : Kont} (W : View h0 1 v (l.map fun s => [.str s])) (hb : ∀ s ∈ l, ∀ b ∈ s, b < 256) (hn : 70000 < n) (k : ∀ h', Ext h0 h' → h'.Ok → K (.bool true) h' = true) :
    ∀ (m i : Nat) (h : AHeap), Ext h0 h → h.Ok → i ≤ 8 → 8 - i < m → l3_6 (callN E (n + 12)) (n + 12) m v (.int .i64 (i : Int)) h K = true := by
  have hlim : 3000 < lim := by decide
  intro m
  induction m with
  | zero => intro i h _ _ _ hm; omega
  | succ m ih =>
    intro i h e o hi hm
    unfold l3_6 b3_6
    have W' := W.ext e
    rw [o_of W'.len, o_lss, List.length_map]
    have fin : p3_62 (callN E (n + 12)) (n + 12) h K = true := by
      unfold p3_62
      exact c14 (n := n + 2) o (by omega) fun h' e' o' => k h' (e.trans e') o'
    by_cases hlt : i < l.length
    · rw [show decide ((i : Int) < (l.length : Int)) = true from decide_eq_true (by omega), g_tt, o_some, g_tt, o_lss, k_t]
      by_cases h8 : i < 8
      · rw [condB_t (decide_eq_true (by omega))]
        unfold p3_13
        have hs : l[i]? = some (l[i]'hlt) := List.getElem?_eq_getElem hlt
        have he : (l.map fun s => [AV.str s])[i]? = some [.str (l[i]'hlt)] := by rw [List.getElem?_map, hs]; rfl
        have hbs := hb _ (List.getElem_mem hlt)
        obtain ⟨id, g, j, p1, p2⟩ := W'.at he
        generalize l[i]'hlt = s at *
        have p3 : loadA h false 1 (.ptr id g j 0) = some (.str s) := by rw [p2]; rfl
        have nx : ∀ h', Ext h h' → h'.Ok → p3_61 (callN E (n + 12)) (n + 12) (fun x0 x3 h => l3_6 (callN E (n + 12)) (n + 12) m x0 x3 h K) v (.int .i64 (i : Int)) h' K = true := by
          intro h' e' o'
          unfold p3_61
          rw [o_of (inc64 (show i < lim by omega))]
          exact ih (i + 1) h' (e.trans e') o' (by omega) (by omega)
        have go := p21 (K := K) W hs hbs hn e o nx
        rw [o_of (p1 _), o_of p3, o_slen, o_gtr]
        by_cases hbig : 20000 < s.length
        · rw [show decide ((20000 : Int) < (s.length : Int)) = true from decide_eq_true (by omega), g_tt, o_some, g_tt, o_some, g_tt, o_of (p1 _), g_tt, o_of p3, g_tt, o_slen, g_tt, o_leq, k_t]
          by_cases hmid : s.length ≤ 65536
          · rw [condB_t (decide_eq_true (by omega))]
            exact nx h (Ext.refl _) o
          · rw [condB_f (decide_eq_false (by omega))]
            exact go
        · rw [show decide ((20000 : Int) < (s.length : Int)) = false from decide_eq_false (by omega), g_ft, g_ft, g_ft, g_ft, g_ft, g_ft, k_f, condB_false]
          exact go
      · rw [condB_f (decide_eq_false (by omega))]
        exact fin
    · rw [show decide ((i : Int) < (l.length : Int)) = false from decide_eq_false (by omega), g_ft, g_ft, k_f, condB_false]
      exact fin

theorem c3 {n : Nat} {h : AHeap} {v : AV} {l : List Str} {K : Kont} (ho : h.Ok) (W : View h 1 v (l.map fun s => [.str s])) (hb : ∀ s ∈ l, ∀ b ∈ s, b < 256) (hn : 70000 < n) (k : ∀ h', Ext h h' → h'.Ok → K (.bool true) h' = true) :
    callN E (n + 13) (.func 3) [v] h K = true := by
  apply d3
  unfold s3
  exact l3 W hb hn k (n + 12) 0 h (Ext.refl _) ho (by omega) (by omega)
end Go.Proofs.Ytajjclkdggoobaa
