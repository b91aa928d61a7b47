/-
  LexPlaces, walked: the law itself.
-/
import Derived.Test.YtajjclkdggoobaaM4
namespace Go.Proofs.Ytajjclkdggoobaa
open Go.Ab
set_option linter.unusedSimpArgs false
set_option linter.unusedVariables false

theorem c15 {n : Nat} {h : AHeap} {s : Str} {K : Kont} (hL : s.length + 2 < lim) (hn : s.length + 1 < n) (hs : skip false s = s.length) (k : K (.bool true) h = true) : callN E (n + 1) (.func 15) [.str s] h K = true := by
  apply d15
  unfold s15
  exact l15 hL (by omega) k n 0 (by omega) (by omega) (by rw [List.drop_zero]; omega)

theorem l45 {n : Nat} {h0 : AHeap} {s : Str} {x0 x3 u : AV} {x : List Lx} {B6 : AV → AV → AHeap → Bool} {K : Kont} (hb : ∀ b ∈ s, b < 256) (hs : s.length ≤ 2000) (hn : 5000 < n) (U : View h0 4 u (x.map encL))
    (kB : ∀ h', Ext h0 h' → h'.Ok → p4_81 (callN E (n + 9)) (n + 9) B6 x0 x3 h' K = true) :
    ∀ (m j a : Nat) (r : List Lx) (h : AHeap), Ext h0 h → h.Ok → x.drop j = r → r.length < m → j ≤ x.length → x.length < 3000 → Places s a r →
      l4_45 (callN E (n + 9)) (n + 9) B6 m x0 x3 (.str s) u (.int .i64 (a : Int)) (.int .i64 (j : Int)) h K = true := by
  have hlim : 10000 < lim := by decide
  intro m
  induction m with
  | zero => intro j a r h _ _ _ hm; omega
  | succ m ih =>
    intro j a r h e o hd hm hj hx P
    unfold l4_45 b4_45
    have U' := U.ext e
    rw [o_of U'.len, o_lss, List.length_map]
    cases r with
    | nil =>
      have hjl : j = x.length := by
        have := congrArg List.length hd
        simp only [List.length_drop, List.length_nil] at this
        omega
      obtain ⟨P1, P2⟩ := P
      rw [condB_f (decide_eq_false (by omega))]
      unfold p4_74
      rw [o_of (slice_from P1)]
      have hlen : (s.drop a).length = s.length - a := by simp
      refine c15 (by omega) (by omega) P2 ?_
      show (optB (notA (.bool true)) _) = true
      rw [o_not]
      show (condB (.bool false) _ _) = true
      rw [condB_false]
      exact kB h e o
    | cons y r =>
      have hjl : j < x.length := by
        have := congrArg List.length hd
        simp only [List.length_drop, List.length_cons] at this
        omega
      have hyj : x[j]? = some y := by
        have h1 := List.drop_eq_getElem_cons hjl
        rw [hd] at h1
        injection h1 with h2 h3
        rw [List.getElem?_eq_getElem hjl, ← h2]
      have hdr : x.drop (j + 1) = r := by
        have h1 := List.drop_eq_getElem_cons hjl
        rw [hd] at h1
        injection h1 with h2 h3
        exact h3.symm
      obtain ⟨P1, P2, P3, P4, P5, P6⟩ := P
      obtain ⟨i1, g1, j1, p1, q1⟩ := U'.at (i := j) (e := encL y) (by rw [List.getElem?_map, hyj]; rfl)
      have a0 : loadA h false 1 (.ptr i1 g1 j1 0) = some (.int .i64 (y.kind : Int)) := by rw [q1]; rfl
      have a1 : loadA h false 1 (.ptr i1 g1 j1 1) = some (.str y.text) := by rw [q1]; rfl
      have a2 : loadA h false 1 (.ptr i1 g1 j1 2) = some (.int .i64 (y.beg : Int)) := by rw [q1]; rfl
      have a3 : loadA h false 1 (.ptr i1 g1 j1 3) = some (.int .i64 (y.fin : Int)) := by rw [q1]; rfl
      rw [condB_t (decide_eq_true (by omega)), o_of (p1 _), o_fadr0, o_of a2, o_lss, show decide ((y.beg : Int) < (a : Int)) = false from decide_eq_false (by omega)]
      rw [g_ff, o_some, g_ff, o_some, g_ff, o_of (p1 _), g_ff, o_fadr0, g_ff, o_of a3, g_ff, o_some, g_ff, o_some, g_ff, o_of (p1 _), g_ff, o_fadr0, g_ff, o_of a2, g_ff, o_leq, show decide ((y.fin : Int) ≤ (y.beg : Int)) = false from decide_eq_false (by omega), k_f]
      rw [g_ff, o_some, g_ff, o_some, g_ff, o_of (p1 _), g_ff, o_fadr0, g_ff, o_of a3, g_ff, o_some, g_ff, o_slen, g_ff, o_gtr, show decide ((s.length : Int) < (y.fin : Int)) = false from decide_eq_false (by omega), k_f]
      rw [g_ff, o_some, g_ff, o_some, g_ff, o_some, g_ff, o_some, g_ff, o_of (p1 _), g_ff, o_fadr0, g_ff, o_of a2, g_ff, o_of (slice_both P1 (by omega)), gc_ff]
      have hlen : ((s.take y.beg).drop a).length ≤ s.length := by simp; omega
      refine c15 (by omega) (by omega) P4 ?_
      show (optB (grdO _ (notA (.bool true))) _) = true
      rw [g_ff, o_not, show (!true) = false from rfl, k_f, condB_false, o_of (p1 _), o_fadr0, o_of a3, o_of (p1 _), o_fadr0, o_of a2, o_of (p1 _), o_fadr0, o_of a3, o_of (slice_both (Nat.le_of_lt P2) P3)]
      have hlen2 : ((s.take y.fin).drop y.beg).length ≤ s.length := by simp; omega
      refine c8 (n := n) o (fun c hc => hb c (List.mem_of_mem_take (List.mem_of_mem_drop hc))) (fun _ => by omega) (by omega) fun v h2 e2 o2 A => ?_
      have A := ans_small A (by omega)
      rw [P5] at A
      obtain ⟨w, rfl, W⟩ := A
      obtain ⟨i2, g2, j2, p2, q2⟩ := W.at (i := 0) (e := encL ⟨y.kind, y.text, 0, y.fin - y.beg⟩) rfl
      have p2' : iadrA h2 4 w (.int .i64 0) = some (.ptr i2 g2 j2 0) := p2 .i64
      have b0 : loadA h2 false 1 (.ptr i2 g2 j2 0) = some (.int .i64 (y.kind : Int)) := by rw [q2]; rfl
      have b1 : loadA h2 false 1 (.ptr i2 g2 j2 1) = some (.str y.text) := by rw [q2]; rfl
      obtain ⟨i3, g3, j3, p3, q3⟩ := (U'.ext e2).at (i := j) (e := encL y) (by rw [List.getElem?_map, hyj]; rfl)
      have c0 : loadA h2 false 1 (.ptr i3 g3 j3 0) = some (.int .i64 (y.kind : Int)) := by rw [q3]; rfl
      have c1 : loadA h2 false 1 (.ptr i3 g3 j3 1) = some (.str y.text) := by rw [q3]; rfl
      show (optB _ _) = true
      rw [o_ext0, o_ext1, o_ext2, o_of (show binA .neq (.int .i64 0) (AV.int .i64 0) = some (.bool false) from rfl)]
      rw [g_ff, o_some, g_ff, o_of W.len, g_ff, o_of (show binA .neq (.int .i64 (([⟨y.kind, y.text, 0, y.fin - y.beg⟩] : List Lx).map encL).length) (AV.int .i64 1) = some (.bool false) from rfl), k_f]
      rw [g_ff, o_some, g_ff, o_of p2', g_ff, o_fadr0, g_ff, o_of b0, g_ff, o_some, g_ff, o_some, g_ff, o_of (p3 _), g_ff, o_fadr0, g_ff, o_of c0, g_ff, o_nei, decide_eq_true rfl, show (!true) = false from rfl, k_f]
      rw [g_ff, o_some, g_ff, o_of p2', g_ff, o_fadr0, g_ff, o_of b1, g_ff, o_some, g_ff, o_some, g_ff, o_of (p3 _), g_ff, o_fadr0, g_ff, o_of c1, g_ff, o_nes, k_f, condB_false]
      rw [o_of (inc64 (show j < lim by omega))]
      exact ih (j + 1) y.fin r h2 (e.trans e2) o2 hdr (by simp only [List.length_cons] at hm; omega) (by omega) hx P6

theorem p4 {n : Nat} {h : AHeap} {s : Str} {x0 x3 : AV} {B6 : AV → AV → AHeap → Bool} {K : Kont} (ho : h.Ok) (hb : ∀ b ∈ s, b < 256) (hs : s.length ≤ 2000) (hn : 5000 < n)
    (kB : ∀ h', Ext h h' → h'.Ok → p4_81 (callN E (n + 9)) (n + 9) B6 x0 x3 h' K = true) : p4_23 (callN E (n + 9)) (n + 9) B6 x0 x3 (.str s) h K = true := by
  have hlim : 10000 < lim := by decide
  unfold p4_23
  refine c8 (n := n) ho hb (fun _ => by omega) (by omega) fun v1 h1 e1 o1 A1 => ?_
  have A1 := ans_small A1 (by omega)
  cases hA : lexS s with
  | error ea =>
    rw [hA] at A1
    have A1' : v1 = .tup [.nilSlc, .int .i64 (ea : Int), .int .i64 20] := A1
    subst A1'
    have hA' := hA
    rw [lexS_eq (by omega)] at hA'
    have he := lexL_err _ _ _ _ hA'
    show (optB _ _) = true
    rw [o_ext0, o_ext1, o_ext2, o_of (show binA .neq (.int .i64 20) (AV.int .i64 0) = some (.bool true) from rfl), condB_true, o_of (show binA .neq (.int .i64 20) (AV.int .i64 20) = some (.bool false) from rfl)]
    rw [g_ff, o_some, g_ff, o_lss, show decide ((ea : Int) < 0) = false from decide_eq_false (by omega), k_f]
    rw [g_ff, o_some, g_ff, o_some, g_ff, o_slen, g_ff, o_geq, show decide ((s.length : Int) ≤ (ea : Int)) = false from decide_eq_false (by omega), k_f]
    rw [g_ff, o_some, g_ff, o_of (show lenA h1 1 .nilSlc = some (.int .i64 0) from rfl), g_ff, o_of (show binA .gtr (.int .i64 0) (AV.int .i64 0) = some (.bool false) from rfl), k_f, condB_false]
    exact kB h1 e1 o1
  | ok x =>
    rw [hA] at A1
    obtain ⟨u, rfl, U⟩ := A1
    rw [lexS_eq (by omega)] at hA
    have hx := lexL_beg _ _ _ _ hA
    have P := lexL_places (s := s) (by omega) (s.length + 1) 0 x (by omega) (by omega) (by rw [List.drop_zero]; exact hA)
    show (optB _ _) = true
    rw [o_ext0, o_ext1, o_ext2, o_of (show binA .neq (.int .i64 0) (AV.int .i64 0) = some (.bool false) from rfl), condB_false]
    unfold p4_39
    exact l45 hb hs hn U (fun h' e' o' => kB h' (e1.trans e') o') (n + 9) 0 0 x h1 (Ext.refl _) o1 (by rw [List.drop_zero]) (by omega) (by omega) (by omega) P

theorem l4 {n : Nat} {h0 : AHeap} {v : AV} {l : List Str} {K : Kont} (W : View h0 1 v (l.map fun s => [.str s])) (hb : ∀ s ∈ l, ∀ b ∈ s, b < 256) (hn : 5000 < n) (k : ∀ h', Ext h0 h' → h'.Ok → K (.bool true) h' = true) :
    ∀ (m i : Nat) (h : AHeap), Ext h0 h → h.Ok → i ≤ 8 → 8 - i < m → l4_6 (callN E (n + 10)) (n + 10) m v (.int .i64 (i : Int)) h K = true := by
  have hlim : 3000 < lim := by decide
  intro m
  induction m with
  | zero => intro i h _ _ _ hm; omega
  | succ m ih =>
    intro i h e o hi hm
    unfold l4_6 b4_6
    have W' := W.ext e
    rw [o_of W'.len, o_lss, List.length_map]
    have fin : p4_82 (callN E (n + 10)) (n + 10) h K = true := by
      unfold p4_82
      exact c14 (n := n) o (by omega) fun h' e' o' => k h' (e.trans e') o'
    by_cases hlt : i < l.length
    · rw [show decide ((i : Int) < (l.length : Int)) = true from decide_eq_true (by omega)]
      repeat first | rw [o_some] | rw [o_nilck] | rw [o_fadr0] | rw [o_slen] | rw [g_tt] | rw [g_ft] | rw [g_ff] | rw [g_tf] | rw [gc_tt] | rw [gc_ft] | rw [gc_ff] | rw [gc_tf] | rw [k_t] | rw [k_f] | rw [condB_true] | rw [condB_false] | rw [o_lss] | rw [o_geq] | rw [o_gtr] | rw [o_leq] | rw [o_not] | rw [o_ext0] | rw [o_ext1] | rw [gp_tt] | rw [gp_ft] | rw [gp_ff] | rw [gp_tf]
      by_cases h8 : i < 8
      · rw [show decide ((i : Int) < 8) = true from decide_eq_true (by omega)]
        repeat first | rw [o_some] | rw [o_nilck] | rw [o_fadr0] | rw [o_slen] | rw [g_tt] | rw [g_ft] | rw [g_ff] | rw [g_tf] | rw [gc_tt] | rw [gc_ft] | rw [gc_ff] | rw [gc_tf] | rw [k_t] | rw [k_f] | rw [condB_true] | rw [condB_false] | rw [o_lss] | rw [o_geq] | rw [o_gtr] | rw [o_leq] | rw [o_not] | rw [o_ext0] | rw [o_ext1] | rw [gp_tt] | rw [gp_ft] | rw [gp_ff] | rw [gp_tf]
        unfold p4_13
        have hs : l[i]? = some (l[i]'hlt) := List.getElem?_eq_getElem hlt
        have he : (l.map fun s => [AV.str s])[i]? = some [.str (l[i]'hlt)] := by rw [List.getElem?_map, hs]; rfl
        have hbs := hb _ (List.getElem_mem hlt)
        obtain ⟨id, g, j, p1, p2⟩ := W'.at he
        generalize l[i]'hlt = s at *
        have p3 : loadA h false 1 (.ptr id g j 0) = some (.str s) := by rw [p2]; rfl
        rw [o_of (p1 _), o_of p3, o_slen, o_gtr]
        have nx : ∀ h', Ext h h' → h'.Ok → p4_81 (callN E (n + 10)) (n + 10) (fun x0 x3 h => l4_6 (callN E (n + 10)) (n + 10) m x0 x3 h K) v (.int .i64 (i : Int)) h' K = true := by
          intro h' e' o'
          unfold p4_81
          rw [o_of (inc64 (show i < lim by omega))]
          exact ih (i + 1) h' (e.trans e') o' (by omega) (by omega)
        by_cases hbig : 2000 < s.length
        · rw [condB_t (decide_eq_true (by omega))]
          exact nx h (Ext.refl _) o
        · rw [condB_f (decide_eq_false (by omega))]
          exact p4 (n := n + 1) o hbs (by omega) (by omega) nx
      · rw [show decide ((i : Int) < 8) = false from decide_eq_false (by omega)]
        repeat first | rw [o_some] | rw [o_nilck] | rw [o_fadr0] | rw [o_slen] | rw [g_tt] | rw [g_ft] | rw [g_ff] | rw [g_tf] | rw [gc_tt] | rw [gc_ft] | rw [gc_ff] | rw [gc_tf] | rw [k_t] | rw [k_f] | rw [condB_true] | rw [condB_false] | rw [o_lss] | rw [o_geq] | rw [o_gtr] | rw [o_leq] | rw [o_not] | rw [o_ext0] | rw [o_ext1] | rw [gp_tt] | rw [gp_ft] | rw [gp_ff] | rw [gp_tf]
        exact fin
    · rw [show decide ((i : Int) < (l.length : Int)) = false from decide_eq_false (by omega)]
      repeat first | rw [o_some] | rw [o_nilck] | rw [o_fadr0] | rw [o_slen] | rw [g_tt] | rw [g_ft] | rw [g_ff] | rw [g_tf] | rw [gc_tt] | rw [gc_ft] | rw [gc_ff] | rw [gc_tf] | rw [k_t] | rw [k_f] | rw [condB_true] | rw [condB_false] | rw [o_lss] | rw [o_geq] | rw [o_gtr] | rw [o_leq] | rw [o_not] | rw [o_ext0] | rw [o_ext1] | rw [gp_tt] | rw [gp_ft] | rw [gp_ff] | rw [gp_tf]
      exact fin

theorem c4 {n : Nat} {h : AHeap} {v : AV} {l : List Str} {K : Kont} (ho : h.Ok) (W : View h 1 v (l.map fun s => [.str s])) (hb : ∀ s ∈ l, ∀ b ∈ s, b < 256) (hn : 5000 < n) (k : ∀ h', Ext h h' → h'.Ok → K (.bool true) h' = true) :
    callN E (n + 11) (.func 4) [v] h K = true := by
  apply d4
  unfold s4
  exact l4 W hb hn k (n + 10) 0 h (Ext.refl _) ho (by omega) (by omega)
end Go.Proofs.Ytajjclkdggoobaa
