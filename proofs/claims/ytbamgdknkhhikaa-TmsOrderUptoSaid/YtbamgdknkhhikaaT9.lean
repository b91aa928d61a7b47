/-
  TmsOrder, walked.
-/
import Derived.Test.YtbamgdknkhhikaaT8
namespace Go.Proofs.Ytbamgdknkhhikaa
open Go.Ab
set_option linter.unusedSimpArgs false
set_option linter.unusedVariables false

theorem c7 {n : Nat} {h : AHeap} {K : Kont} (k : K (.bool true) h = true) : callN E (n + 1) (.func 7) [] h K = true := k

section
variable {h0 h : AHeap} {τ : Nat → Tag} {T : TD} {nv : AV} {names : List Str} {i N : Nat} {K : Kont}

/-- All names are told in their order. -/
theorem l93 {b' : AV → AV → AV → AV → AHeap → Bool} {x1 x3 out : AV} {vs : List (AV × Nat × Nat)} {b : Nat} {i0 : Nat} (I : OI h0 h τ T nv names i0) (hl : names.length < lim - 5) (hi : i < 1000)
    (O : Outs (fun _ _ _ _ v => v = .nilSlc) b h out T.cs vs)
    (k : b' x1 x3 nv (.int .i64 ((i + 1 : Nat) : Int)) h = true) :
    ∀ m j, names.length - j < m → j ≤ names.length → l4_93 (callN E (N + 4)) (N + 4) b' m x1 x3 nv (.int .i64 (i : Int)) out (.int .i64 (j : Int)) h K = true := by
  have hlm : lim = 4611686018427387904 := rfl
  have nl := I.len
  have VL : lenA h 1 out = some (.int .i64 (names.length : Int)) := by have := O.own.view.len; rwa [outE_len O.len, ← nl] at this
  have VN := I.own.view
  intro m
  induction m with
  | zero => intro j hm; omega
  | succ m ih =>
    intro j hm hj
    unfold l4_93 b4_93
    repeat first | with_reducible refine z_nil ?_ | with_reducible refine z_fadr ?_ | with_reducible refine z_some ?_ | with_reducible refine z_ext0 ?_ | with_reducible refine z_ext1 ?_ | with_reducible refine z_notT ?_ | with_reducible refine z_notF ?_ | with_reducible refine z_cT ?_ | with_reducible refine z_cF ?_ | with_reducible refine z_gtt ?_ | with_reducible refine z_gff ?_ | with_reducible refine z_gtf ?_ | with_reducible refine z_gft ?_ | with_reducible refine z_ptt ?_ | with_reducible refine z_pff ?_ | with_reducible refine z_ptf ?_ | with_reducible refine z_pft ?_ | with_reducible refine z_rtt ?_ | with_reducible refine z_rff ?_ | with_reducible refine z_rtf ?_ | with_reducible refine z_rft ?_ | with_reducible refine z_kt ?_ | with_reducible refine z_kf ?_ | with_reducible refine z_lss ?_ | with_reducible refine z_gtr ?_ | with_reducible refine z_leq ?_ | with_reducible refine z_geq ?_ | with_reducible refine z_eql ?_ | with_reducible refine z_neq ?_ | with_reducible refine z_seq ?_ | with_reducible refine z_sne ?_ | with_reducible refine z_slen ?_ | with_reducible refine z_eqp ?_ | with_reducible refine z_eqn ?_ | with_reducible refine z_cv ?_ | refine z_of VL ?_
    by_cases hlt : j < names.length
    · refine z_ct (decide_eq_true (by omega)) ?_
      have hp := List.getElem?_eq_getElem (show j < T.cs.length by omega)
      have hu := List.getElem?_eq_getElem (show j < vs.length by rw [O.len]; omega)
      have ho : (outE T.cs vs)[j]? = some [.str (T.cs[j]'(by omega)).2.cls, (vs[j]'(by rw [O.len]; omega)).1] := by
        unfold outE; rw [List.getElem?_zipWith, hp, hu]
      obtain ⟨id, g, q, p1, p2⟩ := O.own.view.at1 ho
      have hn := I.at hp
      obtain ⟨id', g', q', p1', p2'⟩ := VN.at1 (i := j) (e := [.str (T.cs[j]'(by omega)).2.cls]) (by rw [encS, List.getElem?_map, hn]; rfl)
      have r1 : loadA h false 1 (.ptr id g q 0) = some (.str (T.cs[j]'(by omega)).2.cls) := by rw [p2]; rfl
      have r2 : loadA h false 1 (.ptr id' g' q' 0) = some (.str (T.cs[j]'(by omega)).2.cls) := by rw [p2']; rfl
      repeat first | with_reducible refine z_nil ?_ | with_reducible refine z_fadr ?_ | with_reducible refine z_some ?_ | with_reducible refine z_ext0 ?_ | with_reducible refine z_ext1 ?_ | with_reducible refine z_notT ?_ | with_reducible refine z_notF ?_ | with_reducible refine z_cT ?_ | with_reducible refine z_cF ?_ | with_reducible refine z_gtt ?_ | with_reducible refine z_gff ?_ | with_reducible refine z_gtf ?_ | with_reducible refine z_gft ?_ | with_reducible refine z_ptt ?_ | with_reducible refine z_pff ?_ | with_reducible refine z_ptf ?_ | with_reducible refine z_pft ?_ | with_reducible refine z_rtt ?_ | with_reducible refine z_rff ?_ | with_reducible refine z_rtf ?_ | with_reducible refine z_rft ?_ | with_reducible refine z_kt ?_ | with_reducible refine z_kf ?_ | with_reducible refine z_lss ?_ | with_reducible refine z_gtr ?_ | with_reducible refine z_leq ?_ | with_reducible refine z_geq ?_ | with_reducible refine z_eql ?_ | with_reducible refine z_neq ?_ | with_reducible refine z_seq ?_ | with_reducible refine z_sne ?_ | with_reducible refine z_slen ?_ | with_reducible refine z_eqp ?_ | with_reducible refine z_eqn ?_ | with_reducible refine z_cv ?_ | refine z_of (p1 .i64) ?_ | refine z_of r1 ?_ | refine z_of (p1' .i64) ?_ | refine z_of r2 ?_
      refine z_cf (by simp) ?_
      repeat first | with_reducible refine z_nil ?_ | with_reducible refine z_fadr ?_ | with_reducible refine z_some ?_ | with_reducible refine z_ext0 ?_ | with_reducible refine z_ext1 ?_ | with_reducible refine z_notT ?_ | with_reducible refine z_notF ?_ | with_reducible refine z_cT ?_ | with_reducible refine z_cF ?_ | with_reducible refine z_gtt ?_ | with_reducible refine z_gff ?_ | with_reducible refine z_gtf ?_ | with_reducible refine z_gft ?_ | with_reducible refine z_ptt ?_ | with_reducible refine z_pff ?_ | with_reducible refine z_ptf ?_ | with_reducible refine z_pft ?_ | with_reducible refine z_rtt ?_ | with_reducible refine z_rff ?_ | with_reducible refine z_rtf ?_ | with_reducible refine z_rft ?_ | with_reducible refine z_kt ?_ | with_reducible refine z_kf ?_ | with_reducible refine z_lss ?_ | with_reducible refine z_gtr ?_ | with_reducible refine z_leq ?_ | with_reducible refine z_geq ?_ | with_reducible refine z_eql ?_ | with_reducible refine z_neq ?_ | with_reducible refine z_seq ?_ | with_reducible refine z_sne ?_ | with_reducible refine z_slen ?_ | with_reducible refine z_eqp ?_ | with_reducible refine z_eqn ?_ | with_reducible refine z_cv ?_ | refine z_of (inc64 (i := j) (by omega)) ?_
      exact ih (j + 1) (by omega) (by omega)
    · refine z_cf (decide_eq_false (by omega)) ?_
      unfold p4_110
      repeat first | with_reducible refine z_nil ?_ | with_reducible refine z_fadr ?_ | with_reducible refine z_some ?_ | with_reducible refine z_ext0 ?_ | with_reducible refine z_ext1 ?_ | with_reducible refine z_notT ?_ | with_reducible refine z_notF ?_ | with_reducible refine z_cT ?_ | with_reducible refine z_cF ?_ | with_reducible refine z_gtt ?_ | with_reducible refine z_gff ?_ | with_reducible refine z_gtf ?_ | with_reducible refine z_gft ?_ | with_reducible refine z_ptt ?_ | with_reducible refine z_pff ?_ | with_reducible refine z_ptf ?_ | with_reducible refine z_pft ?_ | with_reducible refine z_rtt ?_ | with_reducible refine z_rff ?_ | with_reducible refine z_rtf ?_ | with_reducible refine z_rft ?_ | with_reducible refine z_kt ?_ | with_reducible refine z_kf ?_ | with_reducible refine z_lss ?_ | with_reducible refine z_gtr ?_ | with_reducible refine z_leq ?_ | with_reducible refine z_geq ?_ | with_reducible refine z_eql ?_ | with_reducible refine z_neq ?_ | with_reducible refine z_seq ?_ | with_reducible refine z_sne ?_ | with_reducible refine z_slen ?_ | with_reducible refine z_eqp ?_ | with_reducible refine z_eqn ?_ | with_reducible refine z_cv ?_ | refine z_of (inc64 (i := i) (by omega)) ?_
      exact k

theorem p80 {b' : AV → AV → AV → AV → AHeap → Bool} {x1 : AV} (I : OI h0 h τ T nv names (i + 1)) (hi : i < 40) (hN : 100 ≤ N)
    (k : ∀ h', OI h0 h' τ T nv names (i + 1) → b' x1 (.ptr T.p 0 0 0) nv (.int .i64 ((i + 1 : Nat) : Int)) h' = true) :
    p4_80 (callN E (N + 4)) (N + 4) b' x1 (.ptr T.p 0 0 0) nv (.int .i64 (i : Int)) h K = true := by
  have hlm : lim = 4611686018427387904 := rfl
  have le := I.le
  have nl := I.len
  unfold p4_80
  refine c21 (n := N + 1) (G := fun _ _ _ _ v => v = .nilSlc) I.o I.w (by have := I.ca; omega) (by omega) (by omega) (fun k x hx h1 o1 e1 K' kk => ?_) (fun _ _ _ _ _ _ q _ => q) fun h' out vs b hb e' o' O => ?_
  · rw [(I.x hx).2]
    exact n40 (by omega) (kk h1 .nilSlc (Ext.refl _) o1 rfl rfl)
  · have I' := I.ext e' o'
    have VL : lenA h' 1 out = some (.int .i64 (names.length : Int)) := by have := O.own.view.len; rwa [outE_len O.len, ← nl] at this
    have VN : lenA h' 1 nv = some (.int .i64 (names.length : Int)) := by have := I'.own.view.len; rwa [encS, List.length_map] at this
    repeat first | with_reducible refine z_nil ?_ | with_reducible refine z_fadr ?_ | with_reducible refine z_some ?_ | with_reducible refine z_ext0 ?_ | with_reducible refine z_ext1 ?_ | with_reducible refine z_notT ?_ | with_reducible refine z_notF ?_ | with_reducible refine z_cT ?_ | with_reducible refine z_cF ?_ | with_reducible refine z_gtt ?_ | with_reducible refine z_gff ?_ | with_reducible refine z_gtf ?_ | with_reducible refine z_gft ?_ | with_reducible refine z_ptt ?_ | with_reducible refine z_pff ?_ | with_reducible refine z_ptf ?_ | with_reducible refine z_pft ?_ | with_reducible refine z_rtt ?_ | with_reducible refine z_rff ?_ | with_reducible refine z_rtf ?_ | with_reducible refine z_rft ?_ | with_reducible refine z_kt ?_ | with_reducible refine z_kf ?_ | with_reducible refine z_lss ?_ | with_reducible refine z_gtr ?_ | with_reducible refine z_leq ?_ | with_reducible refine z_geq ?_ | with_reducible refine z_eql ?_ | with_reducible refine z_neq ?_ | with_reducible refine z_seq ?_ | with_reducible refine z_sne ?_ | with_reducible refine z_slen ?_ | with_reducible refine z_eqp ?_ | with_reducible refine z_eqn ?_ | with_reducible refine z_cv ?_ | refine z_of VL ?_ | refine z_of VN ?_
    refine z_cf (by simp) ?_
    unfold p4_90
    exact l93 (b' := b') I' (by omega) (by omega) O (k h' I') (N + 4) 0 (by omega) (Nat.zero_le _)

theorem own_weak {a b n : Nat} {h : AHeap} {v : AV} {es : List (List AV)} (O : Own b h n v es) (l : a ≤ b) : Own a h n v es := by
  rcases O with q | ⟨id, r, w1, w⟩
  · exact .inl q
  · exact .inr ⟨id, r, by omega, w⟩

def others (l : List Str) (s : Str) : List Str := l.filter fun t => !decide (t = s)

theorem l51 {hs : AHeap} {b' : AV → AV → AV → AV → AHeap → Bool} {x1 x3 x5 : AV} {s : Str} (os : hs.Ok) (V : View hs 1 nv (encS names)) (hl : names.length < 1000)
    (kk : ∀ h' v', Ext hs h' → h'.Ok → Own hs.sz h' 1 v' (encS (others names s)) → p4_80 (callN E (N + 4)) (N + 4) b' x1 x3 v' x5 h' K = true) :
    ∀ m j h v, names.length - j < m → j ≤ names.length → Ext hs h → h.Ok → Own hs.sz h 1 v (encS (others (names.take j) s)) → l4_51 (callN E (N + 4)) (N + 4) b' m x1 x3 nv x5 (.str s) v (.int .i64 (j : Int)) h K = true := by
  have hlm : lim = 4611686018427387904 := rfl
  have hmo : most = 1099511627776 := rfl
  intro m
  induction m with
  | zero => intro j h v hm; omega
  | succ m ih =>
    intro j h v hm hj e o O
    unfold l4_51 b4_51
    have V1 := V.ext e
    have VL : lenA h 1 nv = some (.int .i64 (names.length : Int)) := by have := V1.len; rwa [encS, List.length_map] at this
    repeat first | with_reducible refine z_nil ?_ | with_reducible refine z_fadr ?_ | with_reducible refine z_some ?_ | with_reducible refine z_ext0 ?_ | with_reducible refine z_ext1 ?_ | with_reducible refine z_notT ?_ | with_reducible refine z_notF ?_ | with_reducible refine z_cT ?_ | with_reducible refine z_cF ?_ | with_reducible refine z_gtt ?_ | with_reducible refine z_gff ?_ | with_reducible refine z_gtf ?_ | with_reducible refine z_gft ?_ | with_reducible refine z_ptt ?_ | with_reducible refine z_pff ?_ | with_reducible refine z_ptf ?_ | with_reducible refine z_pft ?_ | with_reducible refine z_rtt ?_ | with_reducible refine z_rff ?_ | with_reducible refine z_rtf ?_ | with_reducible refine z_rft ?_ | with_reducible refine z_kt ?_ | with_reducible refine z_kf ?_ | with_reducible refine z_lss ?_ | with_reducible refine z_gtr ?_ | with_reducible refine z_leq ?_ | with_reducible refine z_geq ?_ | with_reducible refine z_eql ?_ | with_reducible refine z_neq ?_ | with_reducible refine z_seq ?_ | with_reducible refine z_sne ?_ | with_reducible refine z_slen ?_ | with_reducible refine z_eqp ?_ | with_reducible refine z_eqn ?_ | with_reducible refine z_cv ?_ | refine z_of VL ?_
    by_cases hlt : j < names.length
    · refine z_ct (decide_eq_true (by omega)) ?_
      have hci := List.getElem?_eq_getElem hlt
      obtain ⟨id, g, q, p1, p2⟩ := V1.at1 (i := j) (e := [.str names[j]]) (by rw [encS, List.getElem?_map, hci]; rfl)
      have q0 : loadA h false 1 (.ptr id g q 0) = some (.str names[j]) := by rw [p2]; rfl
      repeat first | with_reducible refine z_nil ?_ | with_reducible refine z_fadr ?_ | with_reducible refine z_some ?_ | with_reducible refine z_ext0 ?_ | with_reducible refine z_ext1 ?_ | with_reducible refine z_notT ?_ | with_reducible refine z_notF ?_ | with_reducible refine z_cT ?_ | with_reducible refine z_cF ?_ | with_reducible refine z_gtt ?_ | with_reducible refine z_gff ?_ | with_reducible refine z_gtf ?_ | with_reducible refine z_gft ?_ | with_reducible refine z_ptt ?_ | with_reducible refine z_pff ?_ | with_reducible refine z_ptf ?_ | with_reducible refine z_pft ?_ | with_reducible refine z_rtt ?_ | with_reducible refine z_rff ?_ | with_reducible refine z_rtf ?_ | with_reducible refine z_rft ?_ | with_reducible refine z_kt ?_ | with_reducible refine z_kf ?_ | with_reducible refine z_lss ?_ | with_reducible refine z_gtr ?_ | with_reducible refine z_leq ?_ | with_reducible refine z_geq ?_ | with_reducible refine z_eql ?_ | with_reducible refine z_neq ?_ | with_reducible refine z_seq ?_ | with_reducible refine z_sne ?_ | with_reducible refine z_slen ?_ | with_reducible refine z_eqp ?_ | with_reducible refine z_eqn ?_ | with_reducible refine z_cv ?_ | refine z_of (p1 .i64) ?_ | refine z_of q0 ?_
      have hstep : others (names.take (j + 1)) s = others (names.take j) s ++ if names[j] = s then [] else [names[j]] := by
        unfold others
        rw [List.take_succ_eq_append_getElem hlt, List.filter_append]
        by_cases e : names[j] = s <;> simp [e]
      by_cases e1 : names[j] = s
      · have : (!decide (names[j] = s)) = false := by simp [e1]
        rw [this]
        refine z_cF ?_
        unfold p4_65
        repeat first | with_reducible refine z_nil ?_ | with_reducible refine z_fadr ?_ | with_reducible refine z_some ?_ | with_reducible refine z_ext0 ?_ | with_reducible refine z_ext1 ?_ | with_reducible refine z_notT ?_ | with_reducible refine z_notF ?_ | with_reducible refine z_cT ?_ | with_reducible refine z_cF ?_ | with_reducible refine z_gtt ?_ | with_reducible refine z_gff ?_ | with_reducible refine z_gtf ?_ | with_reducible refine z_gft ?_ | with_reducible refine z_ptt ?_ | with_reducible refine z_pff ?_ | with_reducible refine z_ptf ?_ | with_reducible refine z_pft ?_ | with_reducible refine z_rtt ?_ | with_reducible refine z_rff ?_ | with_reducible refine z_rtf ?_ | with_reducible refine z_rft ?_ | with_reducible refine z_kt ?_ | with_reducible refine z_kf ?_ | with_reducible refine z_lss ?_ | with_reducible refine z_gtr ?_ | with_reducible refine z_leq ?_ | with_reducible refine z_geq ?_ | with_reducible refine z_eql ?_ | with_reducible refine z_neq ?_ | with_reducible refine z_seq ?_ | with_reducible refine z_sne ?_ | with_reducible refine z_slen ?_ | with_reducible refine z_eqp ?_ | with_reducible refine z_eqn ?_ | with_reducible refine z_cv ?_ | refine z_of (inc64 (i := j) (by omega)) ?_
        refine ih (j + 1) h v (by omega) (by omega) e o ?_
        rw [hstep, if_pos e1, List.append_nil]; exact O
      · have : (!decide (names[j] = s)) = true := by simp [e1]
        rw [this]
        refine z_cT ?_
        repeat first | with_reducible refine z_nil ?_ | with_reducible refine z_fadr ?_ | with_reducible refine z_some ?_ | with_reducible refine z_ext0 ?_ | with_reducible refine z_ext1 ?_ | with_reducible refine z_notT ?_ | with_reducible refine z_notF ?_ | with_reducible refine z_cT ?_ | with_reducible refine z_cF ?_ | with_reducible refine z_gtt ?_ | with_reducible refine z_gff ?_ | with_reducible refine z_gtf ?_ | with_reducible refine z_gft ?_ | with_reducible refine z_ptt ?_ | with_reducible refine z_pff ?_ | with_reducible refine z_ptf ?_ | with_reducible refine z_pft ?_ | with_reducible refine z_rtt ?_ | with_reducible refine z_rff ?_ | with_reducible refine z_rtf ?_ | with_reducible refine z_rft ?_ | with_reducible refine z_kt ?_ | with_reducible refine z_kf ?_ | with_reducible refine z_lss ?_ | with_reducible refine z_gtr ?_ | with_reducible refine z_leq ?_ | with_reducible refine z_geq ?_ | with_reducible refine z_eql ?_ | with_reducible refine z_neq ?_ | with_reducible refine z_seq ?_ | with_reducible refine z_sne ?_ | with_reducible refine z_slen ?_ | with_reducible refine z_eqp ?_ | with_reducible refine z_eqn ?_ | with_reducible refine z_cv ?_ | refine z_of (p1 .i64) ?_ | refine z_of q0 ?_
        obtain ⟨w, h1, b1, b2, e2, o2, z2, _⟩ := bslice1_v (sz := 1) (z := [AV.str []]) (v := .str names[j]) o rfl (by decide) (by decide) rfl rfl rfl
        refine z_p b1 ?_
        have e02 := ext_two e e2
        have hlo : (encS (others (names.take j) s)).length ≤ names.length := by
          simp only [encS, List.length_map, others]
          exact Nat.le_trans (List.length_filter_le _ _) (by rw [List.length_take]; omega)
        obtain ⟨v', h2, a1, a2, a3, a4, a5, a6⟩ := own_app2 (bytes := 16) (O.ext e2) (by decide) e02.1 o2 os e02 (Nat.le_refl _) b2.src (by simp; omega) (by simp; omega)
        refine z_p a1 ?_
        unfold p4_65
        repeat first | with_reducible refine z_nil ?_ | with_reducible refine z_fadr ?_ | with_reducible refine z_some ?_ | with_reducible refine z_ext0 ?_ | with_reducible refine z_ext1 ?_ | with_reducible refine z_notT ?_ | with_reducible refine z_notF ?_ | with_reducible refine z_cT ?_ | with_reducible refine z_cF ?_ | with_reducible refine z_gtt ?_ | with_reducible refine z_gff ?_ | with_reducible refine z_gtf ?_ | with_reducible refine z_gft ?_ | with_reducible refine z_ptt ?_ | with_reducible refine z_pff ?_ | with_reducible refine z_ptf ?_ | with_reducible refine z_pft ?_ | with_reducible refine z_rtt ?_ | with_reducible refine z_rff ?_ | with_reducible refine z_rtf ?_ | with_reducible refine z_rft ?_ | with_reducible refine z_kt ?_ | with_reducible refine z_kf ?_ | with_reducible refine z_lss ?_ | with_reducible refine z_gtr ?_ | with_reducible refine z_leq ?_ | with_reducible refine z_geq ?_ | with_reducible refine z_eql ?_ | with_reducible refine z_neq ?_ | with_reducible refine z_seq ?_ | with_reducible refine z_sne ?_ | with_reducible refine z_slen ?_ | with_reducible refine z_eqp ?_ | with_reducible refine z_eqn ?_ | with_reducible refine z_cv ?_ | refine z_of (inc64 (i := j) (by omega)) ?_
        refine ih (j + 1) h2 v' (by omega) (by omega) a4 a3 ?_
        rw [hstep, if_neg e1]
        have : encS (others (names.take j) s ++ [names[j]]) = encS (others (names.take j) s) ++ [AV.cells (.str names[j])] := by simp [encS]; rfl
        rw [this]; exact a2
    · refine z_cf (decide_eq_false (by omega)) ?_
      rw [List.take_of_length_le (by omega)] at O
      exact kk h v e o O

/-- The i-th name. -/
def nameOf (i : Nat) : Str := [67, 48 + i % 5]

theorem tag_fr {τ' : Nat → Tag} (I : OI h0 h τ T nv names i) (ht : ∀ j, j < h.sz → τ' j = τ j) : (∀ j, j < h0.sz → τ' j = .out) ∧ ∀ j, inRow nv j → τ' j = .out :=
  ⟨fun j hj => by rw [ht j (by have := I.e.1; omega)]; exact I.t0 j hj, fun j hj => by rw [ht j (own_lt (own_low I.own) I.o.ok hj)]; exact I.tn j hj⟩

theorem rem5 (i : Nat) : binA .rem (.int .i64 (i : Int)) (.int .i64 5) = some (.int .i64 ((i % 5 : Nat) : Int)) := by
  rw [binA_ints _ _ _ _ rfl]
  have : (i : Int).tmod 5 = ((i % 5 : Nat) : Int) := by rw [Int.tmod_eq_emod_of_nonneg (by omega)]; omega
  show (bif ieqb 5 0 then none else some (AV.int .i64 ((i : Int).tmod 5))) = _
  rw [this]; rfl

theorem p33 {b' : AV → AV → AV → AV → AHeap → Bool} {a : Nat} {lv : AV} {l : List Stp} (k0 : h0.Ok) (VA : Var h0 a [lv]) (SL : SV h0 lv l) (I : OI h0 h τ T nv names i) (hi : i < 40) (hl : i < l.length) (hN : 100 ≤ N)
    (k : ∀ h' τ' T' nv' names', OI h0 h' τ' T' nv' names' (i + 1) → b' (.ptr a 0 0 0) (.ptr T'.p 0 0 0) nv' (.int .i64 ((i + 1 : Nat) : Int)) h' = true) :
    p4_33 (callN E (N + 4)) (N + 4) b' (.ptr a 0 0 0) (.ptr T.p 0 0 0) nv (.int .i64 (i : Int)) h K = true := by
  have hlm : lim = 4611686018427387904 := rfl
  have hmo : most = 1099511627776 := rfl
  have le := I.le
  have nl := I.len
  have hp : ∀ {τ' h' T' nv' names'}, T'.p = T.p → OI h0 h' τ' T' nv' names' (i + 1) → p4_80 (callN E (N + 4)) (N + 4) b' (.ptr a 0 0 0) (.ptr T.p 0 0 0) nv' (.int .i64 (i : Int)) h' K = true := fun {τ' h' T' nv' names'} e I' => by
    rw [← e]; exact p80 I' hi hN fun h'' I'' => k h'' τ' T' nv' names' I''
  unfold p4_33
  repeat first | with_reducible refine z_nil ?_ | with_reducible refine z_fadr ?_ | with_reducible refine z_some ?_ | with_reducible refine z_ext0 ?_ | with_reducible refine z_ext1 ?_ | with_reducible refine z_notT ?_ | with_reducible refine z_notF ?_ | with_reducible refine z_cT ?_ | with_reducible refine z_cF ?_ | with_reducible refine z_gtt ?_ | with_reducible refine z_gff ?_ | with_reducible refine z_gtf ?_ | with_reducible refine z_gft ?_ | with_reducible refine z_ptt ?_ | with_reducible refine z_pff ?_ | with_reducible refine z_ptf ?_ | with_reducible refine z_pft ?_ | with_reducible refine z_rtt ?_ | with_reducible refine z_rff ?_ | with_reducible refine z_rtf ?_ | with_reducible refine z_rft ?_ | with_reducible refine z_kt ?_ | with_reducible refine z_kf ?_ | with_reducible refine z_lss ?_ | with_reducible refine z_gtr ?_ | with_reducible refine z_leq ?_ | with_reducible refine z_geq ?_ | with_reducible refine z_eql ?_ | with_reducible refine z_neq ?_ | with_reducible refine z_seq ?_ | with_reducible refine z_sne ?_ | with_reducible refine z_slen ?_ | with_reducible refine z_eqp ?_ | with_reducible refine z_eqn ?_ | with_reducible refine z_cv ?_ | refine z_of (rem5 i) ?_
  refine c28 (n := N + 2) I.o.ok (by omega) fun h1 e1 o1 => ?_
  have I1 := I.ext e1 o1
  have a1 : binA .add (.str [67]) (.str [48 + i % 5]) = some (.str (nameOf i)) := rfl
  have b1 : buildV [AV.str [], AV.nilSlc] [(0, 1, .str (nameOf i))] = some (.agg [.str (nameOf i), .nilSlc]) := rfl
  repeat first | with_reducible refine z_nil ?_ | with_reducible refine z_fadr ?_ | with_reducible refine z_some ?_ | with_reducible refine z_ext0 ?_ | with_reducible refine z_ext1 ?_ | with_reducible refine z_notT ?_ | with_reducible refine z_notF ?_ | with_reducible refine z_cT ?_ | with_reducible refine z_cF ?_ | with_reducible refine z_gtt ?_ | with_reducible refine z_gff ?_ | with_reducible refine z_gtf ?_ | with_reducible refine z_gft ?_ | with_reducible refine z_ptt ?_ | with_reducible refine z_pff ?_ | with_reducible refine z_ptf ?_ | with_reducible refine z_pft ?_ | with_reducible refine z_rtt ?_ | with_reducible refine z_rff ?_ | with_reducible refine z_rtf ?_ | with_reducible refine z_rft ?_ | with_reducible refine z_kt ?_ | with_reducible refine z_kf ?_ | with_reducible refine z_lss ?_ | with_reducible refine z_gtr ?_ | with_reducible refine z_leq ?_ | with_reducible refine z_geq ?_ | with_reducible refine z_eql ?_ | with_reducible refine z_neq ?_ | with_reducible refine z_seq ?_ | with_reducible refine z_sne ?_ | with_reducible refine z_slen ?_ | with_reducible refine z_eqp ?_ | with_reducible refine z_eqn ?_ | with_reducible refine z_cv ?_ | refine z_of a1 ?_ | refine z_of b1 ?_
  obtain ⟨h2, c1, V2, e2, o2, z2⟩ := alloc_v (z := [AV.str [], AV.nilSlc]) o1 (by decide) rfl
  refine z_p c1 ?_
  obtain ⟨h3, w1, W, w3, o3, w5⟩ := V2.wrs o2 (n := 2) (v := .agg [.str (nameOf i), .nilSlc]) rfl rfl rfl
  refine z_u w1 ?_
  have W : Var h3 h1.sz [.str (nameOf i), .nilSlc] := W
  have e3 : Ext h1 h3 := w3.ext e2 o1 (Nat.le_refl _)
  have I3 := I1.ext e3 o3
  have L0 : loadA h3 false 1 (.ptr a 0 0 0) = some lv := (VA.ext I3.e).get rfl
  have SL3 := SL.ext I3.e
  have hci := List.getElem?_eq_getElem hl
  obtain ⟨id, g, q, e, p1, p2, R⟩ := SL3.at hci
  obtain ⟨vv, ev, nv', lv', rfl, _⟩ := R
  have q0 : loadA h3 false 1 (.ptr id g q 0) = some (.int .i64 (l[i]).op) := by rw [p2]; rfl
  have A3 : loadA h3 true 2 (.ptr h1.sz 0 0 0) = some (.agg [.str (nameOf i), .nilSlc]) := W.all rfl
  repeat first | with_reducible refine z_nil ?_ | with_reducible refine z_fadr ?_ | with_reducible refine z_some ?_ | with_reducible refine z_ext0 ?_ | with_reducible refine z_ext1 ?_ | with_reducible refine z_notT ?_ | with_reducible refine z_notF ?_ | with_reducible refine z_cT ?_ | with_reducible refine z_cF ?_ | with_reducible refine z_gtt ?_ | with_reducible refine z_gff ?_ | with_reducible refine z_gtf ?_ | with_reducible refine z_gft ?_ | with_reducible refine z_ptt ?_ | with_reducible refine z_pff ?_ | with_reducible refine z_ptf ?_ | with_reducible refine z_pft ?_ | with_reducible refine z_rtt ?_ | with_reducible refine z_rff ?_ | with_reducible refine z_rtf ?_ | with_reducible refine z_rft ?_ | with_reducible refine z_kt ?_ | with_reducible refine z_kf ?_ | with_reducible refine z_lss ?_ | with_reducible refine z_gtr ?_ | with_reducible refine z_leq ?_ | with_reducible refine z_geq ?_ | with_reducible refine z_eql ?_ | with_reducible refine z_neq ?_ | with_reducible refine z_seq ?_ | with_reducible refine z_sne ?_ | with_reducible refine z_slen ?_ | with_reducible refine z_eqp ?_ | with_reducible refine z_eqn ?_ | with_reducible refine z_cv ?_ | refine z_of L0 ?_ | refine z_of (p1 .i64) ?_ | refine z_of q0 ?_
  by_cases hop : (l[i]).op = 2
  · refine z_ct (decide_eq_true hop) ?_
    repeat first | with_reducible refine z_nil ?_ | with_reducible refine z_fadr ?_ | with_reducible refine z_some ?_ | with_reducible refine z_ext0 ?_ | with_reducible refine z_ext1 ?_ | with_reducible refine z_notT ?_ | with_reducible refine z_notF ?_ | with_reducible refine z_cT ?_ | with_reducible refine z_cF ?_ | with_reducible refine z_gtt ?_ | with_reducible refine z_gff ?_ | with_reducible refine z_gtf ?_ | with_reducible refine z_gft ?_ | with_reducible refine z_ptt ?_ | with_reducible refine z_pff ?_ | with_reducible refine z_ptf ?_ | with_reducible refine z_pft ?_ | with_reducible refine z_rtt ?_ | with_reducible refine z_rff ?_ | with_reducible refine z_rtf ?_ | with_reducible refine z_rft ?_ | with_reducible refine z_kt ?_ | with_reducible refine z_kf ?_ | with_reducible refine z_lss ?_ | with_reducible refine z_gtr ?_ | with_reducible refine z_leq ?_ | with_reducible refine z_geq ?_ | with_reducible refine z_eql ?_ | with_reducible refine z_neq ?_ | with_reducible refine z_seq ?_ | with_reducible refine z_sne ?_ | with_reducible refine z_slen ?_ | with_reducible refine z_eqp ?_ | with_reducible refine z_eqn ?_ | with_reducible refine z_cv ?_ | refine z_of A3 ?_
    refine c19 (n := N + 2) (k := (nameOf i, [])) (bad := false) I3.o I3.w (by have := I.cn; omega) (by have := I.cn; omega) rfl (fun h4 o4 _ K' kk => n38 (n := N + 2) o4 (by omega) kk) (fun h4 o4 _ K' kk => n35 (n := N) (by omega) (kk h4 (Ext.refl _) o4)) (fun h4 e4 o4 hc => ?_) fun x h4 T' hx _ O4 F4 L4 hn4 => ?_
    · have I4 := I3.ext e4 o4
      have hno : others names (nameOf i) = names := by
        unfold others
        rw [List.filter_eq_self]
        intro s hs
        rw [I4.nm] at hs
        obtain ⟨p, hp, rfl⟩ := List.mem_map.1 hs
        rcases hc with hc | hc
        · have := lkG_none.1 hc
          have hk := (I4.ks p hp).1
          simp only [Bool.not_eq_true', decide_eq_false_iff_not]
          intro q
          refine this ?_
          obtain ⟨⟨k', x⟩, hx, rfl⟩ := List.mem_map.1 hp
          have hk : k' = (x.cls, []) := hk
          have q : x.cls = nameOf i := q
          rw [q] at hk
          exact List.mem_map.2 ⟨_, hx, hk⟩
        · cases hc
      refine l51 o4 I4.own.view (by omega) (fun h' v' e' o' O' => ?_) (N + 4) 0 h4 .nilSlc (by omega) (Nat.zero_le _) (Ext.refl _) o4 (by simpa [others, encS] using Own.nil _ _ _)
      rw [hno] at O'
      exact hp rfl ⟨I4.o.ext e' o', I4.w, ext_two I4.e e', I4.t0, own_weak O' I4.e.1, fun j hj => I4.o.hi j (own_row O' hj), I4.nm, I4.ks, by have := I4.cn; omega, by have := I4.ca; omega⟩
    · have V4 := (I3.own_fr F4).view
      refine l51 O4.ok V4 (by omega) (fun h' v' e' o' O' => ?_) (N + 4) 0 h4 .nilSlc (by omega) (Nat.zero_le _) (Ext.refl _) O4.ok (by simpa [others, encS] using Own.nil _ _ _)
      have hE := I3.ext_fr k0 F4
      have hL := L4.one I3.w
      refine hp L4.p ⟨O4.ext e' o', L4.w, ext_two hE e', I3.t0, own_weak O' hE.1, fun j hj => O4.hi j (own_row O' hj), ?_, fun p hp => ?_, by have := I3.cn; omega, by have := I3.ca; have := L4.came; omega⟩
      · rw [hL, I3.nm]
        unfold others nmL
        rw [List.filter_map]
        congr 1
        refine List.filter_congr fun p hp => ?_
        have hk := (I3.ks p hp).1
        simp only [Function.comp_apply]
        rw [hk]
        simp only [Prod.mk.injEq, and_true]
      · rw [hL] at hp
        exact I3.ks p (List.mem_filter.1 hp).1
  · refine z_cf (decide_eq_false hop) ?_
    have b3 : buildV [AV.int IntKind.i64 0, AV.nilSlc, AV.nilSlc] [(0, 1, .int .i64 (i : Int))] = some (.agg [.int .i64 (i : Int), .nilSlc, .nilSlc]) := rfl
    repeat first | with_reducible refine z_nil ?_ | with_reducible refine z_fadr ?_ | with_reducible refine z_some ?_ | with_reducible refine z_ext0 ?_ | with_reducible refine z_ext1 ?_ | with_reducible refine z_notT ?_ | with_reducible refine z_notF ?_ | with_reducible refine z_cT ?_ | with_reducible refine z_cF ?_ | with_reducible refine z_gtt ?_ | with_reducible refine z_gff ?_ | with_reducible refine z_gtf ?_ | with_reducible refine z_gft ?_ | with_reducible refine z_ptt ?_ | with_reducible refine z_pff ?_ | with_reducible refine z_ptf ?_ | with_reducible refine z_pft ?_ | with_reducible refine z_rtt ?_ | with_reducible refine z_rff ?_ | with_reducible refine z_rtf ?_ | with_reducible refine z_rft ?_ | with_reducible refine z_kt ?_ | with_reducible refine z_kf ?_ | with_reducible refine z_lss ?_ | with_reducible refine z_gtr ?_ | with_reducible refine z_leq ?_ | with_reducible refine z_geq ?_ | with_reducible refine z_eql ?_ | with_reducible refine z_neq ?_ | with_reducible refine z_seq ?_ | with_reducible refine z_sne ?_ | with_reducible refine z_slen ?_ | with_reducible refine z_eqp ?_ | with_reducible refine z_eqn ?_ | with_reducible refine z_cv ?_ | refine z_of A3 ?_ | refine z_of b3 ?_
    refine c10 (n := N + 2) (k := (nameOf i, [])) (r := ((i : Int), [])) (cls := nameOf i) (b1 := false) (b2 := false) (G := fun _ _ _ v => v = .nilSlc) (GM := fun _ _ _ _ _ => True) I3.o (by have := I.cn; omega) (by have := I.ca; omega) rfl rfl rfl rfl rfl rfl
      (fun h4 o4 _ K' kk => n35 (n := N) (by omega) (kk h4 (Ext.refl _) o4)) (fun h4 o4 _ K' kk => n36 (n := N + 1) (by omega) (kk h4 (Ext.refl _) o4))
      (fun _ h4 o4 _ K' kk => n38 (n := N + 2) o4 (by omega) kk) (fun _ _ h4 o4 _ K' kk => n39 (n := N + 1) o4 (by omega) kk)
      (fun h4 o4 _ K' kk => n40 (n := N + 2) (by omega) (kk h4 .nilSlc (Ext.refl _) o4 rfl rfl rfl)) (fun h4 o4 _ K' kk => n41 (n := N + 2) o4 (by omega) fun h5 e5 o5 => kk h5 .nilSlc .nilSlc e5 o5 rfl rfl trivial)
      (fun _ _ _ _ _ q _ => q) (fun _ _ _ _ _ _ q _ => q) (fun hc => ?_) fun _ _ _ h4 τ' x y O4 Fs cx cy ht F4 => ?_
    · rcases hc with hc | hc | hc <;> cases hc
    · repeat first | with_reducible refine z_nil ?_ | with_reducible refine z_fadr ?_ | with_reducible refine z_some ?_ | with_reducible refine z_ext0 ?_ | with_reducible refine z_ext1 ?_ | with_reducible refine z_notT ?_ | with_reducible refine z_notF ?_ | with_reducible refine z_cT ?_ | with_reducible refine z_cF ?_ | with_reducible refine z_gtt ?_ | with_reducible refine z_gff ?_ | with_reducible refine z_gtf ?_ | with_reducible refine z_gft ?_ | with_reducible refine z_ptt ?_ | with_reducible refine z_pff ?_ | with_reducible refine z_ptf ?_ | with_reducible refine z_pft ?_ | with_reducible refine z_rtt ?_ | with_reducible refine z_rff ?_ | with_reducible refine z_rtf ?_ | with_reducible refine z_rft ?_ | with_reducible refine z_kt ?_ | with_reducible refine z_kf ?_ | with_reducible refine z_lss ?_ | with_reducible refine z_gtr ?_ | with_reducible refine z_leq ?_ | with_reducible refine z_geq ?_ | with_reducible refine z_eql ?_ | with_reducible refine z_neq ?_ | with_reducible refine z_seq ?_ | with_reducible refine z_sne ?_ | with_reducible refine z_slen ?_ | with_reducible refine z_eqp ?_ | with_reducible refine z_eqn ?_ | with_reducible refine z_cv ?_
      refine z_cf (by simp) ?_
      have hE := I3.ext_fr k0 F4
      have ON := I3.own_fr F4
      obtain ⟨t0', tn'⟩ := tag_fr I3 ht
      have hW := just_w I3.w Fs
      have VN := ON.view
      have hcn : (justT T ((nameOf i), []) ((i : Int), []) x y).n ≤ i + 1 := by have := just_n_le (T := T) (k := (nameOf i, [])) (r := ((i : Int), [])) (x0 := x) (y0 := y); have := I.cn; omega
      have hca : (justT T ((nameOf i), []) ((i : Int), []) x y).came ≤ 2 * (i + 1) := by have := just_came_le (T := T) (k := (nameOf i, [])) (r := ((i : Int), [])) (x0 := x) (y0 := y); have := I.ca; omega
      have key : ∀ {s}, s ∈ names → (s, ([] : Str)) ∈ T.cs.map fun p => p.1 := fun {s} hs => by
        rw [I.nm] at hs
        obtain ⟨p, hp, rfl⟩ := List.mem_map.1 hs
        have hk := (I.ks p hp).1
        rw [← mp_keys barC]
        exact List.mem_map.2 ⟨p, hp, hk⟩
      refine c29 (n := N + 3) (l := names) VN (by omega) (by omega) (fun hno => ?_) fun hyes j => ?_
      · repeat first | with_reducible refine z_nil ?_ | with_reducible refine z_fadr ?_ | with_reducible refine z_some ?_ | with_reducible refine z_ext0 ?_ | with_reducible refine z_ext1 ?_ | with_reducible refine z_notT ?_ | with_reducible refine z_notF ?_ | with_reducible refine z_cT ?_ | with_reducible refine z_cF ?_ | with_reducible refine z_gtt ?_ | with_reducible refine z_gff ?_ | with_reducible refine z_gtf ?_ | with_reducible refine z_gft ?_ | with_reducible refine z_ptt ?_ | with_reducible refine z_pff ?_ | with_reducible refine z_ptf ?_ | with_reducible refine z_pft ?_ | with_reducible refine z_rtt ?_ | with_reducible refine z_rff ?_ | with_reducible refine z_rtf ?_ | with_reducible refine z_rft ?_ | with_reducible refine z_kt ?_ | with_reducible refine z_kf ?_ | with_reducible refine z_lss ?_ | with_reducible refine z_gtr ?_ | with_reducible refine z_leq ?_ | with_reducible refine z_geq ?_ | with_reducible refine z_eql ?_ | with_reducible refine z_neq ?_ | with_reducible refine z_seq ?_ | with_reducible refine z_sne ?_ | with_reducible refine z_slen ?_ | with_reducible refine z_eqp ?_ | with_reducible refine z_eqn ?_ | with_reducible refine z_cv ?_
        refine z_ct (by decide) ?_
        have hnone : lkG T.cs (nameOf i, []) = none := by
          rw [lkG_none]
          intro q
          obtain ⟨⟨k', x'⟩, hx, e⟩ := List.mem_map.1 q
          have e : k' = (nameOf i, []) := e
          have hk := (I.x hx).1
          refine hno ?_
          rw [I.nm]
          refine List.mem_map.2 ⟨(k', barC x'), List.mem_map.2 ⟨_, hx, rfl⟩, ?_⟩
          show x'.cls = _
          rw [hk] at e
          exact (Prod.mk.inj e).1
        obtain ⟨cc, lo, hi', cg, _⟩ := cx hnone
        obtain ⟨w, h5, q1, q2, e5, o5, z5, _⟩ := bslice1_v (sz := 1) (z := [AV.str []]) (v := .str (nameOf i)) O4.ok rfl (by decide) (by decide) rfl rfl rfl
        refine z_p q1 ?_
        have hE5 := ext_two hE e5
        obtain ⟨v', h6, r1, r2, r3, r4, r5, r6⟩ := own_app2 (bytes := 16) (ON.ext e5) (by decide) hE5.1 o5 k0 hE5 (Nat.le_refl _) q2.src (by simp [encS]; omega) (by simp [encS]; omega)
        refine z_p r1 ?_
        have O6 := (O4.ext e5 o5).fr r5 r3 fun j hj w => by rw [tn' j hj] at w; exact w
        have hl' : mp barC (justT T ((nameOf i), []) ((i : Int), []) x y).cs = mp barC T.cs ++ [((nameOf i, []), barC x)] := putG_none barC (fun _ _ => rfl) hnone
        have hen : encS (names ++ [nameOf i]) = encS names ++ [AV.cells (.str (nameOf i))] := by simp [encS]; rfl
        refine hp (T' := justT T ((nameOf i), []) ((i : Int), []) x y) (names' := names ++ [nameOf i]) rfl ⟨O6, hW, r4, t0', by rw [hen]; exact r2, fun j hj => (r6 j hj).elim (tn' j) fun q => by rw [q]; exact O4.hi _ e5.1, ?_, fun p hp => ?_, hcn, hca⟩
        · rw [hl', I.nm]
          unfold nmL
          rw [List.map_append]
          show _ = _ ++ [x.cls]
          rw [cc]
        · rw [hl'] at hp
          rcases List.mem_append.1 hp with hp | hp
          · exact I.ks p hp
          · simp only [List.mem_singleton] at hp
            subst hp
            exact ⟨by show (nameOf i, []) = (x.cls, []); rw [cc], cg⟩
      · repeat first | with_reducible refine z_nil ?_ | with_reducible refine z_fadr ?_ | with_reducible refine z_some ?_ | with_reducible refine z_ext0 ?_ | with_reducible refine z_ext1 ?_ | with_reducible refine z_notT ?_ | with_reducible refine z_notF ?_ | with_reducible refine z_cT ?_ | with_reducible refine z_cF ?_ | with_reducible refine z_gtt ?_ | with_reducible refine z_gff ?_ | with_reducible refine z_gtf ?_ | with_reducible refine z_gft ?_ | with_reducible refine z_ptt ?_ | with_reducible refine z_pff ?_ | with_reducible refine z_ptf ?_ | with_reducible refine z_pft ?_ | with_reducible refine z_rtt ?_ | with_reducible refine z_rff ?_ | with_reducible refine z_rtf ?_ | with_reducible refine z_rft ?_ | with_reducible refine z_kt ?_ | with_reducible refine z_kf ?_ | with_reducible refine z_lss ?_ | with_reducible refine z_gtr ?_ | with_reducible refine z_leq ?_ | with_reducible refine z_geq ?_ | with_reducible refine z_eql ?_ | with_reducible refine z_neq ?_ | with_reducible refine z_seq ?_ | with_reducible refine z_sne ?_ | with_reducible refine z_slen ?_ | with_reducible refine z_eqp ?_ | with_reducible refine z_eqn ?_ | with_reducible refine z_cv ?_
        refine z_cf (decide_eq_false (by omega)) ?_
        have hsome : ∃ x', lkG T.cs (nameOf i, []) = some x' := by
          cases e : lkG T.cs (nameOf i, []) with
          | some x' => exact ⟨x', rfl⟩
          | none => rw [lkG_none] at e; exact absurd (key hyes) e
        obtain ⟨x', hx'⟩ := hsome
        have hl' : mp barC (justT T ((nameOf i), []) ((i : Int), []) x y).cs = mp barC T.cs := putG_some barC (fun _ _ => rfl) hx'
        exact hp (T' := justT T ((nameOf i), []) ((i : Int), []) x y) rfl ⟨O4, hW, hE, t0', ON, tn', by rw [hl']; exact I.nm, fun p hp => I.ks p (by rw [hl'] at hp; exact hp), hcn, hca⟩

theorem l4 {a : Nat} {lv : AV} {l : List Stp} (k0 : h0.Ok) (VA : Var h0 a [lv]) (SL : SV h0 lv l) (hN : 100 ≤ N) (kk : ∀ h, K (.bool true) h = true) :
    ∀ m i h τ T nv names, 40 - i < m → i ≤ 40 → OI h0 h τ T nv names i → l4_26 (callN E (N + 4)) (N + 4) m (.ptr a 0 0 0) (.ptr T.p 0 0 0) nv (.int .i64 (i : Int)) h K = true := by
  intro m
  induction m with
  | zero => intro i h τ T nv names hm; omega
  | succ m ih =>
    intro i h τ T nv names hm hi I
    unfold l4_26 b4_26
    have L0 : loadA h false 1 (.ptr a 0 0 0) = some lv := (VA.ext I.e).get rfl
    repeat first | with_reducible refine z_nil ?_ | with_reducible refine z_fadr ?_ | with_reducible refine z_some ?_ | with_reducible refine z_ext0 ?_ | with_reducible refine z_ext1 ?_ | with_reducible refine z_notT ?_ | with_reducible refine z_notF ?_ | with_reducible refine z_cT ?_ | with_reducible refine z_cF ?_ | with_reducible refine z_gtt ?_ | with_reducible refine z_gff ?_ | with_reducible refine z_gtf ?_ | with_reducible refine z_gft ?_ | with_reducible refine z_ptt ?_ | with_reducible refine z_pff ?_ | with_reducible refine z_ptf ?_ | with_reducible refine z_pft ?_ | with_reducible refine z_rtt ?_ | with_reducible refine z_rff ?_ | with_reducible refine z_rtf ?_ | with_reducible refine z_rft ?_ | with_reducible refine z_kt ?_ | with_reducible refine z_kf ?_ | with_reducible refine z_lss ?_ | with_reducible refine z_gtr ?_ | with_reducible refine z_leq ?_ | with_reducible refine z_geq ?_ | with_reducible refine z_eql ?_ | with_reducible refine z_neq ?_ | with_reducible refine z_seq ?_ | with_reducible refine z_sne ?_ | with_reducible refine z_slen ?_ | with_reducible refine z_eqp ?_ | with_reducible refine z_eqn ?_ | with_reducible refine z_cv ?_ | refine z_of L0 ?_ | refine z_of (SL.ext I.e).len ?_
    have fin : condB (.bool false) (p4_33 (callN E (N + 4)) (N + 4) (fun x1 x3 x4 x5 h => l4_26 (callN E (N + 4)) (N + 4) m x1 x3 x4 x5 h K) (.ptr a 0 0 0) (.ptr T.p 0 0 0) nv (.int .i64 (i : Int)) h K) (p4_111 (callN E (N + 4)) (N + 4) h K) = true := by
      refine z_cF ?_
      unfold p4_111
      exact c7 (kk h)
    by_cases hlt : i < l.length
    · have e1 : decide ((i : Int) < (l.length : Int)) = true := decide_eq_true (by omega)
      rw [e1]
      repeat first | with_reducible refine z_nil ?_ | with_reducible refine z_fadr ?_ | with_reducible refine z_some ?_ | with_reducible refine z_ext0 ?_ | with_reducible refine z_ext1 ?_ | with_reducible refine z_notT ?_ | with_reducible refine z_notF ?_ | with_reducible refine z_cT ?_ | with_reducible refine z_cF ?_ | with_reducible refine z_gtt ?_ | with_reducible refine z_gff ?_ | with_reducible refine z_gtf ?_ | with_reducible refine z_gft ?_ | with_reducible refine z_ptt ?_ | with_reducible refine z_pff ?_ | with_reducible refine z_ptf ?_ | with_reducible refine z_pft ?_ | with_reducible refine z_rtt ?_ | with_reducible refine z_rff ?_ | with_reducible refine z_rtf ?_ | with_reducible refine z_rft ?_ | with_reducible refine z_kt ?_ | with_reducible refine z_kf ?_ | with_reducible refine z_lss ?_ | with_reducible refine z_gtr ?_ | with_reducible refine z_leq ?_ | with_reducible refine z_geq ?_ | with_reducible refine z_eql ?_ | with_reducible refine z_neq ?_ | with_reducible refine z_seq ?_ | with_reducible refine z_sne ?_ | with_reducible refine z_slen ?_ | with_reducible refine z_eqp ?_ | with_reducible refine z_eqn ?_ | with_reducible refine z_cv ?_ | refine z_of rfl ?_
      by_cases h40 : i < 40
      · have e2 : decide ((i : Int) < 40) = true := decide_eq_true (by omega)
        rw [e2]
        repeat first | with_reducible refine z_nil ?_ | with_reducible refine z_fadr ?_ | with_reducible refine z_some ?_ | with_reducible refine z_ext0 ?_ | with_reducible refine z_ext1 ?_ | with_reducible refine z_notT ?_ | with_reducible refine z_notF ?_ | with_reducible refine z_cT ?_ | with_reducible refine z_cF ?_ | with_reducible refine z_gtt ?_ | with_reducible refine z_gff ?_ | with_reducible refine z_gtf ?_ | with_reducible refine z_gft ?_ | with_reducible refine z_ptt ?_ | with_reducible refine z_pff ?_ | with_reducible refine z_ptf ?_ | with_reducible refine z_pft ?_ | with_reducible refine z_rtt ?_ | with_reducible refine z_rff ?_ | with_reducible refine z_rtf ?_ | with_reducible refine z_rft ?_ | with_reducible refine z_kt ?_ | with_reducible refine z_kf ?_ | with_reducible refine z_lss ?_ | with_reducible refine z_gtr ?_ | with_reducible refine z_leq ?_ | with_reducible refine z_geq ?_ | with_reducible refine z_eql ?_ | with_reducible refine z_neq ?_ | with_reducible refine z_seq ?_ | with_reducible refine z_sne ?_ | with_reducible refine z_slen ?_ | with_reducible refine z_eqp ?_ | with_reducible refine z_eqn ?_ | with_reducible refine z_cv ?_
        exact p33 k0 VA SL I h40 hlt hN fun h' τ' T' nv' names' I' => ih (i + 1) h' τ' T' nv' names' (by omega) (by omega) I'
      · have e2 : decide ((i : Int) < 40) = false := decide_eq_false (by omega)
        rw [e2]
        repeat first | with_reducible refine z_nil ?_ | with_reducible refine z_fadr ?_ | with_reducible refine z_some ?_ | with_reducible refine z_ext0 ?_ | with_reducible refine z_ext1 ?_ | with_reducible refine z_notT ?_ | with_reducible refine z_notF ?_ | with_reducible refine z_cT ?_ | with_reducible refine z_cF ?_ | with_reducible refine z_gtt ?_ | with_reducible refine z_gff ?_ | with_reducible refine z_gtf ?_ | with_reducible refine z_gft ?_ | with_reducible refine z_ptt ?_ | with_reducible refine z_pff ?_ | with_reducible refine z_ptf ?_ | with_reducible refine z_pft ?_ | with_reducible refine z_rtt ?_ | with_reducible refine z_rff ?_ | with_reducible refine z_rtf ?_ | with_reducible refine z_rft ?_ | with_reducible refine z_kt ?_ | with_reducible refine z_kf ?_ | with_reducible refine z_lss ?_ | with_reducible refine z_gtr ?_ | with_reducible refine z_leq ?_ | with_reducible refine z_geq ?_ | with_reducible refine z_eql ?_ | with_reducible refine z_neq ?_ | with_reducible refine z_seq ?_ | with_reducible refine z_sne ?_ | with_reducible refine z_slen ?_ | with_reducible refine z_eqp ?_ | with_reducible refine z_eqn ?_ | with_reducible refine z_cv ?_
        exact fin
    · have e1 : decide ((i : Int) < (l.length : Int)) = false := decide_eq_false (by omega)
      rw [e1]
      repeat first | with_reducible refine z_nil ?_ | with_reducible refine z_fadr ?_ | with_reducible refine z_some ?_ | with_reducible refine z_ext0 ?_ | with_reducible refine z_ext1 ?_ | with_reducible refine z_notT ?_ | with_reducible refine z_notF ?_ | with_reducible refine z_cT ?_ | with_reducible refine z_cF ?_ | with_reducible refine z_gtt ?_ | with_reducible refine z_gff ?_ | with_reducible refine z_gtf ?_ | with_reducible refine z_gft ?_ | with_reducible refine z_ptt ?_ | with_reducible refine z_pff ?_ | with_reducible refine z_ptf ?_ | with_reducible refine z_pft ?_ | with_reducible refine z_rtt ?_ | with_reducible refine z_rff ?_ | with_reducible refine z_rtf ?_ | with_reducible refine z_rft ?_ | with_reducible refine z_kt ?_ | with_reducible refine z_kf ?_ | with_reducible refine z_lss ?_ | with_reducible refine z_gtr ?_ | with_reducible refine z_leq ?_ | with_reducible refine z_geq ?_ | with_reducible refine z_eql ?_ | with_reducible refine z_neq ?_ | with_reducible refine z_seq ?_ | with_reducible refine z_sne ?_ | with_reducible refine z_slen ?_ | with_reducible refine z_eqp ?_ | with_reducible refine z_eqn ?_ | with_reducible refine z_cv ?_
      exact fin

theorem c4 {lv : AV} {l : List Stp} (o : h.Ok) (SL : SV h lv l) (hlf : lv.leaf = true) (hsz : szL szSt l + 200 ≤ N) (hL : N < 4000000000) (kk : ∀ h, K (.bool true) h = true) :
    callN E (N + 5) (.func 4) [.agg [lv]] h K = true := by
  have hlm : lim = 4611686018427387904 := rfl
  apply d4
  unfold s4
  obtain ⟨h1, q1, V1, e1, o1, z1⟩ := box_v (n := 1) (v := .agg [lv]) o rfl (by decide) (by simp [AV.cells, allLeaf, hlf])
  have V1 : Var h1 h.sz [lv] := V1
  refine z_p q1 ?_
  have A1 : loadA h1 true 1 (.ptr h.sz 0 0 0) = some (.agg [lv]) := V1.all rfl
  repeat first | with_reducible refine z_nil ?_ | with_reducible refine z_fadr ?_ | with_reducible refine z_some ?_ | with_reducible refine z_ext0 ?_ | with_reducible refine z_ext1 ?_ | with_reducible refine z_notT ?_ | with_reducible refine z_notF ?_ | with_reducible refine z_cT ?_ | with_reducible refine z_cF ?_ | with_reducible refine z_gtt ?_ | with_reducible refine z_gff ?_ | with_reducible refine z_gtf ?_ | with_reducible refine z_gft ?_ | with_reducible refine z_ptt ?_ | with_reducible refine z_pff ?_ | with_reducible refine z_ptf ?_ | with_reducible refine z_pft ?_ | with_reducible refine z_rtt ?_ | with_reducible refine z_rff ?_ | with_reducible refine z_rtf ?_ | with_reducible refine z_rft ?_ | with_reducible refine z_kt ?_ | with_reducible refine z_kf ?_ | with_reducible refine z_lss ?_ | with_reducible refine z_gtr ?_ | with_reducible refine z_leq ?_ | with_reducible refine z_geq ?_ | with_reducible refine z_eql ?_ | with_reducible refine z_neq ?_ | with_reducible refine z_seq ?_ | with_reducible refine z_sne ?_ | with_reducible refine z_slen ?_ | with_reducible refine z_eqp ?_ | with_reducible refine z_eqn ?_ | with_reducible refine z_cv ?_ | refine z_of A1 ?_
  refine c6 (n := N + 1) o1 (SL.ext e1) (by omega) (by omega) hlf fun b h2 e2 o2 => ?_
  cases b with
  | false =>
    repeat first | with_reducible refine z_nil ?_ | with_reducible refine z_fadr ?_ | with_reducible refine z_some ?_ | with_reducible refine z_ext0 ?_ | with_reducible refine z_ext1 ?_ | with_reducible refine z_notT ?_ | with_reducible refine z_notF ?_ | with_reducible refine z_cT ?_ | with_reducible refine z_cF ?_ | with_reducible refine z_gtt ?_ | with_reducible refine z_gff ?_ | with_reducible refine z_gtf ?_ | with_reducible refine z_gft ?_ | with_reducible refine z_ptt ?_ | with_reducible refine z_pff ?_ | with_reducible refine z_ptf ?_ | with_reducible refine z_pft ?_ | with_reducible refine z_rtt ?_ | with_reducible refine z_rff ?_ | with_reducible refine z_rtf ?_ | with_reducible refine z_rft ?_ | with_reducible refine z_kt ?_ | with_reducible refine z_kf ?_ | with_reducible refine z_lss ?_ | with_reducible refine z_gtr ?_ | with_reducible refine z_leq ?_ | with_reducible refine z_geq ?_ | with_reducible refine z_eql ?_ | with_reducible refine z_neq ?_ | with_reducible refine z_seq ?_ | with_reducible refine z_sne ?_ | with_reducible refine z_slen ?_ | with_reducible refine z_eqp ?_ | with_reducible refine z_eqn ?_ | with_reducible refine z_cv ?_ | refine z_some ?_
    exact c7 (kk h2)
  | true =>
    repeat first | with_reducible refine z_nil ?_ | with_reducible refine z_fadr ?_ | with_reducible refine z_some ?_ | with_reducible refine z_ext0 ?_ | with_reducible refine z_ext1 ?_ | with_reducible refine z_notT ?_ | with_reducible refine z_notF ?_ | with_reducible refine z_cT ?_ | with_reducible refine z_cF ?_ | with_reducible refine z_gtt ?_ | with_reducible refine z_gff ?_ | with_reducible refine z_gtf ?_ | with_reducible refine z_gft ?_ | with_reducible refine z_ptt ?_ | with_reducible refine z_pff ?_ | with_reducible refine z_ptf ?_ | with_reducible refine z_pft ?_ | with_reducible refine z_rtt ?_ | with_reducible refine z_rff ?_ | with_reducible refine z_rtf ?_ | with_reducible refine z_rft ?_ | with_reducible refine z_kt ?_ | with_reducible refine z_kf ?_ | with_reducible refine z_lss ?_ | with_reducible refine z_gtr ?_ | with_reducible refine z_leq ?_ | with_reducible refine z_geq ?_ | with_reducible refine z_eql ?_ | with_reducible refine z_neq ?_ | with_reducible refine z_seq ?_ | with_reducible refine z_sne ?_ | with_reducible refine z_slen ?_ | with_reducible refine z_eqp ?_ | with_reducible refine z_eqn ?_ | with_reducible refine z_cv ?_ | refine z_some ?_
    unfold p4_10
    refine c8 o2 fun h3 T τ O W e3 hcs hrs hca hn ht hp => ?_
    repeat first | with_reducible refine z_nil ?_ | with_reducible refine z_fadr ?_ | with_reducible refine z_some ?_ | with_reducible refine z_ext0 ?_ | with_reducible refine z_ext1 ?_ | with_reducible refine z_notT ?_ | with_reducible refine z_notF ?_ | with_reducible refine z_cT ?_ | with_reducible refine z_cF ?_ | with_reducible refine z_gtt ?_ | with_reducible refine z_gff ?_ | with_reducible refine z_gtf ?_ | with_reducible refine z_gft ?_ | with_reducible refine z_ptt ?_ | with_reducible refine z_pff ?_ | with_reducible refine z_ptf ?_ | with_reducible refine z_pft ?_ | with_reducible refine z_rtt ?_ | with_reducible refine z_rff ?_ | with_reducible refine z_rtf ?_ | with_reducible refine z_rft ?_ | with_reducible refine z_kt ?_ | with_reducible refine z_kf ?_ | with_reducible refine z_lss ?_ | with_reducible refine z_gtr ?_ | with_reducible refine z_leq ?_ | with_reducible refine z_geq ?_ | with_reducible refine z_eql ?_ | with_reducible refine z_neq ?_ | with_reducible refine z_seq ?_ | with_reducible refine z_sne ?_ | with_reducible refine z_slen ?_ | with_reducible refine z_eqp ?_ | with_reducible refine z_eqn ?_ | with_reducible refine z_cv ?_
    unfold p4_20
    refine l4 o2 (V1.ext e2) ((SL.ext e1).ext e2) (by omega) kk (N + 4) 0 h3 τ T .nilSlc [] (by omega) (Nat.zero_le _) ⟨O, W, e3, ht, Own.nil _ _ _, fun j hj => absurd hj inRow_nil, by rw [hcs]; rfl, fun p hp => by rw [hcs] at hp; simp [mp] at hp, by omega, by omega⟩
end
end Go.Proofs.Ytbamgdknkhhikaa
