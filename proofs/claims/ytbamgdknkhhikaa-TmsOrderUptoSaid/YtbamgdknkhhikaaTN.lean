/-
  Contents and matches without values; small numbers as texts; a text in a list.
-/
import Derived.Test.YtbamgdknkhhikaaTV
import Derived.Test.YtbamgdknkhhikaaT7
namespace Go.Proofs.Ytbamgdknkhhikaa
open Go.Ab
set_option linter.unusedSimpArgs false
set_option linter.unusedVariables false

section
variable {h : AHeap} {K : Kont} {n : Nat} {cls : Str} {core : Int}

theorem n66 {f : AV} (hn : 1 ≤ n) (k : K (.int .i64 (-1)) h = true) : callN E (n + 1) (.func 66) [.nilSlc, f] h K = true := by
  apply d66
  unfold s66
  obtain ⟨n, rfl⟩ : ∃ j, n = j + 1 := ⟨n - 1, by omega⟩
  refine z_len0 ?_
  unfold l66_6 b66_6
  repeat first | with_reducible refine z_nil ?_ | with_reducible refine z_fadr ?_ | with_reducible refine z_some ?_ | with_reducible refine z_ext0 ?_ | with_reducible refine z_ext1 ?_ | with_reducible refine z_notT ?_ | with_reducible refine z_notF ?_ | with_reducible refine z_cT ?_ | with_reducible refine z_cF ?_ | with_reducible refine z_gtt ?_ | with_reducible refine z_gff ?_ | with_reducible refine z_gtf ?_ | with_reducible refine z_gft ?_ | with_reducible refine z_ptt ?_ | with_reducible refine z_pff ?_ | with_reducible refine z_ptf ?_ | with_reducible refine z_pft ?_ | with_reducible refine z_rtt ?_ | with_reducible refine z_rff ?_ | with_reducible refine z_rtf ?_ | with_reducible refine z_rft ?_ | with_reducible refine z_kt ?_ | with_reducible refine z_kf ?_ | with_reducible refine z_lss ?_ | with_reducible refine z_gtr ?_ | with_reducible refine z_leq ?_ | with_reducible refine z_geq ?_ | with_reducible refine z_eql ?_ | with_reducible refine z_neq ?_ | with_reducible refine z_seq ?_ | with_reducible refine z_sne ?_ | with_reducible refine z_slen ?_ | with_reducible refine z_eqp ?_ | with_reducible refine z_eqn ?_ | with_reducible refine z_cv ?_
  exact k
theorem n58 {f : AV} (hn : 1 ≤ n) (k : K (.int .i64 (-1)) h = true) : callN E (n + 1) (.func 58) [.nilSlc, f] h K = true := by
  apply d58
  unfold s58
  obtain ⟨n, rfl⟩ : ∃ j, n = j + 1 := ⟨n - 1, by omega⟩
  refine z_len0 ?_
  unfold l58_6 b58_6
  repeat first | with_reducible refine z_nil ?_ | with_reducible refine z_fadr ?_ | with_reducible refine z_some ?_ | with_reducible refine z_ext0 ?_ | with_reducible refine z_ext1 ?_ | with_reducible refine z_notT ?_ | with_reducible refine z_notF ?_ | with_reducible refine z_cT ?_ | with_reducible refine z_cF ?_ | with_reducible refine z_gtt ?_ | with_reducible refine z_gff ?_ | with_reducible refine z_gtf ?_ | with_reducible refine z_gft ?_ | with_reducible refine z_ptt ?_ | with_reducible refine z_pff ?_ | with_reducible refine z_ptf ?_ | with_reducible refine z_pft ?_ | with_reducible refine z_rtt ?_ | with_reducible refine z_rff ?_ | with_reducible refine z_rtf ?_ | with_reducible refine z_rft ?_ | with_reducible refine z_kt ?_ | with_reducible refine z_kf ?_ | with_reducible refine z_lss ?_ | with_reducible refine z_gtr ?_ | with_reducible refine z_leq ?_ | with_reducible refine z_geq ?_ | with_reducible refine z_eql ?_ | with_reducible refine z_neq ?_ | with_reducible refine z_seq ?_ | with_reducible refine z_sne ?_ | with_reducible refine z_slen ?_ | with_reducible refine z_eqp ?_ | with_reducible refine z_eqn ?_ | with_reducible refine z_cv ?_
  exact k
theorem n35 (hn : 1 ≤ n) (k : K (.bool false) h = true) : callN E (n + 3) (.func 35) [.nilSlc] h K = true := by
  apply d35
  unfold s35
  apply d55
  unfold s55
  refine n66 hn ?_
  repeat first | with_reducible refine z_nil ?_ | with_reducible refine z_fadr ?_ | with_reducible refine z_some ?_ | with_reducible refine z_ext0 ?_ | with_reducible refine z_ext1 ?_ | with_reducible refine z_notT ?_ | with_reducible refine z_notF ?_ | with_reducible refine z_cT ?_ | with_reducible refine z_cF ?_ | with_reducible refine z_gtt ?_ | with_reducible refine z_gff ?_ | with_reducible refine z_gtf ?_ | with_reducible refine z_gft ?_ | with_reducible refine z_ptt ?_ | with_reducible refine z_pff ?_ | with_reducible refine z_ptf ?_ | with_reducible refine z_pft ?_ | with_reducible refine z_rtt ?_ | with_reducible refine z_rff ?_ | with_reducible refine z_rtf ?_ | with_reducible refine z_rft ?_ | with_reducible refine z_kt ?_ | with_reducible refine z_kf ?_ | with_reducible refine z_lss ?_ | with_reducible refine z_gtr ?_ | with_reducible refine z_leq ?_ | with_reducible refine z_geq ?_ | with_reducible refine z_eql ?_ | with_reducible refine z_neq ?_ | with_reducible refine z_seq ?_ | with_reducible refine z_sne ?_ | with_reducible refine z_slen ?_ | with_reducible refine z_eqp ?_ | with_reducible refine z_eqn ?_ | with_reducible refine z_cv ?_
  exact k
theorem n36 {f : AV} (hn : 1 ≤ n) (k : K (.bool false) h = true) : callN E (n + 2) (.func 36) [.nilSlc, f] h K = true := by
  apply d36
  unfold s36
  refine n58 hn ?_
  repeat first | with_reducible refine z_nil ?_ | with_reducible refine z_fadr ?_ | with_reducible refine z_some ?_ | with_reducible refine z_ext0 ?_ | with_reducible refine z_ext1 ?_ | with_reducible refine z_notT ?_ | with_reducible refine z_notF ?_ | with_reducible refine z_cT ?_ | with_reducible refine z_cF ?_ | with_reducible refine z_gtt ?_ | with_reducible refine z_gff ?_ | with_reducible refine z_gtf ?_ | with_reducible refine z_gft ?_ | with_reducible refine z_ptt ?_ | with_reducible refine z_pff ?_ | with_reducible refine z_ptf ?_ | with_reducible refine z_pft ?_ | with_reducible refine z_rtt ?_ | with_reducible refine z_rff ?_ | with_reducible refine z_rtf ?_ | with_reducible refine z_rft ?_ | with_reducible refine z_kt ?_ | with_reducible refine z_kf ?_ | with_reducible refine z_lss ?_ | with_reducible refine z_gtr ?_ | with_reducible refine z_leq ?_ | with_reducible refine z_geq ?_ | with_reducible refine z_eql ?_ | with_reducible refine z_neq ?_ | with_reducible refine z_seq ?_ | with_reducible refine z_sne ?_ | with_reducible refine z_slen ?_ | with_reducible refine z_eqp ?_ | with_reducible refine z_eqn ?_ | with_reducible refine z_cv ?_
  exact k
theorem n40 (hn : 1 ≤ n) (k : K .nilSlc h = true) : callN E (n + 1) (.func 40) [.nilSlc] h K = true := by
  apply d40
  unfold s40
  obtain ⟨n, rfl⟩ : ∃ j, n = j + 1 := ⟨n - 1, by omega⟩
  refine z_len0 ?_
  unfold l40_8 b40_8
  repeat first | with_reducible refine z_nil ?_ | with_reducible refine z_fadr ?_ | with_reducible refine z_some ?_ | with_reducible refine z_ext0 ?_ | with_reducible refine z_ext1 ?_ | with_reducible refine z_notT ?_ | with_reducible refine z_notF ?_ | with_reducible refine z_cT ?_ | with_reducible refine z_cF ?_ | with_reducible refine z_gtt ?_ | with_reducible refine z_gff ?_ | with_reducible refine z_gtf ?_ | with_reducible refine z_gft ?_ | with_reducible refine z_ptt ?_ | with_reducible refine z_pff ?_ | with_reducible refine z_ptf ?_ | with_reducible refine z_pft ?_ | with_reducible refine z_rtt ?_ | with_reducible refine z_rff ?_ | with_reducible refine z_rtf ?_ | with_reducible refine z_rft ?_ | with_reducible refine z_kt ?_ | with_reducible refine z_kf ?_ | with_reducible refine z_lss ?_ | with_reducible refine z_gtr ?_ | with_reducible refine z_leq ?_ | with_reducible refine z_geq ?_ | with_reducible refine z_eql ?_ | with_reducible refine z_neq ?_ | with_reducible refine z_seq ?_ | with_reducible refine z_sne ?_ | with_reducible refine z_slen ?_ | with_reducible refine z_eqp ?_ | with_reducible refine z_eqn ?_ | with_reducible refine z_cv ?_
  exact k
theorem res1 {a v : AV} {m : Nat} {K : Kont} {h : AHeap} (e : loadA h true m a = some v) (s : K v h = true) : optR (resV h [(a, some (true, m))]) h K = true := by
  have : resV h [(a, some (true, m))] = some [v] := by simp only [resV, e]
  rw [this]; exact s
theorem n38 (o : h.Ok) (hn : 1 ≤ n) (k : ∀ h', Ext h h' → h'.Ok → K (.agg [.str cls, .str []]) h' = true) : callN E (n + 1) (.func 38) [.agg [.str cls, .nilSlc]] h K = true := by
  apply d38
  unfold s38
  obtain ⟨n, rfl⟩ : ∃ j, n = j + 1 := ⟨n - 1, by omega⟩
  obtain ⟨h1, q1, V1, e1, o1, z1⟩ := box_v (n := 2) (v := .agg [.str cls, .nilSlc]) o rfl (by decide) rfl
  have V1 : Var h1 h.sz [.str cls, .nilSlc] := V1
  refine z_p q1 ?_
  obtain ⟨h2, q2, V2, e2, o2, z2⟩ := alloc_v (z := [AV.str [], AV.str []]) o1 (by decide) rfl
  refine z_p q2 ?_
  have V1 := V1.ext e2
  have A1 : loadA h2 false 1 (.ptr h.sz 0 0 1) = some .nilSlc := V1.get rfl
  have A0 : loadA h2 false 1 (.ptr h.sz 0 0 0) = some (.str cls) := V1.get rfl
  repeat first | with_reducible refine z_nil ?_ | with_reducible refine z_fadr ?_ | with_reducible refine z_some ?_ | with_reducible refine z_ext0 ?_ | with_reducible refine z_ext1 ?_ | with_reducible refine z_notT ?_ | with_reducible refine z_notF ?_ | with_reducible refine z_cT ?_ | with_reducible refine z_cF ?_ | with_reducible refine z_gtt ?_ | with_reducible refine z_gff ?_ | with_reducible refine z_gtf ?_ | with_reducible refine z_gft ?_ | with_reducible refine z_ptt ?_ | with_reducible refine z_pff ?_ | with_reducible refine z_ptf ?_ | with_reducible refine z_pft ?_ | with_reducible refine z_rtt ?_ | with_reducible refine z_rff ?_ | with_reducible refine z_rtf ?_ | with_reducible refine z_rft ?_ | with_reducible refine z_kt ?_ | with_reducible refine z_kf ?_ | with_reducible refine z_lss ?_ | with_reducible refine z_gtr ?_ | with_reducible refine z_leq ?_ | with_reducible refine z_geq ?_ | with_reducible refine z_eql ?_ | with_reducible refine z_neq ?_ | with_reducible refine z_seq ?_ | with_reducible refine z_sne ?_ | with_reducible refine z_slen ?_ | with_reducible refine z_eqp ?_ | with_reducible refine z_eqn ?_ | with_reducible refine z_cv ?_ | refine z_of A1 ?_
  refine z_len0 ?_
  unfold l38_8 b38_8
  repeat first | with_reducible refine z_nil ?_ | with_reducible refine z_fadr ?_ | with_reducible refine z_some ?_ | with_reducible refine z_ext0 ?_ | with_reducible refine z_ext1 ?_ | with_reducible refine z_notT ?_ | with_reducible refine z_notF ?_ | with_reducible refine z_cT ?_ | with_reducible refine z_cF ?_ | with_reducible refine z_gtt ?_ | with_reducible refine z_gff ?_ | with_reducible refine z_gtf ?_ | with_reducible refine z_gft ?_ | with_reducible refine z_ptt ?_ | with_reducible refine z_pff ?_ | with_reducible refine z_ptf ?_ | with_reducible refine z_pft ?_ | with_reducible refine z_rtt ?_ | with_reducible refine z_rff ?_ | with_reducible refine z_rtf ?_ | with_reducible refine z_rft ?_ | with_reducible refine z_kt ?_ | with_reducible refine z_kf ?_ | with_reducible refine z_lss ?_ | with_reducible refine z_gtr ?_ | with_reducible refine z_leq ?_ | with_reducible refine z_geq ?_ | with_reducible refine z_eql ?_ | with_reducible refine z_neq ?_ | with_reducible refine z_seq ?_ | with_reducible refine z_sne ?_ | with_reducible refine z_slen ?_ | with_reducible refine z_eqp ?_ | with_reducible refine z_eqn ?_ | with_reducible refine z_cv ?_
  unfold p38_23
  have b : b2sA h2 .nilSlc = some (.str []) := rfl
  repeat first | with_reducible refine z_nil ?_ | with_reducible refine z_fadr ?_ | with_reducible refine z_some ?_ | with_reducible refine z_ext0 ?_ | with_reducible refine z_ext1 ?_ | with_reducible refine z_notT ?_ | with_reducible refine z_notF ?_ | with_reducible refine z_cT ?_ | with_reducible refine z_cF ?_ | with_reducible refine z_gtt ?_ | with_reducible refine z_gff ?_ | with_reducible refine z_gtf ?_ | with_reducible refine z_gft ?_ | with_reducible refine z_ptt ?_ | with_reducible refine z_pff ?_ | with_reducible refine z_ptf ?_ | with_reducible refine z_pft ?_ | with_reducible refine z_rtt ?_ | with_reducible refine z_rff ?_ | with_reducible refine z_rtf ?_ | with_reducible refine z_rft ?_ | with_reducible refine z_kt ?_ | with_reducible refine z_kf ?_ | with_reducible refine z_lss ?_ | with_reducible refine z_gtr ?_ | with_reducible refine z_leq ?_ | with_reducible refine z_geq ?_ | with_reducible refine z_eql ?_ | with_reducible refine z_neq ?_ | with_reducible refine z_seq ?_ | with_reducible refine z_sne ?_ | with_reducible refine z_slen ?_ | with_reducible refine z_eqp ?_ | with_reducible refine z_eqn ?_ | with_reducible refine z_cv ?_ | refine z_of A0 ?_ | refine z_of b ?_
  refine z_of (build2 rfl rfl) ?_
  obtain ⟨h3, w1, W, w3, o3, w5⟩ := V2.wrs o2 (n := 2) (v := .agg [.str cls, .str []]) rfl rfl rfl
  refine z_u w1 ?_
  have W : Var h3 h1.sz [.str cls, .str []] := W
  refine res1 (W.all rfl) ?_
  exact k h3 (w3.ext (ext_two e1 e2) o (by omega)) o3
theorem n60 (o : h.Ok) (hn : 1 ≤ n) (k : ∀ h', Ext h h' → h'.Ok → K (.str []) h' = true) : callN E (n + 1) (.func 60) [.nilSlc] h K = true := by
  apply d60
  unfold s60
  obtain ⟨n, rfl⟩ : ∃ j, n = j + 1 := ⟨n - 1, by omega⟩
  obtain ⟨h2, q2, V2, e2, o2, z2⟩ := alloc_v (z := [AV.nilSlc]) o (by decide) rfl
  refine z_p q2 ?_
  repeat first | with_reducible refine z_nil ?_ | with_reducible refine z_fadr ?_ | with_reducible refine z_some ?_ | with_reducible refine z_ext0 ?_ | with_reducible refine z_ext1 ?_ | with_reducible refine z_notT ?_ | with_reducible refine z_notF ?_ | with_reducible refine z_cT ?_ | with_reducible refine z_cF ?_ | with_reducible refine z_gtt ?_ | with_reducible refine z_gff ?_ | with_reducible refine z_gtf ?_ | with_reducible refine z_gft ?_ | with_reducible refine z_ptt ?_ | with_reducible refine z_pff ?_ | with_reducible refine z_ptf ?_ | with_reducible refine z_pft ?_ | with_reducible refine z_rtt ?_ | with_reducible refine z_rff ?_ | with_reducible refine z_rtf ?_ | with_reducible refine z_rft ?_ | with_reducible refine z_kt ?_ | with_reducible refine z_kf ?_ | with_reducible refine z_lss ?_ | with_reducible refine z_gtr ?_ | with_reducible refine z_leq ?_ | with_reducible refine z_geq ?_ | with_reducible refine z_eql ?_ | with_reducible refine z_neq ?_ | with_reducible refine z_seq ?_ | with_reducible refine z_sne ?_ | with_reducible refine z_slen ?_ | with_reducible refine z_eqp ?_ | with_reducible refine z_eqn ?_ | with_reducible refine z_cv ?_
  refine z_len0 ?_
  unfold l60_10 b60_10
  repeat first | with_reducible refine z_nil ?_ | with_reducible refine z_fadr ?_ | with_reducible refine z_some ?_ | with_reducible refine z_ext0 ?_ | with_reducible refine z_ext1 ?_ | with_reducible refine z_notT ?_ | with_reducible refine z_notF ?_ | with_reducible refine z_cT ?_ | with_reducible refine z_cF ?_ | with_reducible refine z_gtt ?_ | with_reducible refine z_gff ?_ | with_reducible refine z_gtf ?_ | with_reducible refine z_gft ?_ | with_reducible refine z_ptt ?_ | with_reducible refine z_pff ?_ | with_reducible refine z_ptf ?_ | with_reducible refine z_pft ?_ | with_reducible refine z_rtt ?_ | with_reducible refine z_rff ?_ | with_reducible refine z_rtf ?_ | with_reducible refine z_rft ?_ | with_reducible refine z_kt ?_ | with_reducible refine z_kf ?_ | with_reducible refine z_lss ?_ | with_reducible refine z_gtr ?_ | with_reducible refine z_leq ?_ | with_reducible refine z_geq ?_ | with_reducible refine z_eql ?_ | with_reducible refine z_neq ?_ | with_reducible refine z_seq ?_ | with_reducible refine z_sne ?_ | with_reducible refine z_slen ?_ | with_reducible refine z_eqp ?_ | with_reducible refine z_eqn ?_ | with_reducible refine z_cv ?_
  unfold p60_46
  have A0 : loadA h2 false 1 (.ptr h.sz 0 0 0) = some .nilSlc := V2.get rfl
  have b : b2sA h2 .nilSlc = some (.str []) := rfl
  repeat first | with_reducible refine z_nil ?_ | with_reducible refine z_fadr ?_ | with_reducible refine z_some ?_ | with_reducible refine z_ext0 ?_ | with_reducible refine z_ext1 ?_ | with_reducible refine z_notT ?_ | with_reducible refine z_notF ?_ | with_reducible refine z_cT ?_ | with_reducible refine z_cF ?_ | with_reducible refine z_gtt ?_ | with_reducible refine z_gff ?_ | with_reducible refine z_gtf ?_ | with_reducible refine z_gft ?_ | with_reducible refine z_ptt ?_ | with_reducible refine z_pff ?_ | with_reducible refine z_ptf ?_ | with_reducible refine z_pft ?_ | with_reducible refine z_rtt ?_ | with_reducible refine z_rff ?_ | with_reducible refine z_rtf ?_ | with_reducible refine z_rft ?_ | with_reducible refine z_kt ?_ | with_reducible refine z_kf ?_ | with_reducible refine z_lss ?_ | with_reducible refine z_gtr ?_ | with_reducible refine z_leq ?_ | with_reducible refine z_geq ?_ | with_reducible refine z_eql ?_ | with_reducible refine z_neq ?_ | with_reducible refine z_seq ?_ | with_reducible refine z_sne ?_ | with_reducible refine z_slen ?_ | with_reducible refine z_eqp ?_ | with_reducible refine z_eqn ?_ | with_reducible refine z_cv ?_ | refine z_of A0 ?_ | refine z_of b ?_
  exact k h2 e2 o2
theorem n39 (o : h.Ok) (hn : 1 ≤ n) (k : ∀ h', Ext h h' → h'.Ok → K (.str []) h' = true) : callN E (n + 2) (.func 39) [.agg [.int .i64 core, .nilSlc, .nilSlc]] h K = true := by
  apply d39
  unfold s39
  obtain ⟨h1, q1, V1, e1, o1, z1⟩ := box_v (n := 3) (v := .agg [.int .i64 core, .nilSlc, .nilSlc]) o rfl (by decide) rfl
  have V1 : Var h1 h.sz [.int .i64 core, .nilSlc, .nilSlc] := V1
  refine z_p q1 ?_
  have A0 : loadA h1 false 1 (.ptr h.sz 0 0 1) = some .nilSlc := V1.get rfl
  repeat first | with_reducible refine z_nil ?_ | with_reducible refine z_fadr ?_ | with_reducible refine z_some ?_ | with_reducible refine z_ext0 ?_ | with_reducible refine z_ext1 ?_ | with_reducible refine z_notT ?_ | with_reducible refine z_notF ?_ | with_reducible refine z_cT ?_ | with_reducible refine z_cF ?_ | with_reducible refine z_gtt ?_ | with_reducible refine z_gff ?_ | with_reducible refine z_gtf ?_ | with_reducible refine z_gft ?_ | with_reducible refine z_ptt ?_ | with_reducible refine z_pff ?_ | with_reducible refine z_ptf ?_ | with_reducible refine z_pft ?_ | with_reducible refine z_rtt ?_ | with_reducible refine z_rff ?_ | with_reducible refine z_rtf ?_ | with_reducible refine z_rft ?_ | with_reducible refine z_kt ?_ | with_reducible refine z_kf ?_ | with_reducible refine z_lss ?_ | with_reducible refine z_gtr ?_ | with_reducible refine z_leq ?_ | with_reducible refine z_geq ?_ | with_reducible refine z_eql ?_ | with_reducible refine z_neq ?_ | with_reducible refine z_seq ?_ | with_reducible refine z_sne ?_ | with_reducible refine z_slen ?_ | with_reducible refine z_eqp ?_ | with_reducible refine z_eqn ?_ | with_reducible refine z_cv ?_ | refine z_of A0 ?_
  exact n60 o1 hn fun h' e o' => k h' (ext_two e1 e) o'
theorem n41 (o : h.Ok) (hn : 1 ≤ n) (k : ∀ h', Ext h h' → h'.Ok → K (.agg [.int .i64 core, .nilSlc, .nilSlc]) h' = true) : callN E (n + 1) (.func 41) [.agg [.int .i64 core, .nilSlc, .nilSlc]] h K = true := by
  apply d41
  unfold s41
  obtain ⟨n, rfl⟩ : ∃ j, n = j + 1 := ⟨n - 1, by omega⟩
  obtain ⟨h1, q1, V1, e1, o1, z1⟩ := box_v (n := 3) (v := .agg [.int .i64 core, .nilSlc, .nilSlc]) o rfl (by decide) rfl
  have V1 : Var h1 h.sz [.int .i64 core, .nilSlc, .nilSlc] := V1
  refine z_p q1 ?_
  obtain ⟨h2, q2, V2, e2, o2, z2⟩ := alloc_v (z := [AV.int .i64 0, AV.nilSlc, AV.nilSlc]) o1 (by decide) rfl
  refine z_p q2 ?_
  have A0 : loadA h2 false 1 (.ptr h.sz 0 0 0) = some (.int .i64 core) := (V1.ext e2).get rfl
  have b3 : buildV [AV.int IntKind.i64 0, AV.nilSlc, AV.nilSlc] [(0, 1, .int .i64 core)] = some (.agg [.int .i64 core, .nilSlc, .nilSlc]) := rfl
  repeat first | with_reducible refine z_nil ?_ | with_reducible refine z_fadr ?_ | with_reducible refine z_some ?_ | with_reducible refine z_ext0 ?_ | with_reducible refine z_ext1 ?_ | with_reducible refine z_notT ?_ | with_reducible refine z_notF ?_ | with_reducible refine z_cT ?_ | with_reducible refine z_cF ?_ | with_reducible refine z_gtt ?_ | with_reducible refine z_gff ?_ | with_reducible refine z_gtf ?_ | with_reducible refine z_gft ?_ | with_reducible refine z_ptt ?_ | with_reducible refine z_pff ?_ | with_reducible refine z_ptf ?_ | with_reducible refine z_pft ?_ | with_reducible refine z_rtt ?_ | with_reducible refine z_rff ?_ | with_reducible refine z_rtf ?_ | with_reducible refine z_rft ?_ | with_reducible refine z_kt ?_ | with_reducible refine z_kf ?_ | with_reducible refine z_lss ?_ | with_reducible refine z_gtr ?_ | with_reducible refine z_leq ?_ | with_reducible refine z_geq ?_ | with_reducible refine z_eql ?_ | with_reducible refine z_neq ?_ | with_reducible refine z_seq ?_ | with_reducible refine z_sne ?_ | with_reducible refine z_slen ?_ | with_reducible refine z_eqp ?_ | with_reducible refine z_eqn ?_ | with_reducible refine z_cv ?_ | refine z_of A0 ?_ | refine z_of b3 ?_
  obtain ⟨h3, q3, V3, e3, o3, z3⟩ := alloc_v (z := [AV.int .i64 0, AV.nilSlc, AV.nilSlc]) o2 (by decide) rfl
  refine z_p q3 ?_
  obtain ⟨h4, w1, W, w3, o4, w5⟩ := V3.wrs o3 (n := 3) (v := .agg [.int .i64 core, .nilSlc, .nilSlc]) rfl rfl rfl
  refine z_u w1 ?_
  have W : Var h4 h2.sz [.int .i64 core, .nilSlc, .nilSlc] := W
  have V1 : Var h4 h.sz [.int .i64 core, .nilSlc, .nilSlc] := w3.var ((V1.ext e2).ext e3) (by omega)
  have V2 := w3.var (V2.ext e3) (show h1.sz ≠ h2.sz by omega)
  have A1 : loadA h4 false 1 (.ptr h.sz 0 0 1) = some .nilSlc := V1.get rfl
  have A2 : loadA h4 false 1 (.ptr h.sz 0 0 2) = some .nilSlc := V1.get rfl
  repeat first | with_reducible refine z_nil ?_ | with_reducible refine z_fadr ?_ | with_reducible refine z_some ?_ | with_reducible refine z_ext0 ?_ | with_reducible refine z_ext1 ?_ | with_reducible refine z_notT ?_ | with_reducible refine z_notF ?_ | with_reducible refine z_cT ?_ | with_reducible refine z_cF ?_ | with_reducible refine z_gtt ?_ | with_reducible refine z_gff ?_ | with_reducible refine z_gtf ?_ | with_reducible refine z_gft ?_ | with_reducible refine z_ptt ?_ | with_reducible refine z_pff ?_ | with_reducible refine z_ptf ?_ | with_reducible refine z_pft ?_ | with_reducible refine z_rtt ?_ | with_reducible refine z_rff ?_ | with_reducible refine z_rtf ?_ | with_reducible refine z_rft ?_ | with_reducible refine z_kt ?_ | with_reducible refine z_kf ?_ | with_reducible refine z_lss ?_ | with_reducible refine z_gtr ?_ | with_reducible refine z_leq ?_ | with_reducible refine z_geq ?_ | with_reducible refine z_eql ?_ | with_reducible refine z_neq ?_ | with_reducible refine z_seq ?_ | with_reducible refine z_sne ?_ | with_reducible refine z_slen ?_ | with_reducible refine z_eqp ?_ | with_reducible refine z_eqn ?_ | with_reducible refine z_cv ?_ | refine z_of A1 ?_
  refine z_len0 ?_
  unfold l41_8 b41_8
  repeat first | with_reducible refine z_nil ?_ | with_reducible refine z_fadr ?_ | with_reducible refine z_some ?_ | with_reducible refine z_ext0 ?_ | with_reducible refine z_ext1 ?_ | with_reducible refine z_notT ?_ | with_reducible refine z_notF ?_ | with_reducible refine z_cT ?_ | with_reducible refine z_cF ?_ | with_reducible refine z_gtt ?_ | with_reducible refine z_gff ?_ | with_reducible refine z_gtf ?_ | with_reducible refine z_gft ?_ | with_reducible refine z_ptt ?_ | with_reducible refine z_pff ?_ | with_reducible refine z_ptf ?_ | with_reducible refine z_pft ?_ | with_reducible refine z_rtt ?_ | with_reducible refine z_rff ?_ | with_reducible refine z_rtf ?_ | with_reducible refine z_rft ?_ | with_reducible refine z_kt ?_ | with_reducible refine z_kf ?_ | with_reducible refine z_lss ?_ | with_reducible refine z_gtr ?_ | with_reducible refine z_leq ?_ | with_reducible refine z_geq ?_ | with_reducible refine z_eql ?_ | with_reducible refine z_neq ?_ | with_reducible refine z_seq ?_ | with_reducible refine z_sne ?_ | with_reducible refine z_slen ?_ | with_reducible refine z_eqp ?_ | with_reducible refine z_eqn ?_ | with_reducible refine z_cv ?_
  unfold p41_23
  repeat first | with_reducible refine z_nil ?_ | with_reducible refine z_fadr ?_ | with_reducible refine z_some ?_ | with_reducible refine z_ext0 ?_ | with_reducible refine z_ext1 ?_ | with_reducible refine z_notT ?_ | with_reducible refine z_notF ?_ | with_reducible refine z_cT ?_ | with_reducible refine z_cF ?_ | with_reducible refine z_gtt ?_ | with_reducible refine z_gff ?_ | with_reducible refine z_gtf ?_ | with_reducible refine z_gft ?_ | with_reducible refine z_ptt ?_ | with_reducible refine z_pff ?_ | with_reducible refine z_ptf ?_ | with_reducible refine z_pft ?_ | with_reducible refine z_rtt ?_ | with_reducible refine z_rff ?_ | with_reducible refine z_rtf ?_ | with_reducible refine z_rft ?_ | with_reducible refine z_kt ?_ | with_reducible refine z_kf ?_ | with_reducible refine z_lss ?_ | with_reducible refine z_gtr ?_ | with_reducible refine z_leq ?_ | with_reducible refine z_geq ?_ | with_reducible refine z_eql ?_ | with_reducible refine z_neq ?_ | with_reducible refine z_seq ?_ | with_reducible refine z_sne ?_ | with_reducible refine z_slen ?_ | with_reducible refine z_eqp ?_ | with_reducible refine z_eqn ?_ | with_reducible refine z_cv ?_ | refine z_of A2 ?_
  refine z_len0 ?_
  unfold l41_27 b41_27
  repeat first | with_reducible refine z_nil ?_ | with_reducible refine z_fadr ?_ | with_reducible refine z_some ?_ | with_reducible refine z_ext0 ?_ | with_reducible refine z_ext1 ?_ | with_reducible refine z_notT ?_ | with_reducible refine z_notF ?_ | with_reducible refine z_cT ?_ | with_reducible refine z_cF ?_ | with_reducible refine z_gtt ?_ | with_reducible refine z_gff ?_ | with_reducible refine z_gtf ?_ | with_reducible refine z_gft ?_ | with_reducible refine z_ptt ?_ | with_reducible refine z_pff ?_ | with_reducible refine z_ptf ?_ | with_reducible refine z_pft ?_ | with_reducible refine z_rtt ?_ | with_reducible refine z_rff ?_ | with_reducible refine z_rtf ?_ | with_reducible refine z_rft ?_ | with_reducible refine z_kt ?_ | with_reducible refine z_kf ?_ | with_reducible refine z_lss ?_ | with_reducible refine z_gtr ?_ | with_reducible refine z_leq ?_ | with_reducible refine z_geq ?_ | with_reducible refine z_eql ?_ | with_reducible refine z_neq ?_ | with_reducible refine z_seq ?_ | with_reducible refine z_sne ?_ | with_reducible refine z_slen ?_ | with_reducible refine z_eqp ?_ | with_reducible refine z_eqn ?_ | with_reducible refine z_cv ?_
  unfold p41_40
  have A3 : loadA h4 true 3 (.ptr h2.sz 0 0 0) = some (.agg [.int .i64 core, .nilSlc, .nilSlc]) := W.all rfl
  repeat first | with_reducible refine z_nil ?_ | with_reducible refine z_fadr ?_ | with_reducible refine z_some ?_ | with_reducible refine z_ext0 ?_ | with_reducible refine z_ext1 ?_ | with_reducible refine z_notT ?_ | with_reducible refine z_notF ?_ | with_reducible refine z_cT ?_ | with_reducible refine z_cF ?_ | with_reducible refine z_gtt ?_ | with_reducible refine z_gff ?_ | with_reducible refine z_gtf ?_ | with_reducible refine z_gft ?_ | with_reducible refine z_ptt ?_ | with_reducible refine z_pff ?_ | with_reducible refine z_ptf ?_ | with_reducible refine z_pft ?_ | with_reducible refine z_rtt ?_ | with_reducible refine z_rff ?_ | with_reducible refine z_rtf ?_ | with_reducible refine z_rft ?_ | with_reducible refine z_kt ?_ | with_reducible refine z_kf ?_ | with_reducible refine z_lss ?_ | with_reducible refine z_gtr ?_ | with_reducible refine z_leq ?_ | with_reducible refine z_geq ?_ | with_reducible refine z_eql ?_ | with_reducible refine z_neq ?_ | with_reducible refine z_seq ?_ | with_reducible refine z_sne ?_ | with_reducible refine z_slen ?_ | with_reducible refine z_eqp ?_ | with_reducible refine z_eqn ?_ | with_reducible refine z_cv ?_ | refine z_of A3 ?_
  obtain ⟨h5, x1, X, x3, o5, x5⟩ := V2.wrs o4 (n := 3) (v := .agg [.int .i64 core, .nilSlc, .nilSlc]) rfl rfl rfl
  refine z_u x1 ?_
  have X : Var h5 h1.sz [.int .i64 core, .nilSlc, .nilSlc] := X
  refine res1 (X.all rfl) ?_
  exact k h5 (x3.ext (w3.ext (ext_two (ext_two e1 e2) e3) o (by omega)) o (by omega)) o5
end

/-! ### A digit as a text -/
theorem c28 {h : AHeap} {K : Kont} {n : Nat} {d : Nat} (o : h.Ok) (hd : d < 10) (k : ∀ h', Ext h h' → h'.Ok → K (.str [48 + d]) h' = true) : callN E (n + 2) (.func 28) [.int .i64 (d : Int)] h K = true := by
  apply d28
  unfold s28
  unfold l28_8 b28_8
  have r1 : binA .rem (.int .i64 (d : Int)) (.int .i64 10) = some (.int .i64 (d : Int)) := by
    rw [binA_ints _ _ _ _ rfl]
    have : (d : Int).tmod 10 = (d : Int) := by rw [Int.tmod_eq_emod_of_nonneg (by omega)]; omega
    show (bif ieqb 10 0 then none else some (AV.int .i64 ((d : Int).tmod 10))) = _
    rw [this]; rfl
  have r2 : binA .quo (.int .i64 (d : Int)) (.int .i64 10) = some (.int .i64 0) := by
    rw [binA_ints _ _ _ _ rfl]
    have : (d : Int).tdiv 10 = 0 := by rw [Int.tdiv_eq_ediv_of_nonneg (by omega)]; omega
    show (bif ieqb 10 0 then none else some (AV.int .i64 (wrapA .i64 ((d : Int).tdiv 10)))) = _
    rw [this]; rfl
  repeat first | with_reducible refine z_nil ?_ | with_reducible refine z_fadr ?_ | with_reducible refine z_some ?_ | with_reducible refine z_ext0 ?_ | with_reducible refine z_ext1 ?_ | with_reducible refine z_notT ?_ | with_reducible refine z_notF ?_ | with_reducible refine z_cT ?_ | with_reducible refine z_cF ?_ | with_reducible refine z_gtt ?_ | with_reducible refine z_gff ?_ | with_reducible refine z_gtf ?_ | with_reducible refine z_gft ?_ | with_reducible refine z_ptt ?_ | with_reducible refine z_pff ?_ | with_reducible refine z_ptf ?_ | with_reducible refine z_pft ?_ | with_reducible refine z_rtt ?_ | with_reducible refine z_rff ?_ | with_reducible refine z_rtf ?_ | with_reducible refine z_rft ?_ | with_reducible refine z_kt ?_ | with_reducible refine z_kf ?_ | with_reducible refine z_lss ?_ | with_reducible refine z_gtr ?_ | with_reducible refine z_leq ?_ | with_reducible refine z_geq ?_ | with_reducible refine z_eql ?_ | with_reducible refine z_neq ?_ | with_reducible refine z_seq ?_ | with_reducible refine z_sne ?_ | with_reducible refine z_slen ?_ | with_reducible refine z_eqp ?_ | with_reducible refine z_eqn ?_ | with_reducible refine z_cv ?_ | refine z_of r1 ?_
  refine z_cf (decide_eq_false (by omega)) ?_
  unfold p28_18
  have a1 : binA .add (.int .i64 48) (.int .i64 (d : Int)) = some (.int .i64 ((48 + d : Nat) : Int)) := by rw [add64 (by omega) (by omega)]; congr 2
  have a2 : convA .u8 (.int .i64 ((48 + d : Nat) : Int)) = some (.int .u8 ((48 + d : Nat) : Int)) := by
    rcases d with _|_|_|_|_|_|_|_|_|_|d <;> first | rfl | omega
  repeat first | with_reducible refine z_nil ?_ | with_reducible refine z_fadr ?_ | with_reducible refine z_some ?_ | with_reducible refine z_ext0 ?_ | with_reducible refine z_ext1 ?_ | with_reducible refine z_notT ?_ | with_reducible refine z_notF ?_ | with_reducible refine z_cT ?_ | with_reducible refine z_cF ?_ | with_reducible refine z_gtt ?_ | with_reducible refine z_gff ?_ | with_reducible refine z_gtf ?_ | with_reducible refine z_gft ?_ | with_reducible refine z_ptt ?_ | with_reducible refine z_pff ?_ | with_reducible refine z_ptf ?_ | with_reducible refine z_pft ?_ | with_reducible refine z_rtt ?_ | with_reducible refine z_rff ?_ | with_reducible refine z_rtf ?_ | with_reducible refine z_rft ?_ | with_reducible refine z_kt ?_ | with_reducible refine z_kf ?_ | with_reducible refine z_lss ?_ | with_reducible refine z_gtr ?_ | with_reducible refine z_leq ?_ | with_reducible refine z_geq ?_ | with_reducible refine z_eql ?_ | with_reducible refine z_neq ?_ | with_reducible refine z_seq ?_ | with_reducible refine z_sne ?_ | with_reducible refine z_slen ?_ | with_reducible refine z_eqp ?_ | with_reducible refine z_eqn ?_ | with_reducible refine z_cv ?_ | refine z_of a1 ?_ | refine z_of a2 ?_
  obtain ⟨w, h1, q1, V, e1, o1, z1, rfl⟩ := bslice1_v (sz := 1) (z := [AV.int .u8 0]) (v := .int .u8 ((48 + d : Nat) : Int)) o rfl (by decide) (by decide) rfl rfl rfl
  refine z_p q1 ?_
  have b : b2sA h1 (.slc h.sz 0 0 1 1 true) = some (.str [48 + d]) := by
    have hs := V.src
    have : bytesOf [AV.cells (.int .u8 ((48 + d : Nat) : Int))] = some [48 + d] := bytesOf_enc [48 + d] (by simp; omega)
    simp only [b2sA, hs, this]
  have a3 : binA .add (.str [48 + d]) (.str []) = some (.str [48 + d]) := by
    show some (AV.str ([48 + d] ++ [])) = _; simp
  repeat first | with_reducible refine z_nil ?_ | with_reducible refine z_fadr ?_ | with_reducible refine z_some ?_ | with_reducible refine z_ext0 ?_ | with_reducible refine z_ext1 ?_ | with_reducible refine z_notT ?_ | with_reducible refine z_notF ?_ | with_reducible refine z_cT ?_ | with_reducible refine z_cF ?_ | with_reducible refine z_gtt ?_ | with_reducible refine z_gff ?_ | with_reducible refine z_gtf ?_ | with_reducible refine z_gft ?_ | with_reducible refine z_ptt ?_ | with_reducible refine z_pff ?_ | with_reducible refine z_ptf ?_ | with_reducible refine z_pft ?_ | with_reducible refine z_rtt ?_ | with_reducible refine z_rff ?_ | with_reducible refine z_rtf ?_ | with_reducible refine z_rft ?_ | with_reducible refine z_kt ?_ | with_reducible refine z_kf ?_ | with_reducible refine z_lss ?_ | with_reducible refine z_gtr ?_ | with_reducible refine z_leq ?_ | with_reducible refine z_geq ?_ | with_reducible refine z_eql ?_ | with_reducible refine z_neq ?_ | with_reducible refine z_seq ?_ | with_reducible refine z_sne ?_ | with_reducible refine z_slen ?_ | with_reducible refine z_eqp ?_ | with_reducible refine z_eqn ?_ | with_reducible refine z_cv ?_ | refine z_of b ?_ | refine z_of a3 ?_ | refine z_of r2 ?_
  refine z_ct (by decide) ?_
  unfold p28_27
  repeat first | with_reducible refine z_nil ?_ | with_reducible refine z_fadr ?_ | with_reducible refine z_some ?_ | with_reducible refine z_ext0 ?_ | with_reducible refine z_ext1 ?_ | with_reducible refine z_notT ?_ | with_reducible refine z_notF ?_ | with_reducible refine z_cT ?_ | with_reducible refine z_cF ?_ | with_reducible refine z_gtt ?_ | with_reducible refine z_gff ?_ | with_reducible refine z_gtf ?_ | with_reducible refine z_gft ?_ | with_reducible refine z_ptt ?_ | with_reducible refine z_pff ?_ | with_reducible refine z_ptf ?_ | with_reducible refine z_pft ?_ | with_reducible refine z_rtt ?_ | with_reducible refine z_rff ?_ | with_reducible refine z_rtf ?_ | with_reducible refine z_rft ?_ | with_reducible refine z_kt ?_ | with_reducible refine z_kf ?_ | with_reducible refine z_lss ?_ | with_reducible refine z_gtr ?_ | with_reducible refine z_leq ?_ | with_reducible refine z_geq ?_ | with_reducible refine z_eql ?_ | with_reducible refine z_neq ?_ | with_reducible refine z_seq ?_ | with_reducible refine z_sne ?_ | with_reducible refine z_slen ?_ | with_reducible refine z_eqp ?_ | with_reducible refine z_eqn ?_ | with_reducible refine z_cv ?_
  refine z_cf (decide_eq_false (by omega)) ?_
  exact k h1 e1 o1

/-! ### A text in a list of texts -/
def idxOf (l : List Str) (s : Str) : Option Nat := l.findIdx? (fun x => decide (x = s))
theorem c29 {h : AHeap} {K : Kont} {n : Nat} {v : AV} {l : List Str} {s : Str} (V : View h 1 v (l.map fun x => [AV.str x])) (hl : l.length < n) (hL : l.length < lim - 5)
    (k0 : s ∉ l → K (.int .i64 (-1)) h = true) (k1 : s ∈ l → ∀ i : Nat, K (.int .i64 (i : Int)) h = true) : callN E (n + 1) (.func 29) [v, .str s] h K = true := by
  apply d29
  unfold s29
  have hlm : lim = 4611686018427387904 := rfl
  have VL : lenA h 1 v = some (.int .i64 (l.length : Int)) := by have := V.len; rwa [List.length_map] at this
  suffices H : ∀ m i, l.length - i < m → i ≤ l.length → s ∉ l.take i → l29_6 (callN E n) n m v (.str s) (.int .i64 (i : Int)) h K = true from H n 0 (by omega) (Nat.zero_le _) (by simp)
  intro m
  induction m with
  | zero => intro i hm; omega
  | succ m ih =>
    intro i hm hi hs
    unfold l29_6 b29_6
    repeat first | with_reducible refine z_nil ?_ | with_reducible refine z_fadr ?_ | with_reducible refine z_some ?_ | with_reducible refine z_ext0 ?_ | with_reducible refine z_ext1 ?_ | with_reducible refine z_notT ?_ | with_reducible refine z_notF ?_ | with_reducible refine z_cT ?_ | with_reducible refine z_cF ?_ | with_reducible refine z_gtt ?_ | with_reducible refine z_gff ?_ | with_reducible refine z_gtf ?_ | with_reducible refine z_gft ?_ | with_reducible refine z_ptt ?_ | with_reducible refine z_pff ?_ | with_reducible refine z_ptf ?_ | with_reducible refine z_pft ?_ | with_reducible refine z_rtt ?_ | with_reducible refine z_rff ?_ | with_reducible refine z_rtf ?_ | with_reducible refine z_rft ?_ | with_reducible refine z_kt ?_ | with_reducible refine z_kf ?_ | with_reducible refine z_lss ?_ | with_reducible refine z_gtr ?_ | with_reducible refine z_leq ?_ | with_reducible refine z_geq ?_ | with_reducible refine z_eql ?_ | with_reducible refine z_neq ?_ | with_reducible refine z_seq ?_ | with_reducible refine z_sne ?_ | with_reducible refine z_slen ?_ | with_reducible refine z_eqp ?_ | with_reducible refine z_eqn ?_ | with_reducible refine z_cv ?_ | refine z_of VL ?_
    by_cases hlt : i < l.length
    · refine z_ct (decide_eq_true (by omega)) ?_
      have hci := List.getElem?_eq_getElem hlt
      obtain ⟨id, g, j, p1, p2⟩ := V.at1 (i := i) (e := [.str l[i]]) (by rw [List.getElem?_map, hci]; rfl)
      have q0 : loadA h false 1 (.ptr id g j 0) = some (.str l[i]) := by rw [p2]; rfl
      repeat first | with_reducible refine z_nil ?_ | with_reducible refine z_fadr ?_ | with_reducible refine z_some ?_ | with_reducible refine z_ext0 ?_ | with_reducible refine z_ext1 ?_ | with_reducible refine z_notT ?_ | with_reducible refine z_notF ?_ | with_reducible refine z_cT ?_ | with_reducible refine z_cF ?_ | with_reducible refine z_gtt ?_ | with_reducible refine z_gff ?_ | with_reducible refine z_gtf ?_ | with_reducible refine z_gft ?_ | with_reducible refine z_ptt ?_ | with_reducible refine z_pff ?_ | with_reducible refine z_ptf ?_ | with_reducible refine z_pft ?_ | with_reducible refine z_rtt ?_ | with_reducible refine z_rff ?_ | with_reducible refine z_rtf ?_ | with_reducible refine z_rft ?_ | with_reducible refine z_kt ?_ | with_reducible refine z_kf ?_ | with_reducible refine z_lss ?_ | with_reducible refine z_gtr ?_ | with_reducible refine z_leq ?_ | with_reducible refine z_geq ?_ | with_reducible refine z_eql ?_ | with_reducible refine z_neq ?_ | with_reducible refine z_seq ?_ | with_reducible refine z_sne ?_ | with_reducible refine z_slen ?_ | with_reducible refine z_eqp ?_ | with_reducible refine z_eqn ?_ | with_reducible refine z_cv ?_ | refine z_of (p1 .i64) ?_ | refine z_of q0 ?_
      by_cases e : l[i] = s
      · refine z_ct (decide_eq_true e) ?_
        exact k1 (by rw [← e]; exact List.getElem_mem hlt) i
      · refine z_cf (decide_eq_false e) ?_
        repeat first | with_reducible refine z_nil ?_ | with_reducible refine z_fadr ?_ | with_reducible refine z_some ?_ | with_reducible refine z_ext0 ?_ | with_reducible refine z_ext1 ?_ | with_reducible refine z_notT ?_ | with_reducible refine z_notF ?_ | with_reducible refine z_cT ?_ | with_reducible refine z_cF ?_ | with_reducible refine z_gtt ?_ | with_reducible refine z_gff ?_ | with_reducible refine z_gtf ?_ | with_reducible refine z_gft ?_ | with_reducible refine z_ptt ?_ | with_reducible refine z_pff ?_ | with_reducible refine z_ptf ?_ | with_reducible refine z_pft ?_ | with_reducible refine z_rtt ?_ | with_reducible refine z_rff ?_ | with_reducible refine z_rtf ?_ | with_reducible refine z_rft ?_ | with_reducible refine z_kt ?_ | with_reducible refine z_kf ?_ | with_reducible refine z_lss ?_ | with_reducible refine z_gtr ?_ | with_reducible refine z_leq ?_ | with_reducible refine z_geq ?_ | with_reducible refine z_eql ?_ | with_reducible refine z_neq ?_ | with_reducible refine z_seq ?_ | with_reducible refine z_sne ?_ | with_reducible refine z_slen ?_ | with_reducible refine z_eqp ?_ | with_reducible refine z_eqn ?_ | with_reducible refine z_cv ?_ | refine z_of (inc64 (i := i) (by omega)) ?_
        refine ih (i + 1) (by omega) (by omega) ?_
        rw [List.take_succ_eq_append_getElem hlt, List.mem_append, List.mem_singleton]
        exact fun q => q.elim hs fun q => e q.symm
    · refine z_cf (decide_eq_false (by omega)) ?_
      refine k0 ?_
      rw [List.take_of_length_le (by omega)] at hs; exact hs
end Go.Proofs.Ytbamgdknkhhikaa
