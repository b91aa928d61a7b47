/-
  'Justify', whole.
-/
import Derived.Test.YtbamgdknkhhikaaT6
namespace Go.Proofs.Ytbamgdknkhhikaa
open Go.Ab
set_option linter.unusedSimpArgs false
set_option linter.unusedVariables false

section
variable {τ : Nat → Tag} {h : AHeap} {T : TD} {K : Kont} {n : Nat} {k : SK} {r : BK} {cls : Str} {core : Int} {vals els env : AV} {b1 b2 : Bool} {G : AHeap → Nat → Nat → AV → Prop} {GM : AHeap → Nat → Nat → AV → AV → Prop}

/-- What a call that only lays new things says. -/
def Says (h : AHeap) (n f : Nat) (args : List AV) (v : AV) : Prop := ∀ h1, h1.Ok → Ext h h1 → ∀ K' : Kont, (∀ h2, Ext h1 h2 → h2.Ok → K' v h2 = true) → callN E n (.func f) args h1 K' = true

theorem c10 (O : TO τ h T) (hn : T.n < 1000000) (hc : T.came < 999999) (lv : vals.leaf = true) (le : els.leaf = true) (ln : env.leaf = true) (sv : AV.same vals vals = true) (se : AV.same els els = true) (sn : AV.same env env = true)
    (hb : Says h (n + 1) 35 [vals] (.bool b1)) (hb2 : Says h (n + 1) 36 [els, .fn (.func 37) [] []] (.bool b2))
    (hs : b1 = false → Says h (n + 1) 38 [.agg [.str cls, vals]] (sk k))
    (hk : b1 = false → b2 = false → Says h (n + 1) 39 [.agg [.int .i64 r.1, els, env]] (.str r.2))
    (hv : ∀ h1, h1.Ok → Fr (W8 τ) h h1 → ∀ K' : Kont, (∀ h2 v, Ext h1 h2 → h2.Ok → v.leaf = true → AV.same v v = true → G h2 h1.sz h2.sz v → K' v h2 = true) → callN E (n + 1) (.func 40) [vals] h1 K' = true)
    (ht : ∀ h1, h1.Ok → Fr (W8 τ) h h1 → ∀ K' : Kont, (∀ h2 els' env', Ext h1 h2 → h2.Ok → els'.leaf = true → env'.leaf = true → GM h2 h1.sz h2.sz els' env' → K' (.agg [.int .i64 r.1, els', env']) h2 = true) → callN E (n + 1) (.func 41) [.agg [.int .i64 r.1, els, env]] h1 K' = true)
    (gv : ∀ h1 h2 lo hi a, G h1 lo hi a → (∀ j o, lo ≤ j → j < hi → h1.get j = some o → h2.get j = some o) → G h2 lo hi a)
    (gm : ∀ h1 h2 lo hi a b, GM h1 lo hi a b → (∀ j o, lo ≤ j → j < hi → h1.get j = some o → h2.get j = some o) → GM h2 lo hi a b)
    (k0 : cls = [] ∨ b1 = true ∨ b2 = true → ∀ h', Ext h h' → h'.Ok → K (.int .i64 1) h' = true)
    (k1 : cls ≠ [] → b1 = false → b2 = false → ∀ h' τ' x y, TO τ' h' (justT T k r x y) → Fresh T k r x y →
      (lkG T.cs k = none → x.cls = cls ∧ Kept τ' h h' fun h lo hi => G h lo hi x.vals) → (lkG T.rs r = none → y.core = r.1 ∧ Kept τ' h h' fun h lo hi => GM h lo hi y.els y.env) → (∀ j, j < h.sz → τ' j = τ j) → Fr (W8 τ) h h' → K (.int .i64 0) h' = true) :
    callN E (n + 2) (.func 10) [.ptr T.p 0 0 0, .agg [.str cls, vals], .agg [.int .i64 r.1, els, env]] h K = true := by
  apply d10
  unfold s10
  obtain ⟨h1, q1, V1, e1, o1, z1⟩ := box_v (n := 2) (v := .agg [.str cls, vals]) O.ok rfl (by decide) (by simp only [AV.cells, allLeaf, lv]; rfl)
  have V1 : Var h1 h.sz [.str cls, vals] := V1
  refine z_p q1 ?_
  obtain ⟨h2, q2, V2, e2, o2, z2⟩ := box_v (n := 3) (v := .agg [.int .i64 r.1, els, env]) o1 rfl (by decide) (by simp only [AV.cells, allLeaf, le, ln]; rfl)
  have V2 : Var h2 h1.sz [.int .i64 r.1, els, env] := V2
  refine z_p q2 ?_
  have e02 := ext_two e1 e2
  have V1 := V1.ext e2
  have A1 : ∀ {h'}, Ext h2 h' → loadA h' true 2 (.ptr h.sz 0 0 0) = some (.agg [.str cls, vals]) := fun e => (V1.ext e).all rfl
  have A2 : ∀ {h'}, Ext h2 h' → loadA h' true 3 (.ptr h1.sz 0 0 0) = some (.agg [.int .i64 r.1, els, env]) := fun e => (V2.ext e).all rfl
  have A10 : ∀ {h'}, Ext h2 h' → loadA h' false 1 (.ptr h.sz 0 0 0) = some (.str cls) := fun e => (V1.ext e).get rfl
  have A11 : ∀ {h'}, Ext h2 h' → loadA h' false 1 (.ptr h.sz 0 0 1) = some vals := fun e => (V1.ext e).get rfl
  have A20 : ∀ {h'}, Ext h2 h' → loadA h' false 1 (.ptr h1.sz 0 0 0) = some (.int .i64 r.1) := fun e => (V2.ext e).get rfl
  have A21 : ∀ {h'}, Ext h2 h' → loadA h' false 1 (.ptr h1.sz 0 0 1) = some els := fun e => (V2.ext e).get rfl
  have s1 : AV.same (.agg [.str cls, vals]) (.agg [.str cls, vals]) = true := same_agg (sames_cons (same_str _) (sames_cons sv sames_nil))
  have s2 : AV.same (.agg [.int .i64 r.1, els, env]) (.agg [.int .i64 r.1, els, env]) = true := same_agg (sames_cons (same_int _ _) (sames_cons se (sames_cons sn sames_nil)))
  repeat first | with_reducible refine z_nil ?_ | with_reducible refine z_fadr ?_ | with_reducible refine z_some ?_ | with_reducible refine z_ext0 ?_ | with_reducible refine z_ext1 ?_ | with_reducible refine z_notT ?_ | with_reducible refine z_notF ?_ | with_reducible refine z_cT ?_ | with_reducible refine z_cF ?_ | with_reducible refine z_gtt ?_ | with_reducible refine z_gff ?_ | with_reducible refine z_gtf ?_ | with_reducible refine z_gft ?_ | with_reducible refine z_ptt ?_ | with_reducible refine z_pff ?_ | with_reducible refine z_ptf ?_ | with_reducible refine z_pft ?_ | with_reducible refine z_rtt ?_ | with_reducible refine z_rff ?_ | with_reducible refine z_rtf ?_ | with_reducible refine z_rft ?_ | with_reducible refine z_kt ?_ | with_reducible refine z_kf ?_ | with_reducible refine z_lss ?_ | with_reducible refine z_gtr ?_ | with_reducible refine z_leq ?_ | with_reducible refine z_geq ?_ | with_reducible refine z_eql ?_ | with_reducible refine z_neq ?_ | with_reducible refine z_seq ?_ | with_reducible refine z_sne ?_ | with_reducible refine z_slen ?_ | with_reducible refine z_eqp ?_ | with_reducible refine z_eqn ?_ | with_reducible refine z_cv ?_ | refine z_of (A10 (Ext.refl _)) ?_
  by_cases hcls : cls = []
  · rw [decide_eq_true hcls]
    repeat first | with_reducible refine z_nil ?_ | with_reducible refine z_fadr ?_ | with_reducible refine z_some ?_ | with_reducible refine z_ext0 ?_ | with_reducible refine z_ext1 ?_ | with_reducible refine z_notT ?_ | with_reducible refine z_notF ?_ | with_reducible refine z_cT ?_ | with_reducible refine z_cF ?_ | with_reducible refine z_gtt ?_ | with_reducible refine z_gff ?_ | with_reducible refine z_gtf ?_ | with_reducible refine z_gft ?_ | with_reducible refine z_ptt ?_ | with_reducible refine z_pff ?_ | with_reducible refine z_ptf ?_ | with_reducible refine z_pft ?_ | with_reducible refine z_rtt ?_ | with_reducible refine z_rff ?_ | with_reducible refine z_rtf ?_ | with_reducible refine z_rft ?_ | with_reducible refine z_kt ?_ | with_reducible refine z_kf ?_ | with_reducible refine z_lss ?_ | with_reducible refine z_gtr ?_ | with_reducible refine z_leq ?_ | with_reducible refine z_geq ?_ | with_reducible refine z_eql ?_ | with_reducible refine z_neq ?_ | with_reducible refine z_seq ?_ | with_reducible refine z_sne ?_ | with_reducible refine z_slen ?_ | with_reducible refine z_eqp ?_ | with_reducible refine z_eqn ?_ | with_reducible refine z_cv ?_ | refine z_some ?_
    exact k0 (.inl hcls) h2 e02 o2
  rw [decide_eq_false hcls]
  repeat first | with_reducible refine z_nil ?_ | with_reducible refine z_fadr ?_ | with_reducible refine z_some ?_ | with_reducible refine z_ext0 ?_ | with_reducible refine z_ext1 ?_ | with_reducible refine z_notT ?_ | with_reducible refine z_notF ?_ | with_reducible refine z_cT ?_ | with_reducible refine z_cF ?_ | with_reducible refine z_gtt ?_ | with_reducible refine z_gff ?_ | with_reducible refine z_gtf ?_ | with_reducible refine z_gft ?_ | with_reducible refine z_ptt ?_ | with_reducible refine z_pff ?_ | with_reducible refine z_ptf ?_ | with_reducible refine z_pft ?_ | with_reducible refine z_rtt ?_ | with_reducible refine z_rff ?_ | with_reducible refine z_rtf ?_ | with_reducible refine z_rft ?_ | with_reducible refine z_kt ?_ | with_reducible refine z_kf ?_ | with_reducible refine z_lss ?_ | with_reducible refine z_gtr ?_ | with_reducible refine z_leq ?_ | with_reducible refine z_geq ?_ | with_reducible refine z_eql ?_ | with_reducible refine z_neq ?_ | with_reducible refine z_seq ?_ | with_reducible refine z_sne ?_ | with_reducible refine z_slen ?_ | with_reducible refine z_eqp ?_ | with_reducible refine z_eqn ?_ | with_reducible refine z_cv ?_ | refine z_of (A11 (Ext.refl _)) ?_
  refine hb h2 o2 e02 _ fun h3 e3 o3 => ?_
  cases hb1 : b1 with
  | true =>
    repeat first | with_reducible refine z_nil ?_ | with_reducible refine z_fadr ?_ | with_reducible refine z_some ?_ | with_reducible refine z_ext0 ?_ | with_reducible refine z_ext1 ?_ | with_reducible refine z_notT ?_ | with_reducible refine z_notF ?_ | with_reducible refine z_cT ?_ | with_reducible refine z_cF ?_ | with_reducible refine z_gtt ?_ | with_reducible refine z_gff ?_ | with_reducible refine z_gtf ?_ | with_reducible refine z_gft ?_ | with_reducible refine z_ptt ?_ | with_reducible refine z_pff ?_ | with_reducible refine z_ptf ?_ | with_reducible refine z_pft ?_ | with_reducible refine z_rtt ?_ | with_reducible refine z_rff ?_ | with_reducible refine z_rtf ?_ | with_reducible refine z_rft ?_ | with_reducible refine z_kt ?_ | with_reducible refine z_kf ?_ | with_reducible refine z_lss ?_ | with_reducible refine z_gtr ?_ | with_reducible refine z_leq ?_ | with_reducible refine z_geq ?_ | with_reducible refine z_eql ?_ | with_reducible refine z_neq ?_ | with_reducible refine z_seq ?_ | with_reducible refine z_sne ?_ | with_reducible refine z_slen ?_ | with_reducible refine z_eqp ?_ | with_reducible refine z_eqn ?_ | with_reducible refine z_cv ?_ | refine z_some ?_
    exact k0 (.inr (.inl hb1)) h3 (ext_two e02 e3) o3
  | false =>
  repeat first | with_reducible refine z_nil ?_ | with_reducible refine z_fadr ?_ | with_reducible refine z_some ?_ | with_reducible refine z_ext0 ?_ | with_reducible refine z_ext1 ?_ | with_reducible refine z_notT ?_ | with_reducible refine z_notF ?_ | with_reducible refine z_cT ?_ | with_reducible refine z_cF ?_ | with_reducible refine z_gtt ?_ | with_reducible refine z_gff ?_ | with_reducible refine z_gtf ?_ | with_reducible refine z_gft ?_ | with_reducible refine z_ptt ?_ | with_reducible refine z_pff ?_ | with_reducible refine z_ptf ?_ | with_reducible refine z_pft ?_ | with_reducible refine z_rtt ?_ | with_reducible refine z_rff ?_ | with_reducible refine z_rtf ?_ | with_reducible refine z_rft ?_ | with_reducible refine z_kt ?_ | with_reducible refine z_kf ?_ | with_reducible refine z_lss ?_ | with_reducible refine z_gtr ?_ | with_reducible refine z_leq ?_ | with_reducible refine z_geq ?_ | with_reducible refine z_eql ?_ | with_reducible refine z_neq ?_ | with_reducible refine z_seq ?_ | with_reducible refine z_sne ?_ | with_reducible refine z_slen ?_ | with_reducible refine z_eqp ?_ | with_reducible refine z_eqn ?_ | with_reducible refine z_cv ?_ | refine z_of (A21 e3) ?_
  refine hb2 h3 o3 (ext_two e02 e3) _ fun h4 e4 o4 => ?_
  have e24 := ext_two e3 e4
  cases hb2' : b2 with
  | true =>
    repeat first | with_reducible refine z_nil ?_ | with_reducible refine z_fadr ?_ | with_reducible refine z_some ?_ | with_reducible refine z_ext0 ?_ | with_reducible refine z_ext1 ?_ | with_reducible refine z_notT ?_ | with_reducible refine z_notF ?_ | with_reducible refine z_cT ?_ | with_reducible refine z_cF ?_ | with_reducible refine z_gtt ?_ | with_reducible refine z_gff ?_ | with_reducible refine z_gtf ?_ | with_reducible refine z_gft ?_ | with_reducible refine z_ptt ?_ | with_reducible refine z_pff ?_ | with_reducible refine z_ptf ?_ | with_reducible refine z_pft ?_ | with_reducible refine z_rtt ?_ | with_reducible refine z_rff ?_ | with_reducible refine z_rtf ?_ | with_reducible refine z_rft ?_ | with_reducible refine z_kt ?_ | with_reducible refine z_kf ?_ | with_reducible refine z_lss ?_ | with_reducible refine z_gtr ?_ | with_reducible refine z_leq ?_ | with_reducible refine z_geq ?_ | with_reducible refine z_eql ?_ | with_reducible refine z_neq ?_ | with_reducible refine z_seq ?_ | with_reducible refine z_sne ?_ | with_reducible refine z_slen ?_ | with_reducible refine z_eqp ?_ | with_reducible refine z_eqn ?_ | with_reducible refine z_cv ?_ | refine z_some ?_
    exact k0 (.inr (.inr hb2')) h4 (ext_two e02 e24) o4
  | false =>
  repeat first | with_reducible refine z_nil ?_ | with_reducible refine z_fadr ?_ | with_reducible refine z_some ?_ | with_reducible refine z_ext0 ?_ | with_reducible refine z_ext1 ?_ | with_reducible refine z_notT ?_ | with_reducible refine z_notF ?_ | with_reducible refine z_cT ?_ | with_reducible refine z_cF ?_ | with_reducible refine z_gtt ?_ | with_reducible refine z_gff ?_ | with_reducible refine z_gtf ?_ | with_reducible refine z_gft ?_ | with_reducible refine z_ptt ?_ | with_reducible refine z_pff ?_ | with_reducible refine z_ptf ?_ | with_reducible refine z_pft ?_ | with_reducible refine z_rtt ?_ | with_reducible refine z_rff ?_ | with_reducible refine z_rtf ?_ | with_reducible refine z_rft ?_ | with_reducible refine z_kt ?_ | with_reducible refine z_kf ?_ | with_reducible refine z_lss ?_ | with_reducible refine z_gtr ?_ | with_reducible refine z_leq ?_ | with_reducible refine z_geq ?_ | with_reducible refine z_eql ?_ | with_reducible refine z_neq ?_ | with_reducible refine z_seq ?_ | with_reducible refine z_sne ?_ | with_reducible refine z_slen ?_ | with_reducible refine z_eqp ?_ | with_reducible refine z_eqn ?_ | with_reducible refine z_cv ?_ | refine z_of (A1 e24) ?_ | refine z_of (A20 e24) ?_ | refine z_of (A2 e24) ?_
  obtain ⟨h5, c1, V7, e5, o5, z5⟩ := alloc_v (z := [AV.str [], AV.str []]) o4 (by decide) rfl
  refine z_p c1 ?_
  have e25 := ext_two e24 e5
  refine z_same (A1 e25) s1 ?_
  refine z_same (A20 e25) (same_int _ _) ?_
  refine z_same (A2 e25) s2 ?_
  obtain ⟨h6, c2, V8, e6, o6, z6⟩ := alloc_v (z := [AV.int .i64 0, AV.str []]) o5 (by decide) rfl
  refine z_p c2 ?_
  have e26 := ext_two e25 e6
  refine z_same (A1 e26) s1 ?_
  refine z_same (A20 e26) (same_int _ _) ?_
  refine z_same (A2 e26) s2 ?_
  refine hs hb1 h6 o6 (ext_two e02 e26) _ fun h7 e7 o7 => ?_
  have e27 := ext_two e26 e7
  refine z_same (A20 e27) (same_int _ _) ?_
  refine z_same (A2 e27) s2 ?_
  refine hk hb1 hb2' h7 o7 (ext_two e02 e27) _ fun h8 e8 o8 => ?_
  have e28 := ext_two e27 e8
  refine z_same (A20 e28) (same_int _ _) ?_
  refine z_of (build_by rfl rfl) ?_
  have V7 := ((V7.ext e6).ext e7).ext e8
  have V8 := (V8.ext e7).ext e8
  obtain ⟨h9, w1, W7, w3, o9, w5⟩ := V7.wrs o8 (n := 2) (v := sk k) rfl rfl rfl
  refine z_u w1 ?_
  have W7 : Var h9 h4.sz [.str k.1, .str k.2] := W7
  have ls2 : h1.sz < h2.sz := by omega
  have ls4 : h2.sz ≤ h4.sz := e24.1
  have ls6 : h4.sz < h6.sz := by omega
  have B20 : loadA h9 false 1 (.ptr h1.sz 0 0 0) = some (.int .i64 r.1) := (w3.var (V2.ext e28) (by omega)).get rfl
  refine z_same B20 (same_int _ _) ?_
  have V8 := w3.var V8 (show h5.sz ≠ h4.sz by omega)
  obtain ⟨h10, x1, W8', x3, o10, x5⟩ := V8.wrs o9 (n := 2) (v := bk2 r) rfl rfl rfl
  have hbk : AV.agg [.int .i64 r.1, .str r.2] = bk2 r := rfl
  rw [hbk]
  refine z_u x1 ?_
  have W8' : Var h10 h5.sz [.int .i64 r.1, .str r.2] := W8'
  have W7 := x3.var W7 (show h4.sz ≠ h5.sz by omega)
  have e08 := ext_two e02 e28
  have e10 : Ext h h10 := x3.ext (w3.ext e08 O.ok (by have := e02.1; omega)) O.ok (by have := e02.1; omega)
  have b10 : ∀ {j c}, Var h2 j c → j < h2.sz → Var h10 j c := fun V l => x3.var (w3.var (V.ext e28) (by omega)) (by omega)
  have V1 := b10 V1 (by omega)
  have V2 := b10 V2 (by omega)
  have O10 := O.ext e10 o10
  have A7 : loadA h10 true 2 (.ptr h4.sz 0 0 0) = some (sk k) := W7.all rfl
  have t1 : ∀ {j}, h.sz ≤ j → τ j = .out := fun l => O.hi _ l
  have F10 : Fr (W8 τ) h h10 := Fr.of_ext e10
  have hz1 : h.sz < h2.sz := by omega
  have l10 : h2.sz ≤ h10.sz := by have := e28.1; have := w5; have := x5; omega
  have big : h5.sz < h10.sz := by have := e7.1; have := e8.1; omega
  cases hx : lkG T.cs k with
  | some x =>
    repeat first | with_reducible refine z_nil ?_ | with_reducible refine z_fadr ?_ | with_reducible refine z_some ?_ | with_reducible refine z_ext0 ?_ | with_reducible refine z_ext1 ?_ | with_reducible refine z_notT ?_ | with_reducible refine z_notF ?_ | with_reducible refine z_cT ?_ | with_reducible refine z_cF ?_ | with_reducible refine z_gtt ?_ | with_reducible refine z_gff ?_ | with_reducible refine z_gtf ?_ | with_reducible refine z_gft ?_ | with_reducible refine z_ptt ?_ | with_reducible refine z_pff ?_ | with_reducible refine z_ptf ?_ | with_reducible refine z_pft ?_ | with_reducible refine z_rtt ?_ | with_reducible refine z_rff ?_ | with_reducible refine z_rtf ?_ | with_reducible refine z_rft ?_ | with_reducible refine z_kt ?_ | with_reducible refine z_kf ?_ | with_reducible refine z_lss ?_ | with_reducible refine z_gtr ?_ | with_reducible refine z_leq ?_ | with_reducible refine z_geq ?_ | with_reducible refine z_eql ?_ | with_reducible refine z_neq ?_ | with_reducible refine z_seq ?_ | with_reducible refine z_sne ?_ | with_reducible refine z_slen ?_ | with_reducible refine z_eqp ?_ | with_reducible refine z_eqn ?_ | with_reducible refine z_cv ?_ | refine z_of O10.l0 ?_ | refine z_of A7 ?_ | refine z_of (O10.lkc hx) ?_
    refine p20 (GM := GM) O10 hx V2 W7 W8' (t1 (by omega)) (t1 (by omega)) (t1 (by omega)) hn (by omega) se sn (fun hh oo FF => ht hh oo (F10.trans FF)) gm fun h' τ' y O' p1 p2 p3 p4 p5 p6 => ?_
    have E1 : justT T k r ⟨0, 0, [], .nilSlc, T.came + 1, []⟩ y = { T with came := upC T.came T.rs r, n := T.n + (if (lkG x.bys r).isNone then 1 else 0), cs := upG T.cs k (setC x (upG x.bys r ())), rs := putG RD.ofs setR T.rs r k y } := by
      have e1 : upC T.came T.cs k = T.came := by unfold upC; rw [hx]; rfl
      unfold justT putG
      rw [hx, e1]; rfl
    refine k1 hcls hb1 hb2' h' τ' ⟨0, 0, [], .nilSlc, T.came + 1, []⟩ y (by rw [E1]; exact O') ⟨rfl, p1, rfl, ?_⟩ (fun q => by rw [hx] at q; cases q) (fun q => ?_) (fun j hj => p4 j (by have := e10.1; omega)) (F10.trans p6)
    · have e1 : upC T.came T.cs k = T.came := by unfold upC; rw [hx]; rfl
      rw [e1]; exact p2
    · obtain ⟨c1, lo, hi, c2, c3, c4, c5⟩ := p3 q
      exact ⟨c1, lo, hi, c2, by have := e10.1; omega, c4, c5⟩
  | none =>
    repeat first | with_reducible refine z_nil ?_ | with_reducible refine z_fadr ?_ | with_reducible refine z_some ?_ | with_reducible refine z_ext0 ?_ | with_reducible refine z_ext1 ?_ | with_reducible refine z_notT ?_ | with_reducible refine z_notF ?_ | with_reducible refine z_cT ?_ | with_reducible refine z_cF ?_ | with_reducible refine z_gtt ?_ | with_reducible refine z_gff ?_ | with_reducible refine z_gtf ?_ | with_reducible refine z_gft ?_ | with_reducible refine z_ptt ?_ | with_reducible refine z_pff ?_ | with_reducible refine z_ptf ?_ | with_reducible refine z_pft ?_ | with_reducible refine z_rtt ?_ | with_reducible refine z_rff ?_ | with_reducible refine z_rtf ?_ | with_reducible refine z_rft ?_ | with_reducible refine z_kt ?_ | with_reducible refine z_kf ?_ | with_reducible refine z_lss ?_ | with_reducible refine z_gtr ?_ | with_reducible refine z_leq ?_ | with_reducible refine z_geq ?_ | with_reducible refine z_eql ?_ | with_reducible refine z_neq ?_ | with_reducible refine z_seq ?_ | with_reducible refine z_sne ?_ | with_reducible refine z_slen ?_ | with_reducible refine z_eqp ?_ | with_reducible refine z_eqn ?_ | with_reducible refine z_cv ?_ | refine z_of O10.l0 ?_ | refine z_of A7 ?_ | refine z_of (O10.lkc0 hx) ?_
    repeat first | with_reducible refine z_nil ?_ | with_reducible refine z_fadr ?_ | with_reducible refine z_some ?_ | with_reducible refine z_ext0 ?_ | with_reducible refine z_ext1 ?_ | with_reducible refine z_notT ?_ | with_reducible refine z_notF ?_ | with_reducible refine z_cT ?_ | with_reducible refine z_cF ?_ | with_reducible refine z_gtt ?_ | with_reducible refine z_gff ?_ | with_reducible refine z_gtf ?_ | with_reducible refine z_gft ?_ | with_reducible refine z_ptt ?_ | with_reducible refine z_pff ?_ | with_reducible refine z_ptf ?_ | with_reducible refine z_pft ?_ | with_reducible refine z_rtt ?_ | with_reducible refine z_rff ?_ | with_reducible refine z_rtf ?_ | with_reducible refine z_rft ?_ | with_reducible refine z_kt ?_ | with_reducible refine z_kf ?_ | with_reducible refine z_lss ?_ | with_reducible refine z_gtr ?_ | with_reducible refine z_leq ?_ | with_reducible refine z_geq ?_ | with_reducible refine z_eql ?_ | with_reducible refine z_neq ?_ | with_reducible refine z_seq ?_ | with_reducible refine z_sne ?_ | with_reducible refine z_slen ?_ | with_reducible refine z_eqp ?_ | with_reducible refine z_eqn ?_ | with_reducible refine z_cv ?_ | refine z_of O10.l2 ?_ | refine z_of (add64 (a := (T.came : Int)) (b := 1) (by omega) (by omega)) ?_
    have V := O10.var
    obtain ⟨h11, y1, y2, y3, o11, y5⟩ := V.wr o10 (off := 2) (v := .int .i64 ((T.came : Int) + 1)) (show 2 < 4 by decide) rfl
    refine z_u y1 ?_
    have hn1 : (T.came : Int) + 1 = ((T.came + 1 : Nat) : Int) := by omega
    rw [hn1] at y2
    have O11 : TO τ h11 { T with came := T.came + 1 } := O10.put (ca := T.came + 1) (n := T.n) (Fr.of_but rfl y3) o11 y2
    have pl := O.plt
    have V1 := y3.var V1 (show h.sz ≠ T.p by omega)
    have V2 := y3.var V2 (show h1.sz ≠ T.p by omega)
    have W7 := y3.var W7 (show h4.sz ≠ T.p by omega)
    have W8' := y3.var W8' (show h5.sz ≠ T.p by omega)
    have B10 : ∀ {h'}, Ext h11 h' → loadA h' false 1 (.ptr h.sz 0 0 0) = some (.str cls) := fun e => (V1.ext e).get rfl
    have B11 : ∀ {h'}, Ext h11 h' → loadA h' false 1 (.ptr h.sz 0 0 1) = some vals := fun e => (V1.ext e).get rfl
    have A7 : ∀ {h'}, Ext h11 h' → loadA h' true 2 (.ptr h4.sz 0 0 0) = some (sk k) := fun e => (W7.ext e).all rfl
    have L0 : ∀ {h'}, Ext h11 h' → loadA h' false 1 (.ptr T.p 0 0 0) = some (.map T.cm) := fun e => (y2.ext e).get rfl
    have L2 : ∀ {h'}, Ext h11 h' → loadA h' false 1 (.ptr T.p 0 0 2) = some (.int .i64 ((T.came + 1 : Nat) : Int)) := fun e => (y2.ext e).get rfl
    have sA7 : AV.same (sk k) (sk k) = true := same_agg (sames_cons (same_str _) (sames_cons (same_str _) sames_nil))
    have f0 := Ext.refl h11
    repeat first | with_reducible refine z_nil ?_ | with_reducible refine z_fadr ?_ | with_reducible refine z_some ?_ | with_reducible refine z_ext0 ?_ | with_reducible refine z_ext1 ?_ | with_reducible refine z_notT ?_ | with_reducible refine z_notF ?_ | with_reducible refine z_cT ?_ | with_reducible refine z_cF ?_ | with_reducible refine z_gtt ?_ | with_reducible refine z_gff ?_ | with_reducible refine z_gtf ?_ | with_reducible refine z_gft ?_ | with_reducible refine z_ptt ?_ | with_reducible refine z_pff ?_ | with_reducible refine z_ptf ?_ | with_reducible refine z_pft ?_ | with_reducible refine z_rtt ?_ | with_reducible refine z_rff ?_ | with_reducible refine z_rtf ?_ | with_reducible refine z_rft ?_ | with_reducible refine z_kt ?_ | with_reducible refine z_kf ?_ | with_reducible refine z_lss ?_ | with_reducible refine z_gtr ?_ | with_reducible refine z_leq ?_ | with_reducible refine z_geq ?_ | with_reducible refine z_eql ?_ | with_reducible refine z_neq ?_ | with_reducible refine z_seq ?_ | with_reducible refine z_sne ?_ | with_reducible refine z_slen ?_ | with_reducible refine z_eqp ?_ | with_reducible refine z_eqn ?_ | with_reducible refine z_cv ?_ | refine z_of (L0 f0) ?_ | refine z_of (A7 f0) ?_ | refine z_of (B10 f0) ?_ | refine z_of (B11 f0) ?_ | refine z_of (L2 f0) ?_
    obtain ⟨h12, m1, M, f2, o12, z12⟩ := mkmap_v bk2 o11
    refine z_p m1 ?_
    refine z_same (L0 f2) (same_map _) ?_
    refine z_same (A7 f2) sA7 ?_
    refine z_same (B10 f2) (same_str _) ?_
    refine z_same (B11 f2) sv ?_
    refine z_same (L2 f2) (same_int _ _) ?_
    have F11 : Fr (W8 τ) h h11 := F10.trans (Fr.of_but (by show (τ T.p).own; rw [O.tp]; trivial) y3)
    refine hv h12 o12 (fr_ext F11 f2) _ fun h13 v f3 o13 lv' sv' hG => ?_
    have f3' := ext_two f2 f3
    refine z_same (L0 f3') (same_map _) ?_
    refine z_same (A7 f3') sA7 ?_
    refine z_same (B10 f3') (same_str _) ?_
    refine z_same (L2 f3') (same_int _ _) ?_
    refine z_of (build2 rfl lv') ?_
    refine z_of (build4 rfl lv' rfl rfl) ?_
    obtain ⟨h14, g1, V14, f4, o14, z14⟩ := box_v (n := 4) (v := .agg [.str cls, v, .int .i64 ((T.came + 1 : Nat) : Int), .map h11.sz]) o13 rfl (by decide) (by simp only [AV.cells, allLeaf, lv']; rfl)
    have V14 : Var h14 h13.sz [.str cls, v, .int .i64 ((T.came + 1 : Nat) : Int), .map h11.sz] := V14
    refine z_p g1 ?_
    have f4' := ext_two f3' f4
    refine z_same (L0 f4') (same_map _) ?_
    refine z_same (A7 f4') sA7 ?_
    refine z_same (B10 f4') (same_str _) ?_
    refine z_same (B11 f4') sv ?_
    refine z_same (L2 f4') (same_int _ _) ?_
    have O14 := O11.ext f4' o14
    obtain ⟨h15, u1, u2, u3, u4, u5⟩ := O14.cs.upd sks k (.ptr h13.sz 0 0 0)
    refine z_u u1 ?_
    have hs1 : h10.sz = h11.sz := y5.symm
    have hs2 : h11.sz < h13.sz := by have := f3.1; omega
    have O15 : TO (tagC τ h13.sz h11.sz k) h15 { T with came := T.came + 1, cs := upG T.cs k ⟨h13.sz, h11.sz, cls, v, T.came + 1, []⟩ } := O14.addc (k := k) (x := ⟨h13.sz, h11.sz, cls, v, T.came + 1, []⟩) hx (O.hi h13.sz (by omega)) (O.hi h11.sz (by omega)) (by show h13.sz ≠ h11.sz; omega) V14 ((Fr.of_ext (X := fun _ => False) (ext_two f3 f4)).kmap M id) rfl sv' (Fr.of_but rfl u2) (u4 o14) u5
    have F15 : Fr (W8 τ) h h15 := (fr_ext F11 f4').trans (Fr.of_but (by show (τ T.cm).own; rw [O.tc]; trivial) u2)
    have tout : ∀ {a}, h.sz ≤ a → a < h10.sz → tagC τ h13.sz h11.sz k a = .out := fun {a} t l => by rw [tagC_ne (by omega) (by omega)]; exact O.hi a t
    have cml : T.cm < h.sz := O.cs.lt O.ok
    have vr : ∀ {a c}, Var h11 a c → h.sz ≤ a → Var h15 a c := fun {a c} V t => u2.var (V.ext f4') (show a ≠ T.cm by omega)
    have kx : lkG (upG T.cs k ⟨h13.sz, h11.sz, cls, v, T.came + 1, []⟩) k = some ⟨h13.sz, h11.sz, cls, v, T.came + 1, []⟩ := by rw [lkG_up, if_pos rfl]
    have Fh : ∀ {h''}, Fr (W8 (tagC τ h13.sz h11.sz k)) h15 h'' → Fr (W8 τ) h h'' := fun {h''} F => by
      refine fr_acc O.ok F15 F fun j w => ?_
      by_cases q : j < h.sz
      · left
        have w : (tagC τ h13.sz h11.sz k j).own := w
        rw [tagC_ne (by omega) (by omega)] at w; exact w
      · right; omega
    have h15s : h15.sz = h14.sz := u3
    refine p20 (GM := GM) (n := n) (K := K) (T := { T with came := T.came + 1, cs := upG T.cs k ⟨h13.sz, h11.sz, cls, v, T.came + 1, []⟩ }) O15 kx (vr V2 (by omega)) (vr W7 (by omega)) (vr W8' (by omega)) (tout (by omega) (by omega)) (tout (by omega) (by omega)) (tout (by omega) (by omega)) hn (show T.came + 1 < 1000000 by omega) se sn (fun hh oo FF => ht hh oo (Fh FF)) gm fun h' τ' y O' p1 p2 p3 p4 p5 p6 => ?_
    have ec : upC T.came T.cs k = T.came + 1 := by unfold upC; rw [hx]; rfl
    have E1 : justT T k r ⟨h13.sz, h11.sz, cls, v, T.came + 1, []⟩ y = { T with came := upC (T.came + 1) T.rs r, n := T.n + (if (lkG ([] : List (BK × Unit)) r).isNone then 1 else 0), cs := upG (upG T.cs k ⟨h13.sz, h11.sz, cls, v, T.came + 1, []⟩) k (setC ⟨h13.sz, h11.sz, cls, v, T.came + 1, []⟩ (upG [] r ())), rs := putG RD.ofs setR T.rs r k y } := by
      unfold justT
      have : putG CD.bys setC T.cs k r ⟨h13.sz, h11.sz, cls, v, T.came + 1, []⟩ = upG (upG T.cs k ⟨h13.sz, h11.sz, cls, v, T.came + 1, []⟩) k (setC ⟨h13.sz, h11.sz, cls, v, T.came + 1, []⟩ (upG [] r ())) := by unfold putG; rw [hx, upG_up]; rfl
      rw [hx, ec, this]; rfl
    have tag' : ∀ j, j < h13.sz → h.sz ≤ j → j ≠ h11.sz → τ' j = .out := fun j j1 j2 j3 => by
      rw [p4 j (by omega), tagC_ne (by omega) j3]; exact O.hi j j2
    refine k1 hcls hb1 hb2' h' τ' ⟨h13.sz, h11.sz, cls, v, T.came + 1, []⟩ y (by rw [E1]; exact O') ⟨rfl, p1, rfl, by rw [ec]; exact p2⟩ (fun _ => ⟨rfl, h12.sz, h13.sz, ?_, by omega, by have := p6.sz; omega, fun j j1 j2 => tag' j j2 (by omega) (by omega)⟩) (fun q => ?_) (fun j hj => ?_) (Fh p6)
    · refine gv h13 h' _ _ _ hG fun j o j1 j2 g => ?_
      have ho : ¬ W8 (tagC τ h13.sz h11.sz k) j := by
        show ¬ (tagC τ h13.sz h11.sz k j).own
        rw [tagC_ne (by omega) (by omega), O.hi j (by omega)]; exact id
      exact p6.keep j o ho (u2.keep j o (show j ≠ T.cm by omega) (f4.2 j o g))
    · obtain ⟨c1, lo, hi, c2, c3, c4, c5⟩ := p3 q
      exact ⟨c1, lo, hi, c2, by omega, c4, c5⟩
    · rw [p4 j (by omega), tagC_ne (by omega) (by omega)]
end
end Go.Proofs.Ytbamgdknkhhikaa
