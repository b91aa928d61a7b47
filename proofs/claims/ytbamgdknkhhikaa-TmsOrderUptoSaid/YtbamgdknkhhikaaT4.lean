/-
  'Forget': all justifications of a content go.
-/
import Derived.Test.YtbamgdknkhhikaaT3
namespace Go.Proofs.Ytbamgdknkhhikaa
open Go.Ab
set_option linter.unusedSimpArgs false
set_option linter.unusedVariables false

theorem one_mem {κ : Type} [DecidableEq κ] {l : List (κ × Unit)} {k : κ} {v : AV} (hn : (l.map fun p => p.1).Nodup) (h : (k, v) ∈ one l) : lkG l k = some () := by
  obtain ⟨x, hx, e⟩ := List.mem_map.1 h
  simp only [Prod.mk.injEq] at e
  obtain ⟨rfl, _⟩ := e
  exact lkG_of_mem hn hx

section
variable {τ : Nat → Tag} {h : AHeap} {T : TD} {K : Kont} {n : Nat} {k : SK} {x : CD} {cls : Str} {vals : AV} {bad : Bool}

theorem l19 {it a3 : Nat} {r0 : AV} (O0 : TO τ h T) (W0 : TW T) (hx : lkG T.cs k = some x) (hn : T.n < 1000000)
    (hs : ∀ h1, h1.Ok → Fr (W8 τ) h h1 → ∀ K' : Kont, (∀ h2, Ext h1 h2 → h2.Ok → K' (sk k) h2 = true) → callN E (n + 1) (.func 38) [.agg [.str cls, vals]] h1 K' = true)
    (hit : h.sz ≤ it) (ha3 : h.sz ≤ a3)
    (k1 : ∀ h' T', TO τ h' T' → Fr (W8 τ) h h' → Less T T' (fun k' _ => k' = k) → T'.n + x.bys.length = T.n → K r0 h' = true) :
    ∀ m h1 l T1, l.length < m → TO τ h1 T1 → Fr (W8 τ) h h1 → Less T T1 (fun k' r' => k' = k ∧ lkG l r' = none) → (l ≠ [] → lkG T1.cs k = some (setC x l)) → (l.map fun p => p.1).Nodup → KIterD bk2 h1 it x.m (one l) → Var h1 a3 [.str cls, vals] →
      T1.n + x.bys.length = T.n + l.length → l.length ≤ x.bys.length → l19_18 (callN E (n + 1)) (n + 1) m (.ptr T.p 0 0 0) (.ptr a3 0 0 0) r0 (.itr it) h1 K = true := by
  intro m
  induction m with
  | zero => intro h1 l T1 hm; omega
  | succ m ih =>
    intro h1 l T1 hm O F L hl hnd IT V3 hsum hle
    have C0 := O0.c k x (lkG_mem hx)
    have xl := C0.map.lt O0.ok
    have tit := O0.hi it hit
    have ta3 := O0.hi a3 ha3
    unfold l19_18 b19_18
    refine IT.next bks O.ok (by omega) (fun e0 => ?_) (fun r v h2 hr b2 o2 z2 IC ent => ?_)
    · repeat first | with_reducible refine z_nil ?_ | with_reducible refine z_fadr ?_ | with_reducible refine z_some ?_ | with_reducible refine z_ext0 ?_ | with_reducible refine z_ext1 ?_ | with_reducible refine z_notT ?_ | with_reducible refine z_notF ?_ | with_reducible refine z_cT ?_ | with_reducible refine z_cF ?_ | with_reducible refine z_gtt ?_ | with_reducible refine z_gff ?_ | with_reducible refine z_gtf ?_ | with_reducible refine z_gft ?_ | with_reducible refine z_ptt ?_ | with_reducible refine z_pff ?_ | with_reducible refine z_ptf ?_ | with_reducible refine z_pft ?_ | with_reducible refine z_rtt ?_ | with_reducible refine z_rff ?_ | with_reducible refine z_rtf ?_ | with_reducible refine z_rft ?_ | with_reducible refine z_kt ?_ | with_reducible refine z_kf ?_ | with_reducible refine z_lss ?_ | with_reducible refine z_gtr ?_ | with_reducible refine z_leq ?_ | with_reducible refine z_geq ?_ | with_reducible refine z_eql ?_ | with_reducible refine z_neq ?_ | with_reducible refine z_seq ?_ | with_reducible refine z_sne ?_ | with_reducible refine z_slen ?_ | with_reducible refine z_eqp ?_ | with_reducible refine z_eqn ?_ | with_reducible refine z_cv ?_ | refine z_some ?_
      have : l = [] := by simpa [one, mp] using e0
      subst this
      refine k1 h1 T1 O F (L.iff fun k' r' _ => ⟨fun e => e.1, fun e => ⟨e, rfl⟩⟩) (by simpa using hsum)
    · have hb := one_mem hnd hr
      have hne : l ≠ [] := fun e => by rw [e] at hb; cases hb
      have hx1 := hl hne
      have hlen := dlG_len hb
      repeat first | with_reducible refine z_nil ?_ | with_reducible refine z_fadr ?_ | with_reducible refine z_some ?_ | with_reducible refine z_ext0 ?_ | with_reducible refine z_ext1 ?_ | with_reducible refine z_notT ?_ | with_reducible refine z_notF ?_ | with_reducible refine z_cT ?_ | with_reducible refine z_cF ?_ | with_reducible refine z_gtt ?_ | with_reducible refine z_gff ?_ | with_reducible refine z_gtf ?_ | with_reducible refine z_gft ?_ | with_reducible refine z_ptt ?_ | with_reducible refine z_pff ?_ | with_reducible refine z_ptf ?_ | with_reducible refine z_pft ?_ | with_reducible refine z_rtt ?_ | with_reducible refine z_rff ?_ | with_reducible refine z_rtf ?_ | with_reducible refine z_rft ?_ | with_reducible refine z_kt ?_ | with_reducible refine z_kf ?_ | with_reducible refine z_lss ?_ | with_reducible refine z_gtr ?_ | with_reducible refine z_leq ?_ | with_reducible refine z_geq ?_ | with_reducible refine z_eql ?_ | with_reducible refine z_neq ?_ | with_reducible refine z_seq ?_ | with_reducible refine z_sne ?_ | with_reducible refine z_slen ?_ | with_reducible refine z_eqp ?_ | with_reducible refine z_eqn ?_ | with_reducible refine z_cv ?_ | refine z_of ent ?_
      have F2 := fr_acc O0.ok F (Fr.of_but (X := fun j => j = it) rfl b2) fun j e => .inr (by rw [e]; exact hit)
      have O2 := O.fr (Fr.of_but (X := fun j => j = it) rfl b2) o2 fun j e => by rw [e, tit]; exact id
      have V3 := b2.var V3 (fun e => by
        obtain ⟨es, c, s, _, _, q⟩ := IT
        have V3' : h1.row a3 = _ := V3
        rw [AHeap.row_some] at V3'
        rw [e] at V3'
        rw [q] at V3'; cases V3')
      obtain ⟨h3, c1, c2, e3, o3, z3⟩ := alloc_v (z := [AV.int .i64 0, .str []]) o2 (by decide) rfl
      refine z_p c1 ?_
      obtain ⟨h4, w1, w2, w3, o4, w5⟩ := c2.wrs o3 (n := 2) (v := bk2 r) rfl rfl rfl
      refine z_u w1 ?_
      have w2 : Var h4 h2.sz [.int .i64 r.1, .str r.2] := w2
      have it2 : it < h2.sz := by obtain ⟨es, c, s, _, _, q⟩ := IC; exact o2.lt q
      have x2 : x.m < h2.sz := IC.map.lt o2
      have a2 : a3 < h2.sz := V3.lt o2
      have F4 : Fr (fun j => j = h2.sz) h2 h4 := (Fr.of_ext e3).trans (Fr.of_but rfl w3)
      have O4 := O2.fr F4 o4 fun j e => by rw [e, O2.hi _ (Nat.le_refl _)]; exact id
      have IC := F4.kiterC IC (by omega) (by omega)
      have V3 := F4.var V3 (by omega)
      have F4 := fr_acc O0.ok F2 F4 fun j e => .inr (by rw [e]; exact F2.sz)
      have A3 : loadA h4 true 2 (.ptr a3 0 0 0) = some (.agg [.str cls, vals]) := V3.all rfl
      have A5 : ∀ {h'}, Ext h4 h' → loadA h' true 2 (.ptr h2.sz 0 0 0) = some (bk2 r) := fun e => (w2.ext e).all rfl
      repeat first | with_reducible refine z_nil ?_ | with_reducible refine z_fadr ?_ | with_reducible refine z_some ?_ | with_reducible refine z_ext0 ?_ | with_reducible refine z_ext1 ?_ | with_reducible refine z_notT ?_ | with_reducible refine z_notF ?_ | with_reducible refine z_cT ?_ | with_reducible refine z_cF ?_ | with_reducible refine z_gtt ?_ | with_reducible refine z_gff ?_ | with_reducible refine z_gtf ?_ | with_reducible refine z_gft ?_ | with_reducible refine z_ptt ?_ | with_reducible refine z_pff ?_ | with_reducible refine z_ptf ?_ | with_reducible refine z_pft ?_ | with_reducible refine z_rtt ?_ | with_reducible refine z_rff ?_ | with_reducible refine z_rtf ?_ | with_reducible refine z_rft ?_ | with_reducible refine z_kt ?_ | with_reducible refine z_kf ?_ | with_reducible refine z_lss ?_ | with_reducible refine z_gtr ?_ | with_reducible refine z_leq ?_ | with_reducible refine z_geq ?_ | with_reducible refine z_eql ?_ | with_reducible refine z_neq ?_ | with_reducible refine z_seq ?_ | with_reducible refine z_sne ?_ | with_reducible refine z_slen ?_ | with_reducible refine z_eqp ?_ | with_reducible refine z_eqn ?_ | with_reducible refine z_cv ?_ | refine z_of A3 ?_ | refine z_of (A5 (Ext.refl _)) ?_
      refine hs h4 o4 F4 _ fun h5 e5 o5 => ?_
      refine z_same (A5 e5) (same_agg (sames_cons (same_int _ _) (sames_cons (same_str _) sames_nil))) ?_
      have O5 := O4.ext e5 o5
      have IC := (Fr.of_ext (X := fun _ => False) e5).kiterC IC id id
      have V3 := V3.ext e5
      have F5 := fr_ext F4 e5
      have hB : hasB T1 k r := ⟨_, hx1, hb⟩
      obtain ⟨y, hy, hk⟩ := (L.w.bij k r).1 hB
      have hn1 : 1 ≤ T1.n := by rw [L.w.sum]; have := lk_le_sum (get := CD.bys) hx1; have : l.length ≤ sumG CD.bys T1.cs := this; omega
      have hn2 : T1.n < 1000000 := by omega
      have hp := L.p
      rw [← hp]
      refine c48 O5 hx1 hb hy hk hn1 hn2 fun h6 O6 F6 D1 D2 => ?_
      have L6 := L.trans (drop_less L.w hx1 hb hy hk)
      have hit6 : h6.get it = h5.get it := by
        obtain ⟨es, c, s, _, _, q⟩ := IC
        rw [q]
        exact F6.keep it _ (by show ¬ (τ it).own; rw [tit]; exact id) q
      rw [hp]
      refine ih h6 (dlG l r) (dropT T1 k r) (by omega) O6 (fr_acc O0.ok F5 F6 fun j e => .inl e) (L6.iff fun k' r' hh => ?_) (fun e => ?_) (dlG_nodup hnd) ?_ (F6.var V3 (by show ¬ (τ a3).own; rw [ta3]; exact id)) (by show T1.n - 1 + _ = _; omega) (by omega)
      · rw [lkG_dl hnd]
        constructor
        · rintro (⟨e1, e2⟩ | ⟨e1, e2⟩)
          · exact ⟨e1, (by by_cases q : r' = r; (rw [if_pos q]); (rw [if_neg q]; exact e2))⟩
          · exact ⟨e1, by rw [if_pos e2]⟩
        · rintro ⟨e1, e2⟩
          by_cases e : r' = r
          · exact .inr ⟨e1, e⟩
          · rw [if_neg e] at e2; exact .inl ⟨e1, e2⟩
      · have := dropG_lk (get := CD.bys) (set := setC) L.w.ck hx1 (r := r) k
        rw [if_pos rfl, if_neg (by show ¬ (dlG l r).length = 0; exact fun q => e (List.length_eq_zero_iff.1 q))] at this
        exact this
      · have := IC.del bks D1 hit6
        rw [one, dlG_mp, ← dl_G]
        exact this

theorem c19 (O : TO τ h T) (W : TW T) (hn : T.n < 1000000) (hf : T.n < n) (hv : vals.leaf = true)
    (hs : ∀ h1, h1.Ok → Fr (W8 τ) h h1 → ∀ K' : Kont, (∀ h2, Ext h1 h2 → h2.Ok → K' (sk k) h2 = true) → callN E (n + 1) (.func 38) [.agg [.str cls, vals]] h1 K' = true)
    (hb : ∀ h1, h1.Ok → Ext h h1 → ∀ K' : Kont, (∀ h2, Ext h1 h2 → h2.Ok → K' (.bool bad) h2 = true) → callN E (n + 1) (.func 35) [vals] h1 K' = true)
    (k0 : ∀ h', Ext h h' → h'.Ok → lkG T.cs k = none ∨ bad = true → K (.int .i64 0) h' = true)
    (k1 : ∀ x h' T', lkG T.cs k = some x → bad = false → TO τ h' T' → Fr (W8 τ) h h' → Less T T' (fun k' _ => k' = k) → T'.n + x.bys.length = T.n → K (.int .i64 (x.bys.length : Int)) h' = true) :
    callN E (n + 2) (.func 19) [.ptr T.p 0 0 0, .agg [.str cls, vals]] h K = true := by
  apply d19
  unfold s19
  obtain ⟨h1, b1, V1, e1, o1, z1⟩ := box_v (n := 2) (v := .agg [.str cls, vals]) O.ok rfl (by decide) (by simp [AV.cells, allLeaf, hv]; rfl)
  have V1 : Var h1 h.sz [.str cls, vals] := V1
  refine z_p b1 ?_
  have O1 := O.ext e1 o1
  have A1 : loadA h1 true 2 (.ptr h.sz 0 0 0) = some (.agg [.str cls, vals]) := V1.all rfl
  repeat first | with_reducible refine z_nil ?_ | with_reducible refine z_fadr ?_ | with_reducible refine z_some ?_ | with_reducible refine z_ext0 ?_ | with_reducible refine z_ext1 ?_ | with_reducible refine z_notT ?_ | with_reducible refine z_notF ?_ | with_reducible refine z_cT ?_ | with_reducible refine z_cF ?_ | with_reducible refine z_gtt ?_ | with_reducible refine z_gff ?_ | with_reducible refine z_gtf ?_ | with_reducible refine z_gft ?_ | with_reducible refine z_ptt ?_ | with_reducible refine z_pff ?_ | with_reducible refine z_ptf ?_ | with_reducible refine z_pft ?_ | with_reducible refine z_rtt ?_ | with_reducible refine z_rff ?_ | with_reducible refine z_rtf ?_ | with_reducible refine z_rft ?_ | with_reducible refine z_kt ?_ | with_reducible refine z_kf ?_ | with_reducible refine z_lss ?_ | with_reducible refine z_gtr ?_ | with_reducible refine z_leq ?_ | with_reducible refine z_geq ?_ | with_reducible refine z_eql ?_ | with_reducible refine z_neq ?_ | with_reducible refine z_seq ?_ | with_reducible refine z_sne ?_ | with_reducible refine z_slen ?_ | with_reducible refine z_eqp ?_ | with_reducible refine z_eqn ?_ | with_reducible refine z_cv ?_ | refine z_of O1.l0 ?_ | refine z_of A1 ?_
  refine hs h1 o1 (Fr.of_ext e1) _ fun h2 e2 o2 => ?_
  have O2 := O1.ext e2 o2
  have V2 := V1.ext e2
  refine z_same O2.l0 (same_map _) ?_
  cases hx : lkG T.cs k with
  | none =>
    repeat first | with_reducible refine z_nil ?_ | with_reducible refine z_fadr ?_ | with_reducible refine z_some ?_ | with_reducible refine z_ext0 ?_ | with_reducible refine z_ext1 ?_ | with_reducible refine z_notT ?_ | with_reducible refine z_notF ?_ | with_reducible refine z_cT ?_ | with_reducible refine z_cF ?_ | with_reducible refine z_gtt ?_ | with_reducible refine z_gff ?_ | with_reducible refine z_gtf ?_ | with_reducible refine z_gft ?_ | with_reducible refine z_ptt ?_ | with_reducible refine z_pff ?_ | with_reducible refine z_ptf ?_ | with_reducible refine z_pft ?_ | with_reducible refine z_rtt ?_ | with_reducible refine z_rff ?_ | with_reducible refine z_rtf ?_ | with_reducible refine z_rft ?_ | with_reducible refine z_kt ?_ | with_reducible refine z_kf ?_ | with_reducible refine z_lss ?_ | with_reducible refine z_gtr ?_ | with_reducible refine z_leq ?_ | with_reducible refine z_geq ?_ | with_reducible refine z_eql ?_ | with_reducible refine z_neq ?_ | with_reducible refine z_seq ?_ | with_reducible refine z_sne ?_ | with_reducible refine z_slen ?_ | with_reducible refine z_eqp ?_ | with_reducible refine z_eqn ?_ | with_reducible refine z_cv ?_ | refine z_of (O2.lkc0 hx) ?_
    exact k0 h2 (ext_two e1 e2) o2 (.inl hx)
  | some x =>
    have V21 : loadA h2 false 1 (.ptr h.sz 0 0 1) = some vals := V2.get rfl
    repeat first | with_reducible refine z_nil ?_ | with_reducible refine z_fadr ?_ | with_reducible refine z_some ?_ | with_reducible refine z_ext0 ?_ | with_reducible refine z_ext1 ?_ | with_reducible refine z_notT ?_ | with_reducible refine z_notF ?_ | with_reducible refine z_cT ?_ | with_reducible refine z_cF ?_ | with_reducible refine z_gtt ?_ | with_reducible refine z_gff ?_ | with_reducible refine z_gtf ?_ | with_reducible refine z_gft ?_ | with_reducible refine z_ptt ?_ | with_reducible refine z_pff ?_ | with_reducible refine z_ptf ?_ | with_reducible refine z_pft ?_ | with_reducible refine z_rtt ?_ | with_reducible refine z_rff ?_ | with_reducible refine z_rtf ?_ | with_reducible refine z_rft ?_ | with_reducible refine z_kt ?_ | with_reducible refine z_kf ?_ | with_reducible refine z_lss ?_ | with_reducible refine z_gtr ?_ | with_reducible refine z_leq ?_ | with_reducible refine z_geq ?_ | with_reducible refine z_eql ?_ | with_reducible refine z_neq ?_ | with_reducible refine z_seq ?_ | with_reducible refine z_sne ?_ | with_reducible refine z_slen ?_ | with_reducible refine z_eqp ?_ | with_reducible refine z_eqn ?_ | with_reducible refine z_cv ?_ | refine z_of (O2.lkc hx) ?_ | refine z_of V21 ?_
    refine hb h2 o2 (ext_two e1 e2) _ fun h3 e3 o3 => ?_
    have O3 := O2.ext e3 o3
    have E3 := ext_two (ext_two e1 e2) e3
    cases bad with
    | true =>
      repeat first | with_reducible refine z_nil ?_ | with_reducible refine z_fadr ?_ | with_reducible refine z_some ?_ | with_reducible refine z_ext0 ?_ | with_reducible refine z_ext1 ?_ | with_reducible refine z_notT ?_ | with_reducible refine z_notF ?_ | with_reducible refine z_cT ?_ | with_reducible refine z_cF ?_ | with_reducible refine z_gtt ?_ | with_reducible refine z_gff ?_ | with_reducible refine z_gtf ?_ | with_reducible refine z_gft ?_ | with_reducible refine z_ptt ?_ | with_reducible refine z_pff ?_ | with_reducible refine z_ptf ?_ | with_reducible refine z_pft ?_ | with_reducible refine z_rtt ?_ | with_reducible refine z_rff ?_ | with_reducible refine z_rtf ?_ | with_reducible refine z_rft ?_ | with_reducible refine z_kt ?_ | with_reducible refine z_kf ?_ | with_reducible refine z_lss ?_ | with_reducible refine z_gtr ?_ | with_reducible refine z_leq ?_ | with_reducible refine z_geq ?_ | with_reducible refine z_eql ?_ | with_reducible refine z_neq ?_ | with_reducible refine z_seq ?_ | with_reducible refine z_sne ?_ | with_reducible refine z_slen ?_ | with_reducible refine z_eqp ?_ | with_reducible refine z_eqn ?_ | with_reducible refine z_cv ?_ | refine z_some ?_
      exact k0 h3 E3 o3 (.inr rfl)
    | false =>
      repeat first | with_reducible refine z_nil ?_ | with_reducible refine z_fadr ?_ | with_reducible refine z_some ?_ | with_reducible refine z_ext0 ?_ | with_reducible refine z_ext1 ?_ | with_reducible refine z_notT ?_ | with_reducible refine z_notF ?_ | with_reducible refine z_cT ?_ | with_reducible refine z_cF ?_ | with_reducible refine z_gtt ?_ | with_reducible refine z_gff ?_ | with_reducible refine z_gtf ?_ | with_reducible refine z_gft ?_ | with_reducible refine z_ptt ?_ | with_reducible refine z_pff ?_ | with_reducible refine z_ptf ?_ | with_reducible refine z_pft ?_ | with_reducible refine z_rtt ?_ | with_reducible refine z_rff ?_ | with_reducible refine z_rtf ?_ | with_reducible refine z_rft ?_ | with_reducible refine z_kt ?_ | with_reducible refine z_kf ?_ | with_reducible refine z_lss ?_ | with_reducible refine z_gtr ?_ | with_reducible refine z_leq ?_ | with_reducible refine z_geq ?_ | with_reducible refine z_eql ?_ | with_reducible refine z_neq ?_ | with_reducible refine z_seq ?_ | with_reducible refine z_sne ?_ | with_reducible refine z_slen ?_ | with_reducible refine z_eqp ?_ | with_reducible refine z_eqn ?_ | with_reducible refine z_cv ?_ | refine z_some ?_
      have C := O3.c k x (lkG_mem hx)
      repeat first | with_reducible refine z_nil ?_ | with_reducible refine z_fadr ?_ | with_reducible refine z_some ?_ | with_reducible refine z_ext0 ?_ | with_reducible refine z_ext1 ?_ | with_reducible refine z_notT ?_ | with_reducible refine z_notF ?_ | with_reducible refine z_cT ?_ | with_reducible refine z_cF ?_ | with_reducible refine z_gtt ?_ | with_reducible refine z_gff ?_ | with_reducible refine z_gtf ?_ | with_reducible refine z_gft ?_ | with_reducible refine z_ptt ?_ | with_reducible refine z_pff ?_ | with_reducible refine z_ptf ?_ | with_reducible refine z_pft ?_ | with_reducible refine z_rtt ?_ | with_reducible refine z_rff ?_ | with_reducible refine z_rtf ?_ | with_reducible refine z_rft ?_ | with_reducible refine z_kt ?_ | with_reducible refine z_kf ?_ | with_reducible refine z_lss ?_ | with_reducible refine z_gtr ?_ | with_reducible refine z_leq ?_ | with_reducible refine z_geq ?_ | with_reducible refine z_eql ?_ | with_reducible refine z_neq ?_ | with_reducible refine z_seq ?_ | with_reducible refine z_sne ?_ | with_reducible refine z_slen ?_ | with_reducible refine z_eqp ?_ | with_reducible refine z_eqn ?_ | with_reducible refine z_cv ?_ | refine z_of C.l3 ?_ | refine z_of C.map.len ?_
      obtain ⟨h4, r1, e4, o4, z4, IT⟩ := C.map.rangeD o3
      refine z_p r1 ?_
      rw [one_len]
      have hxs := lk_le_sum (get := CD.bys) hx
      have hw := W.sum
      exact l19 O W hx hn hs (Nat.le_trans e1.1 (Nat.le_trans e2.1 e3.1)) (Nat.le_refl _) (fun h' T' a b c d => k1 x h' T' hx rfl a b c d) (n + 1) h4 x.bys T (by omega) (O3.ext e4 o4) (Fr.of_ext (ext_two E3 e4))
        ((Less.refl W).iff fun k' r' hh => ⟨fun e => e.elim, fun ⟨e1, e2⟩ => by
          obtain ⟨x', q1, q2⟩ := hh
          rw [e1, hx] at q1; cases q1
          rw [e2] at q2; cases q2⟩) (fun _ => hx) (W.bn k x hx) IT ((V2.ext e3).ext e4) rfl (Nat.le_refl _)
end
end Go.Proofs.Ytbamgdknkhhikaa
