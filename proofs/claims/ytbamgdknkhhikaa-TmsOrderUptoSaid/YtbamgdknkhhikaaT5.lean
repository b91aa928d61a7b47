/-
  'Contents': all contents, in the order in which they came; 'New'.
-/
import Derived.Test.YtbamgdknkhhikaaT4
namespace Go.Proofs.Ytbamgdknkhhikaa
open Go.Ab
set_option linter.unusedSimpArgs false
set_option linter.unusedVariables false

theorem build2 {z1 z2 a b : AV} (h1 : a.leaf = true) (h2 : b.leaf = true) : buildV [z1, z2] [(0, 1, a), (1, 1, b)] = some (.agg [a, b]) := by
  have c1 := cells_leaf h1
  have c2 := cells_leaf h2
  simp only [buildV, fillV, c1, c2, List.length_cons, List.length_nil, allLeaf, h1, h2, lay]
  rfl

theorem c52 {n a b : Nat} {h : AHeap} {x y : Int} {K : Kont} (e1 : loadA h false 1 (.ptr a 0 0 2) = some (.int .i64 x)) (e2 : loadA h false 1 (.ptr b 0 0 2) = some (.int .i64 y)) (hx : 0 ≤ x ∧ x < 1000000) (hy : 0 ≤ y ∧ y < 1000000) (k : K (.int .i64 (x - y)) h = true) :
    callN E (n + 1) (.func 52) [.ptr a 0 0 0, .ptr b 0 0 0] h K = true := by
  apply d52
  unfold s52
  repeat first | with_reducible refine z_nil ?_ | with_reducible refine z_fadr ?_ | with_reducible refine z_some ?_ | with_reducible refine z_ext0 ?_ | with_reducible refine z_ext1 ?_ | with_reducible refine z_notT ?_ | with_reducible refine z_notF ?_ | with_reducible refine z_cT ?_ | with_reducible refine z_cF ?_ | with_reducible refine z_gtt ?_ | with_reducible refine z_gff ?_ | with_reducible refine z_gtf ?_ | with_reducible refine z_gft ?_ | with_reducible refine z_ptt ?_ | with_reducible refine z_pff ?_ | with_reducible refine z_ptf ?_ | with_reducible refine z_pft ?_ | with_reducible refine z_rtt ?_ | with_reducible refine z_rff ?_ | with_reducible refine z_rtf ?_ | with_reducible refine z_rft ?_ | with_reducible refine z_kt ?_ | with_reducible refine z_kf ?_ | with_reducible refine z_lss ?_ | with_reducible refine z_gtr ?_ | with_reducible refine z_leq ?_ | with_reducible refine z_geq ?_ | with_reducible refine z_eql ?_ | with_reducible refine z_neq ?_ | with_reducible refine z_seq ?_ | with_reducible refine z_sne ?_ | with_reducible refine z_slen ?_ | with_reducible refine z_eqp ?_ | with_reducible refine z_eqn ?_ | with_reducible refine z_cv ?_ | refine z_of e1 ?_ | refine z_of e2 ?_ | refine z_of (sub64 (a := x) (b := y) (by omega) (by omega)) ?_
  exact k

theorem nodup_len {α : Type} [DecidableEq α] : ∀ {a b : List α}, a.Nodup → (∀ x ∈ a, x ∈ b) → a.length ≤ b.length
  | [], _, _, _ => Nat.zero_le _
  | x :: t, b, hn, hs => by
    rw [List.nodup_cons] at hn
    have hx := hs x List.mem_cons_self
    have h1 := nodup_len (b := b.erase x) hn.2 fun y hy => (List.mem_erase_of_ne (fun e => hn.1 (by rw [← e]; exact hy))).2 (hs y (List.mem_cons_of_mem _ hy))
    have h2 := List.length_erase_of_mem hx
    have h3 : 0 < b.length := List.length_pos_of_mem hx
    simp only [List.length_cons]; omega
/-- No key comes twice. -/
theorem kiter_nodup {κ : Type} [DecidableEq κ] {kk : KK} {ek : κ → AV} {h : AHeap} {it id : Nat} {l done : List (κ × AV)} (K : Keys kk ek) (IT : KIter ek h it id l done) : (done.map fun p => p.1).Nodup := by
  obtain ⟨es, c, de, m1, q1, q2, q3, q4⟩ := IT
  rw [List.nodup_iff_pairwise_ne, List.pairwise_map]
  have : ∀ {de : List (AV × AV × Nat)} {dn : List (κ × AV)}, Ents ek de dn → (∀ e ∈ de, e ∈ es) → (de.map fun e => e.2.2).Nodup → dn.Pairwise fun a b => a.1 ≠ b.1 := by
    intro de dn E
    induction E with
    | nil => intro _ _; exact .nil
    | cons t ih =>
      rename_i k v b es' l'
      intro hsub hnd
      simp only [List.map_cons, List.nodup_cons] at hnd
      refine .cons (fun p hp q => ?_) (ih (fun e he => hsub e (List.mem_cons_of_mem _ he)) hnd.2)
      obtain ⟨b', hb'⟩ := t.mem' hp
      have := m1.ents.uniq K m1.keys (hsub _ List.mem_cons_self) (hsub _ (List.mem_cons_of_mem _ hb')) (by show ek k = ek p.1; rw [show k = p.1 from q])
      exact hnd.1 (List.mem_map.2 ⟨_, hb', by rw [← this]⟩)
  exact this q1 q2 q3

def cmv (h : AHeap) (v : AV) : Int :=
  match v with
  | .ptr id _ _ _ => match loadA h false 1 (.ptr id 0 0 2) with
    | some (.int _ x) => x
    | _ => 0
  | _ => 0

def pt (x : SK × CD) : AV := .ptr x.2.id 0 0 0
theorem flat_pt (l : List (SK × CD)) : (l.map fun x => [pt x]) = (l.map pt).map fun v => [v] := by simp [List.map_map, Function.comp_def]

theorem c51 {n b : Nat} {h : AHeap} {v : AV} {ps qs : List (SK × CD)} {K : Kont} (o : h.Ok) (O : Own b h 1 v (ps.map fun x => [pt x])) (hp : ps.Perm qs)
    (hr : ∀ x ∈ qs, Var h x.2.id [.str x.2.cls, x.2.vals, .int .i64 (x.2.came : Int), .map x.2.m] ∧ x.2.id < b ∧ x.2.came < 1000000)
    (hs : (qs.map fun x => x.2.came).Pairwise fun a b => a < b) (hl : ps.length < 1000000)
    (k : ∀ h', Fr (inRow v) h h' → h'.Ok → Own b h' 1 v (qs.map fun x => [pt x]) → K (.tup []) h' = true) :
    callN E (n + 2) (.func 51) [v, .fn (.func 52) [] []] h K = true := by
  show sortP [52] (callN E (n + 1)) (n + 1) [v, .fn (.func 52) [] []] h K = true
  have l2 : ∀ x ∈ qs, loadA h false 1 (.ptr x.2.id 0 0 2) = some (.int .i64 (x.2.came : Int)) := fun x hx => (hr x hx).1.get rfl
  have cv : ∀ x ∈ qs, cmv h (pt x) = (x.2.came : Int) := fun x hx => by simp only [cmv, pt, l2 x hx]
  rcases O with ⟨rfl, he⟩ | ⟨id, r, w1, rfl, w3, w4, w5, w6, w7⟩
  · have hks : ps = [] := by simpa using he
    subst hks
    have : qs = [] := hp.symm.eq_nil
    subst this
    exact k h (Fr.refl _ _) o (.inl ⟨rfl, rfl⟩)
  · rw [List.length_map] at *
    have hne : ∀ x ∈ qs, x.2.id ≠ id := fun x hx => by have := (hr x hx).2.1; omega
    show (bif Nat.beq ps.length 0 then K (.tup []) h else cdec _) = true
    cases hz : Nat.beq ps.length 0 with
    | true =>
      have h0 := nbeq_true.1 hz
      have hks : ps = [] := List.length_eq_zero_iff.1 h0
      subst hks
      have : qs = [] := hp.symm.eq_nil
      subst this
      exact k h (Fr.refl _ _) o (.inr ⟨id, r, w1, rfl, w3, w4, w5, w6, w7⟩)
    | false =>
      rw [cond_false]
      refine cdec_true.2 ⟨List.mem_singleton.2 rfl, r, ps.map pt, fun x y => cmv h x - cmv h y, rfl, List.length_map _, ?_⟩
      have lay_us : ∀ us : List AV, us.length = ps.length → lay r.es 0 (us.map fun v => [v]) = us.map fun v => [v] := fun us hu => by
        have : r.es.length = us.length := by rw [w7, List.length_map, hu]
        simp only [lay, List.take_zero, List.nil_append, List.length_map, Nat.zero_add]
        rw [List.drop_of_length_le (by omega), List.append_nil]
      have pts : ∀ x ∈ ps.map pt, ∃ s ∈ qs, x = pt s := fun x hx => by
        obtain ⟨s, hs, rfl⟩ := List.mem_map.1 hx; exact ⟨s, hp.mem_iff.1 hs, rfl⟩
      refine ⟨AHeap.row_some.1 w3, w4, w6, ?_, by rw [List.length_map]; omega, fun x _ => by omega, fun x _ y _ z _ => by omega, fun x _ y _ z _ => by omega, ?_, ?_⟩
      · rw [w7, List.drop_zero, List.length_map, List.take_of_length_le (by rw [List.length_map]; exact Nat.le_refl _)]; exact flat_pt ps
      · intro us hu _ x hx y hy
        obtain ⟨a, ha, rfl⟩ := pts x hx
        obtain ⟨b, hb, rfl⟩ := pts y hy
        have f : Fr (fun j => j = id) h (putSeg h id r 0 us) := Fr.put (X := fun j => j = id) rfl h _
        have Va := f.var (hr a ha).1 (hne a ha)
        have Vb := f.var (hr b hb).1 (hne b hb)
        refine c52 (x := (a.2.came : Int)) (y := (b.2.came : Int)) (by rw [load_frz Va]; rfl) (by rw [load_frz Vb]; rfl) ⟨by omega, by have := (hr a ha).2.2; omega⟩ ⟨by omega, by have := (hr b hb).2.2; omega⟩ ?_
        rw [cv a ha, cv b hb]
        show ieqb _ _ = true
        rw [ieqb_dec]; exact decide_eq_true rfl
      · intro us hp1 hp2
        have inj : ∀ a ∈ qs, ∀ b ∈ qs, a.2.came = b.2.came → a = b := fun a ha b hb hab => by
          rw [List.pairwise_map] at hs
          rcases List.mem_iff_getElem.1 ha with ⟨i1, h1, rfl⟩
          rcases List.mem_iff_getElem.1 hb with ⟨i2, h2, rfl⟩
          rcases Nat.lt_trichotomy i1 i2 with q | q | q
          · have := List.pairwise_iff_getElem.1 hs i1 i2 h1 h2 q; omega
          · subst q; rfl
          · have := List.pairwise_iff_getElem.1 hs i2 i1 h2 h1 q; omega
        have heq : us = qs.map pt := by
          refine List.Perm.eq_of_pairwise (le := fun a b => ¬ cmv h b - cmv h a < 0) (fun a b ha hb h1 h2 => ?_) hp2 ?_ (hp1.trans (hp.map pt))
          · obtain ⟨s, hs1, rfl⟩ := pts a (hp1.mem_iff.1 ha)
            obtain ⟨t, ht, rfl⟩ := List.mem_map.1 hb
            rw [cv s hs1, cv t ht] at h1 h2
            rw [inj s hs1 t ht (by omega)]
          · rw [List.pairwise_map] at hs ⊢
            refine hs.imp_of_mem fun {a b} ha hb e => ?_
            rw [cv a ha, cv b hb]; omega
        subst heq
        have hlen : qs.length = ps.length := hp.length_eq.symm
        refine k _ ((Fr.put (X := fun j => j = id) rfl h _).mono fun j e => by rw [e]; exact ⟨_, _, _, _, _, rfl⟩) (o.put (o.lt (AHeap.row_some.1 w3)) _) ?_
        refine .inr ⟨id, { r with es := lay r.es 0 ((qs.map pt).map fun v => [v]), m := r.g }, w1, by rw [List.length_map, hlen], AHeap.row_some.2 (get_put_same _ _ _), w4, Nat.le_refl _, w6, ?_⟩
        show lay r.es 0 _ = _
        rw [lay_us _ (by rw [List.length_map, hlen]), flat_pt]

/-- What is told of a list of contents; of each, its values' copy, and where that lies. -/
def outE (cs : List (SK × CD)) (vs : List (AV × Nat × Nat)) : List (List AV) := List.zipWith (fun p u => [.str p.2.cls, u.1]) cs vs
structure Outs (G : AHeap → Nat → Nat → AV → AV → Prop) (b : Nat) (h : AHeap) (out : AV) (cs : List (SK × CD)) (vs : List (AV × Nat × Nat)) : Prop where
  own : Own b h 2 out (outE cs vs)
  len : vs.length = cs.length
  g : ∀ (i : Nat) (p : SK × CD) (u : AV × Nat × Nat), cs[i]? = some p → vs[i]? = some u → G h u.2.1 u.2.2 p.2.vals u.1 ∧ b ≤ u.2.1 ∧ u.2.2 ≤ h.sz ∧ ∀ j, inRow out j → ¬ (u.2.1 ≤ j ∧ j < u.2.2)
  pw : vs.Pairwise fun u w => u.2.2 ≤ w.2.1

theorem outE_len {cs : List (SK × CD)} {vs : List (AV × Nat × Nat)} (e : vs.length = cs.length) : (outE cs vs).length = cs.length := by simp [outE, e]

section
variable {τ : Nat → Tag} {h : AHeap} {T : TD} {K : Kont} {n : Nat} {G : AHeap → Nat → Nat → AV → AV → Prop}

theorem l21 {hs : AHeap} {lv : AV} (O : TO τ h T) (hl : T.cs.length < 1000000) (os : hs.Ok) (es : Ext h hs) (VL : View hs 1 lv (T.cs.map fun x => [pt x]))
    (hg : ∀ k x, (k, x) ∈ T.cs → ∀ h1, h1.Ok → Ext h h1 → ∀ K' : Kont, (∀ h2 v, Ext h1 h2 → h2.Ok → v.leaf = true → G h2 h1.sz h2.sz x.vals v → K' v h2 = true) → callN E (n + 1) (.func 40) [x.vals] h1 K' = true)
    (gfr : ∀ h1 h2 lo hi a v, G h1 lo hi a v → (∀ j o, lo ≤ j → j < hi → h1.get j = some o → h2.get j = some o) → G h2 lo hi a v)
    (kk : ∀ h' out vs, Ext hs h' → h'.Ok → Outs G hs.sz h' out T.cs vs → K out h' = true) :
    ∀ m i h1 out vs, T.cs.length - i < m → i ≤ T.cs.length → Ext hs h1 → h1.Ok → Outs G hs.sz h1 out (T.cs.take i) vs → l21_27 (callN E (n + 1)) (n + 1) m out lv (.int .i64 (T.cs.length : Int)) (.int .i64 (i : Int)) h1 K = true := by
  have hlim : lim = 4611686018427387904 := rfl
  have hmo : most = 1099511627776 := rfl
  intro m
  induction m with
  | zero => intro i h1 out vs hm; omega
  | succ m ih =>
    intro i h1 out vs hm hi e1 o1 U
    unfold l21_27 b21_27
    repeat first | with_reducible refine z_nil ?_ | with_reducible refine z_fadr ?_ | with_reducible refine z_some ?_ | with_reducible refine z_ext0 ?_ | with_reducible refine z_ext1 ?_ | with_reducible refine z_notT ?_ | with_reducible refine z_notF ?_ | with_reducible refine z_cT ?_ | with_reducible refine z_cF ?_ | with_reducible refine z_gtt ?_ | with_reducible refine z_gff ?_ | with_reducible refine z_gtf ?_ | with_reducible refine z_gft ?_ | with_reducible refine z_ptt ?_ | with_reducible refine z_pff ?_ | with_reducible refine z_ptf ?_ | with_reducible refine z_pft ?_ | with_reducible refine z_rtt ?_ | with_reducible refine z_rff ?_ | with_reducible refine z_rtf ?_ | with_reducible refine z_rft ?_ | with_reducible refine z_kt ?_ | with_reducible refine z_kf ?_ | with_reducible refine z_lss ?_ | with_reducible refine z_gtr ?_ | with_reducible refine z_leq ?_ | with_reducible refine z_geq ?_ | with_reducible refine z_eql ?_ | with_reducible refine z_neq ?_ | with_reducible refine z_seq ?_ | with_reducible refine z_sne ?_ | with_reducible refine z_slen ?_ | with_reducible refine z_eqp ?_ | with_reducible refine z_eqn ?_ | with_reducible refine z_cv ?_ | refine z_of rfl ?_
    by_cases hlt : i < T.cs.length
    · refine z_ct (decide_eq_true (by omega)) ?_
      have hp := List.getElem?_eq_getElem hlt
      generalize hpp : T.cs[i] = p at hp
      obtain ⟨k, x⟩ := p
      have hmem : (k, x) ∈ T.cs := List.mem_of_getElem? hp
      obtain ⟨id, g, j, q1, q2⟩ := (VL.ext e1).at1 (i := i) (e := [pt (k, x)]) (by rw [List.getElem?_map, hp]; rfl)
      have C := (O.ext (ext_two es e1) o1).c k x hmem
      have q3 : loadA h1 false 1 (.ptr id g j 0) = some (.ptr x.id 0 0 0) := q2 _ _ _
      repeat first | with_reducible refine z_nil ?_ | with_reducible refine z_fadr ?_ | with_reducible refine z_some ?_ | with_reducible refine z_ext0 ?_ | with_reducible refine z_ext1 ?_ | with_reducible refine z_notT ?_ | with_reducible refine z_notF ?_ | with_reducible refine z_cT ?_ | with_reducible refine z_cF ?_ | with_reducible refine z_gtt ?_ | with_reducible refine z_gff ?_ | with_reducible refine z_gtf ?_ | with_reducible refine z_gft ?_ | with_reducible refine z_ptt ?_ | with_reducible refine z_pff ?_ | with_reducible refine z_ptf ?_ | with_reducible refine z_pft ?_ | with_reducible refine z_rtt ?_ | with_reducible refine z_rff ?_ | with_reducible refine z_rtf ?_ | with_reducible refine z_rft ?_ | with_reducible refine z_kt ?_ | with_reducible refine z_kf ?_ | with_reducible refine z_lss ?_ | with_reducible refine z_gtr ?_ | with_reducible refine z_leq ?_ | with_reducible refine z_geq ?_ | with_reducible refine z_eql ?_ | with_reducible refine z_neq ?_ | with_reducible refine z_seq ?_ | with_reducible refine z_sne ?_ | with_reducible refine z_slen ?_ | with_reducible refine z_eqp ?_ | with_reducible refine z_eqn ?_ | with_reducible refine z_cv ?_ | refine z_of (q1 _) ?_ | refine z_of q3 ?_ | refine z_of C.l0 ?_ | refine z_of C.l1 ?_
      refine hg k x hmem h1 o1 (ext_two es e1) _ fun h2 v e2 o2 hv hG => ?_
      have C2 := (O.ext (ext_two (ext_two es e1) e2) o2).c k x hmem
      refine z_same C2.l0 (same_str _) ?_
      refine z_of (build2 rfl hv) ?_
      obtain ⟨w, h3, b1, b2, e3, o3, z3, _⟩ := bslice1_v (sz := 2) (z := [AV.str [], .nilSlc]) (v := .agg [.str x.cls, v]) o2 rfl (by decide) (by decide) rfl rfl (by simp [AV.cells, allLeaf, hv]; rfl)
      refine z_p b1 ?_
      have hUl : (T.cs.take i).length = i := by rw [List.length_take]; omega
      have OW := (U.own.ext e2).ext e3
      have hEl := outE_len U.len
      rw [hUl] at hEl
      have e03 := ext_two (ext_two e1 e2) e3
      obtain ⟨out', h4, a1, a2, a3, a4, a5, a6, a7⟩ := OW.app (bytes := 40) (by decide) e03.1 o3 os e03 (Nat.le_refl _) b2.src (by rw [hEl]; simp; omega) (by rw [hEl]; simp; omega)
      refine z_p a1 ?_
      refine z_of (inc64 (show i < lim by omega)) ?_
      have hvl : vs.length = i := by rw [U.len, hUl]
      refine ih (i + 1) h4 out' (vs ++ [(v, h1.sz, h2.sz)]) (by omega) (by omega) a4 a3 ⟨?_, ?_, ?_, ?_⟩
      · have : outE (T.cs.take (i + 1)) (vs ++ [(v, h1.sz, h2.sz)]) = outE (T.cs.take i) vs ++ [AV.cells (.agg [.str x.cls, v])] := by
          unfold outE
          rw [List.take_succ_eq_append_getElem hlt, List.zipWith_append (by rw [hUl, hvl]), hpp]
          rfl
        rw [this]; exact a2
      · rw [List.length_append, hvl, List.length_take]; simp; omega
      · intro i' p u hp' hu'
        have keep3 : ∀ {lo hi : Nat}, (∀ j, inRow out j → ¬ (lo ≤ j ∧ j < hi)) → hi ≤ h3.sz → (∀ j o, lo ≤ j → j < hi → h3.get j = some o → h4.get j = some o) ∧ ∀ j, inRow out' j → ¬ (lo ≤ j ∧ j < hi) := by
          intro lo hi hd hh
          refine ⟨fun j o h1 h2 h3 => a6 j o h3 fun id g s l c ex e q => hd j ⟨g, s, l, c, ex, by rw [e, q]⟩ ⟨h1, h2⟩, fun j hj hc => ?_⟩
          rcases app_row a1 hj with e | e
          · exact hd j e hc
          · omega
        have z1 : h1.sz ≤ h2.sz := e2.1
        by_cases hlt' : i' < i
        · rw [List.getElem?_append_left (by omega)] at hu'
          rw [List.getElem?_take_of_lt (by omega)] at hp'
          obtain ⟨g1, g2, g3, g4⟩ := U.g i' p u (by rw [List.getElem?_take_of_lt hlt']; exact hp') hu'
          obtain ⟨k1, k2⟩ := keep3 g4 (by omega)
          refine ⟨gfr h1 h4 _ _ _ _ g1 fun j o c1 c2 c3 => k1 j o c1 c2 (e3.2 _ _ (e2.2 _ _ c3)), g2, by omega, k2⟩
        · have : i' = i := by
            have := (List.getElem?_eq_some_iff.1 hu').1
            rw [List.length_append, hvl] at this
            simp at this; omega
          subst this
          rw [List.getElem?_append_right (by omega), hvl, Nat.sub_self] at hu'
          simp at hu'
          subst hu'
          rw [List.getElem?_take_of_lt (by omega), hp] at hp'
          cases hp'
          obtain ⟨k1, k2⟩ := keep3 (lo := h1.sz) (hi := h2.sz) (fun j hj hc => by have := own_lt (own_low U.own) o1 hj; omega) (by omega)
          exact ⟨gfr h2 h4 _ _ _ _ hG fun j o c1 c2 c3 => k1 j o c1 c2 (e3.2 _ _ c3), e1.1, by show h2.sz ≤ h4.sz; omega, k2⟩
      · rw [List.pairwise_append]
        refine ⟨U.pw, by simp, fun u hu w hw => ?_⟩
        simp at hw; subst hw
        obtain ⟨i', hi', rfl⟩ := List.mem_iff_getElem.1 hu
        have := U.g i' T.cs[i'] vs[i'] (by rw [List.getElem?_take_of_lt (by omega)]; exact List.getElem?_eq_getElem _) (List.getElem?_eq_getElem _)
        exact this.2.2.1
    · refine z_cf (decide_eq_false (by omega)) ?_
      rw [List.take_of_length_le (by omega)] at U
      exact kk h1 out vs e1 o1 U

theorem c21 (O : TO τ h T) (W : TW T) (hc : T.came < 1000000) (hl : T.cs.length < 1000000) (hf : T.cs.length < n)
    (hg : ∀ k x, (k, x) ∈ T.cs → ∀ h1, h1.Ok → Ext h h1 → ∀ K' : Kont, (∀ h2 v, Ext h1 h2 → h2.Ok → v.leaf = true → G h2 h1.sz h2.sz x.vals v → K' v h2 = true) → callN E (n + 2) (.func 40) [x.vals] h1 K' = true)
    (gfr : ∀ h1 h2 lo hi a v, G h1 lo hi a v → (∀ j o, lo ≤ j → j < hi → h1.get j = some o → h2.get j = some o) → G h2 lo hi a v)
    (kk : ∀ h' out vs b, h.sz ≤ b → Ext h h' → h'.Ok → Outs G b h' out T.cs vs → K out h' = true) :
    callN E (n + 3) (.func 21) [.ptr T.p 0 0 0] h K = true := by
  have hmo : most = 1099511627776 := rfl
  apply d21
  unfold s21
  repeat first | with_reducible refine z_nil ?_ | with_reducible refine z_fadr ?_ | with_reducible refine z_some ?_ | with_reducible refine z_ext0 ?_ | with_reducible refine z_ext1 ?_ | with_reducible refine z_notT ?_ | with_reducible refine z_notF ?_ | with_reducible refine z_cT ?_ | with_reducible refine z_cF ?_ | with_reducible refine z_gtt ?_ | with_reducible refine z_gff ?_ | with_reducible refine z_gtf ?_ | with_reducible refine z_gft ?_ | with_reducible refine z_ptt ?_ | with_reducible refine z_pff ?_ | with_reducible refine z_ptf ?_ | with_reducible refine z_pft ?_ | with_reducible refine z_rtt ?_ | with_reducible refine z_rff ?_ | with_reducible refine z_rtf ?_ | with_reducible refine z_rft ?_ | with_reducible refine z_kt ?_ | with_reducible refine z_kf ?_ | with_reducible refine z_lss ?_ | with_reducible refine z_gtr ?_ | with_reducible refine z_leq ?_ | with_reducible refine z_geq ?_ | with_reducible refine z_eql ?_ | with_reducible refine z_neq ?_ | with_reducible refine z_seq ?_ | with_reducible refine z_sne ?_ | with_reducible refine z_slen ?_ | with_reducible refine z_eqp ?_ | with_reducible refine z_eqn ?_ | with_reducible refine z_cv ?_ | refine z_of O.l0 ?_
  obtain ⟨h1, r1, e1, o1, z1, IT⟩ := O.cs.range' O.ok
  refine z_p r1 ?_
  suffices H : ∀ m h2 lv (done : List (SK × CD)), T.cs.length - done.length < m → done.length ≤ T.cs.length → Ext h h2 → h2.Ok → h.sz < h2.sz → KIter sk h2 h.sz T.cm (mp (fun x => .ptr x.id 0 0 0) T.cs) (mp (fun x => .ptr x.id 0 0 0) done) → (∀ x ∈ done, x ∈ T.cs) → Own (h.sz + 1) h2 1 lv (done.map fun x => [pt x]) →
      l21_8 (callN E (n + 2)) (n + 2) m lv (.itr h.sz) h2 K = true from H (n + 2) h1 .nilSlc [] (by simp; omega) (Nat.zero_le _) e1 o1 (by omega) IT (by simp) (Own.nil _ _ _)
  intro m
  induction m with
  | zero => intro h2 lv done hm; omega
  | succ m ih =>
    intro h2 lv done hm hd e2 o2 z2 IT hin OL
    unfold l21_8 b21_8
    have cml := O.cs.lt O.ok
    refine IT.next sks o2 (by omega) (fun hP => ?_) (fun k v h3 hv hnd b3 o3 z3 IT3 ent => ?_)
    · repeat first | with_reducible refine z_nil ?_ | with_reducible refine z_fadr ?_ | with_reducible refine z_some ?_ | with_reducible refine z_ext0 ?_ | with_reducible refine z_ext1 ?_ | with_reducible refine z_notT ?_ | with_reducible refine z_notF ?_ | with_reducible refine z_cT ?_ | with_reducible refine z_cF ?_ | with_reducible refine z_gtt ?_ | with_reducible refine z_gff ?_ | with_reducible refine z_gtf ?_ | with_reducible refine z_gft ?_ | with_reducible refine z_ptt ?_ | with_reducible refine z_pff ?_ | with_reducible refine z_ptf ?_ | with_reducible refine z_pft ?_ | with_reducible refine z_rtt ?_ | with_reducible refine z_rff ?_ | with_reducible refine z_rtf ?_ | with_reducible refine z_rft ?_ | with_reducible refine z_kt ?_ | with_reducible refine z_kf ?_ | with_reducible refine z_lss ?_ | with_reducible refine z_gtr ?_ | with_reducible refine z_leq ?_ | with_reducible refine z_geq ?_ | with_reducible refine z_eql ?_ | with_reducible refine z_neq ?_ | with_reducible refine z_seq ?_ | with_reducible refine z_sne ?_ | with_reducible refine z_slen ?_ | with_reducible refine z_eqp ?_ | with_reducible refine z_eqn ?_ | with_reducible refine z_cv ?_ | refine z_some ?_
      have hinj : ∀ {a b : SK × CD}, a ∈ T.cs → b ∈ T.cs → a.1 = b.1 → a = b := fun {a b} ha hb e => by
        have h1 := lkG_of_mem (k := a.1) (u := a.2) W.ck ha
        have h2 := lkG_of_mem (k := b.1) (u := b.2) W.ck hb
        rw [e, h2] at h1
        injection h1 with h1
        exact Prod.ext e h1.symm
      have hPk : (done.map fun x => x.1).Perm (T.cs.map fun x => x.1) := by
        have := hP.map fun p => p.1
        rwa [mp_keys, mp_keys] at this
      have hP : done.Perm T.cs := by
        have nd1 : done.Nodup := by
          have := hPk.nodup_iff.2 W.ck
          rw [List.nodup_iff_pairwise_ne, List.pairwise_map] at this
          rw [List.nodup_iff_pairwise_ne]
          exact this.imp fun q e => q (by rw [e])
        have nd2 : T.cs.Nodup := by
          have := W.ck
          rw [List.nodup_iff_pairwise_ne, List.pairwise_map] at this
          rw [List.nodup_iff_pairwise_ne]
          exact this.imp fun q e => q (by rw [e])
        refine (List.perm_ext_iff_of_nodup nd1 nd2).2 fun p => ⟨hin p, fun hp => ?_⟩
        have : p.1 ∈ done.map fun x => x.1 := hPk.mem_iff.2 (List.mem_map.2 ⟨p, hp, rfl⟩)
        obtain ⟨q, hq, e⟩ := List.mem_map.1 this
        rw [← hinj (hin q hq) hp e]; exact hq
      unfold p21_19
      have O2 := O.ext e2 o2
      refine c51 o2 OL hP (fun x hx => ⟨(O2.c x.1 x.2 hx).row, by have := ((O.c x.1 x.2 hx).row.lt O.ok); omega, by
        have := W.tc x.2.came (by simp only [mp, List.map_map, List.mem_map]; exact ⟨x, hx, rfl⟩)
        omega⟩) (by have := W.sc; simpa [mp, List.map_map, Function.comp_def] using this) (by omega) fun h3 f3 o3 OL3 => ?_
      have e3 : Ext h h3 := f3.ext e2 O.ok fun j hj => by have := own_row OL hj; omega
      have VL := OL3.view
      have hlen : lenA h3 1 lv = some (.int .i64 (T.cs.length : Int)) := by have := VL.len; rwa [List.length_map] at this
      refine z_of hlen ?_
      refine l21 (n := n + 1) O hl o3 e3 VL hg gfr (fun h' out vs q1 q2 q3 => kk h' out vs h3.sz e3.1 (ext_two e3 q1) q2 q3) (n + 2) 0 h3 .nilSlc [] (by omega) (Nat.zero_le _) (Ext.refl _) o3 ⟨Own.nil _ _ _, rfl, by simp, by simp⟩
    · obtain ⟨y, hy, hye⟩ := List.mem_map.1 hv
      obtain ⟨k', x⟩ := y
      simp only [Prod.mk.injEq] at hye
      obtain ⟨rfl, rfl⟩ := hye
      repeat first | with_reducible refine z_nil ?_ | with_reducible refine z_fadr ?_ | with_reducible refine z_some ?_ | with_reducible refine z_ext0 ?_ | with_reducible refine z_ext1 ?_ | with_reducible refine z_notT ?_ | with_reducible refine z_notF ?_ | with_reducible refine z_cT ?_ | with_reducible refine z_cF ?_ | with_reducible refine z_gtt ?_ | with_reducible refine z_gff ?_ | with_reducible refine z_gtf ?_ | with_reducible refine z_gft ?_ | with_reducible refine z_ptt ?_ | with_reducible refine z_pff ?_ | with_reducible refine z_ptf ?_ | with_reducible refine z_pft ?_ | with_reducible refine z_rtt ?_ | with_reducible refine z_rff ?_ | with_reducible refine z_rtf ?_ | with_reducible refine z_rft ?_ | with_reducible refine z_kt ?_ | with_reducible refine z_kf ?_ | with_reducible refine z_lss ?_ | with_reducible refine z_gtr ?_ | with_reducible refine z_leq ?_ | with_reducible refine z_geq ?_ | with_reducible refine z_eql ?_ | with_reducible refine z_neq ?_ | with_reducible refine z_seq ?_ | with_reducible refine z_sne ?_ | with_reducible refine z_slen ?_ | with_reducible refine z_eqp ?_ | with_reducible refine z_eqn ?_ | with_reducible refine z_cv ?_ | refine z_of ent ?_
      have e3 : Ext h h3 := b3.ext e2 O.ok (Nat.le_refl _)
      obtain ⟨w, h4, c1, c2, e4, o4, z4, _⟩ := bslice1_v (sz := 1) (z := [AV.nilPtr]) (v := .ptr x.id 0 0 0) o3 rfl (by decide) (by decide) rfl rfl rfl
      refine z_p c1 ?_
      have OL3 : Own (h.sz + 1) h3 1 lv (done.map fun x => [pt x]) := by
        have := own_fr (own_low OL) (Fr.of_but (X := fun j => j = h.sz) rfl b3) (fun j hj e => by have := own_row OL hj; omega)
        rcases this with q | ⟨id, r, w1, w2, w3⟩
        · exact .inl q
        · exact .inr ⟨id, r, own_row OL (by rw [w2]; exact ⟨_, _, _, _, _, rfl⟩), w2, w3⟩
      obtain ⟨lv', h5, a1, a2, a3, a4, a5, a6, a7⟩ := (OL3.ext e4).app (bytes := 8) (h0 := h) (by decide) (by omega) o4 O.ok (ext_two e3 e4) (by omega) c2.src (by rw [List.length_map]; simp; omega) (by rw [List.length_map]; simp; omega)
      refine z_p a1 ?_
      have nin : (k', x) ∉ done := fun q => hnd (List.mem_map.2 ⟨_, q, rfl⟩)
      have hdl : done.length < T.cs.length := by
        have : ((mp (fun x : CD => AV.ptr x.id 0 0 0) (done ++ [(k', x)])).map fun p => p.1).Nodup := by
          have e : mp (fun x : CD => AV.ptr x.id 0 0 0) (done ++ [(k', x)]) = mp (fun x : CD => AV.ptr x.id 0 0 0) done ++ [(k', .ptr x.id 0 0 0)] := by simp [mp]
          rw [e]; exact kiter_nodup sks IT3
        rw [mp_keys] at this
        have := nodup_len this (b := T.cs.map fun p => p.1) fun a ha => by
          obtain ⟨q, hq, rfl⟩ := List.mem_map.1 ha
          refine List.mem_map.2 ⟨q, ?_, rfl⟩
          rcases List.mem_append.1 hq with hq | hq
          · exact hin q hq
          · simp at hq; subst hq; exact hy
        rw [List.length_map, List.length_map, List.length_append] at this
        simp at this; omega
      have g5 : ∀ j o, h3.get j = some o → ¬ inRow lv j → h5.get j = some o := fun j o q nq => a6 j o (e4.2 _ _ q) fun id g s l c ex e q => nq ⟨g, s, l, c, ex, by rw [e, q]⟩
      have f35 : Fr (inRow lv) h3 h5 := ⟨by omega, fun j o nq q => g5 j o q nq⟩
      refine ih h5 lv' (done ++ [(k', x)]) (by rw [List.length_append]; simp; omega) (by rw [List.length_append]; simp; omega) a4 a3 (by omega) ?_ ?_ ?_
      · have : mp (fun x : CD => AV.ptr x.id 0 0 0) (done ++ [(k', x)]) = mp (fun x : CD => AV.ptr x.id 0 0 0) done ++ [(k', .ptr x.id 0 0 0)] := by simp [mp]
        rw [this]
        exact f35.kiter IT3 (fun q => by have := own_row OL q; omega) (fun q => by have := own_row OL q; omega)
      · intro a ha
        rcases List.mem_append.1 ha with ha | ha
        · exact hin a ha
        · simp at ha; subst ha; exact hy
      · rw [List.map_append]; exact a2

theorem c8 {h : AHeap} (o : h.Ok) (kk : ∀ h' T τ, TO τ h' T → TW T → Ext h h' → T.cs = [] → T.rs = [] → T.came = 0 → T.n = 0 → (∀ j, j < h.sz → τ j = .out) → h.sz ≤ T.p → K (.ptr T.p 0 0 0) h' = true) : callN E (n + 1) (.func 8) [] h K = true := by
  apply d8
  unfold s8
  obtain ⟨h1, a1, M1, e1, o1, z1⟩ := mkmap_v sk o
  refine z_p a1 ?_
  obtain ⟨h2, a2, M2, e2, o2, z2⟩ := mkmap_v bk2 o1
  refine z_p a2 ?_
  refine z_of (v := .agg [.map h.sz, .map h1.sz, .int .i64 0, .int .i64 0]) rfl ?_
  obtain ⟨h3, a3, V3, e3, o3, z3⟩ := box_v (n := 4) (v := .agg [.map h.sz, .map h1.sz, .int .i64 0, .int .i64 0]) o2 rfl (by decide) rfl
  refine z_p a3 ?_
  have V3 : Var h3 h2.sz [.map h.sz, .map h1.sz, .int .i64 0, .int .i64 0] := V3
  refine kk h3 ⟨h2.sz, h.sz, h1.sz, [], [], 0, 0⟩ (fun j => if j = h2.sz then .p else if j = h.sz then .cm else if j = h1.sz then .rm else .out) ⟨o3, fun j hj => ?_, by simp, ?_, ?_, V3, ?_, ?_, by simp, by simp⟩ ?_ (ext_two (ext_two e1 e2) e3) rfl rfl rfl rfl (fun j hj => ?_) (by show h.sz ≤ h2.sz; omega)
  · rw [if_neg (by omega), if_neg (by omega), if_neg (by omega)]
  · have n1 : ¬ h.sz = h2.sz := by omega
    simp only [n1, if_false, if_true]
  · have n1 : ¬ h1.sz = h2.sz := by omega
    have n2 : ¬ h1.sz = h.sz := by omega
    simp only [n1, n2, if_false, if_true]
  · exact (Fr.of_ext (X := fun _ => False) (ext_two e2 e3)).kmap M1 id
  · exact (Fr.of_ext (X := fun _ => False) e3).kmap M2 id
  · exact ⟨by simp, by simp, fun _ _ h => (by cases h), fun _ _ h => (by cases h), fun _ _ => ⟨fun ⟨_, h, _⟩ => (by cases h), fun ⟨_, h, _⟩ => (by cases h)⟩, fun _ _ h => (by cases h), fun _ _ h => (by cases h), by simp [mp], by simp [mp], by simp [mp], by simp [mp], rfl⟩
  · rw [if_neg (by omega), if_neg (by omega), if_neg (by omega)]
end
end Go.Proofs.Ytbamgdknkhhikaa
