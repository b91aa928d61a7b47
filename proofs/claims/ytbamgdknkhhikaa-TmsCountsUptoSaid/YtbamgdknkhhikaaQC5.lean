/-
  Texts that the claim hangs on, part 6.
-/
import Derived.Test.YtbamgdknkhhikaaQC4
import Derived.Test.YtbamgdknkhhikaaRows
import Derived.KernelRfl
import Derived.Shelf.SlSortCmp.NoneTotal
import Derived.Ground.SlsfProg
import Derived.Test.YtbamgdknkhhikaaProg
import Derived.Test.YtbamgdknkhhikaaChecked
import Derived.Conc.MuLone
namespace Go.Proofs.Ytbamgdknkhhikaa
open Go.Ab
set_option linter.unusedSimpArgs false
set_option linter.unusedVariables false
def Kp (lo hi : Nat) (h h' : AHeap) : Prop := ∀ j o, lo ≤ j → j < hi → h.get j = some o → h'.get j = some o
theorem Kp.refl (lo hi : Nat) (h : AHeap) : Kp lo hi h h := fun _ _ _ _ e => e
theorem Kp.trans {lo hi : Nat} {a b c : AHeap} (p : Kp lo hi a b) (q : Kp lo hi b c) : Kp lo hi a c := fun j o l1 l2 e => q j o l1 l2 (p j o l1 l2 e)
theorem Kp.of_ext {lo hi : Nat} {h h' : AHeap} (e : Ext h h') : Kp lo hi h h' := fun j o _ _ g => e.2 j o g
theorem Kp.sub {lo hi lo' hi' : Nat} {h h' : AHeap} (p : Kp lo hi h h') (l1 : lo ≤ lo') (l2 : hi' ≤ hi) : Kp lo' hi' h h' := fun j o a b g => p j o (by omega) (by omega) g
theorem Kp.of_fr {lo hi : Nat} {h h' : AHeap} {X : Nat → Prop} (f : Fr X h h') (d : ∀ j, X j → ¬ (lo ≤ j ∧ j < hi)) : Kp lo hi h h' := fun j o a b g => f.keep j o (fun x => d j x ⟨a, b⟩) g
theorem Kp.of_but {lo hi id : Nat} {h h' : AHeap} (f : But id h h') (d : ¬ (lo ≤ id ∧ id < hi)) : Kp lo hi h h' := fun j o a b g => f.keep j o (fun e => d (by rw [← e]; exact ⟨a, b⟩)) g
def Gv (l : List Val) (h : AHeap) (lo hi : Nat) (v : AV) : Prop := ∀ h', Kp lo hi h h' → VV h' v l
def Gx (x : Val) (h : AHeap) (lo hi : Nat) (a : List AV) : Prop := ∀ h', Kp lo hi h h' → RV h' a x
theorem Gv.fr {l : List Val} {h h' : AHeap} {lo hi : Nat} {v : AV} (G : Gv l h lo hi v) (k : Kp lo hi h h') : Gv l h' lo hi v := fun h'' q => G h'' (k.trans q)
theorem Gx.fr {x : Val} {h h' : AHeap} {lo hi : Nat} {v : List AV} (G : Gx x h lo hi v) (k : Kp lo hi h h') : Gx x h' lo hi v := fun h'' q => G h'' (k.trans q)
theorem Gv.now {l : List Val} {h : AHeap} {lo hi : Nat} {v : AV} (G : Gv l h lo hi v) : VV h v l := G h (Kp.refl _ _ _)
theorem Gx.now {x : Val} {h : AHeap} {lo hi : Nat} {v : List AV} (G : Gx x h lo hi v) : RV h v x := G h (Kp.refl _ _ _)
theorem RV.of {h : AHeap} {k n : Int} {b : Bool} {t : Str} {l : List Val} {lv : AV} (V : VV h lv l) (r : (-9223372036854775808 ≤ n ∧ n ≤ 9223372036854775807) ∧ (-9223372036854775808 ≤ k ∧ k ≤ 9223372036854775807) ∧ ∀ x ∈ t, x < 256) : RV h [.int .i64 k, .bool b, .int .i64 n, .str t, lv] (.mk k b n t l) := by
  obtain ⟨es, h1, h2⟩ := V
  simp only [RV]
  exact ⟨lv, es, rfl, h1, RVs.of h2, r⟩
structure Cps (b : Nat) (h : AHeap) (out : AV) (es : List (List AV)) (l : List Val) : Prop where
  own : Own b h 5 out es
  len : es.length = l.length
  g : ∀ (i : Nat) (e : List AV) (x : Val), es[i]? = some e → l[i]? = some x → ∃ lo hi, b ≤ lo ∧ hi ≤ h.sz ∧ (∀ j, inRow out j → ¬ (lo ≤ j ∧ j < hi)) ∧ Gx x h lo hi e
theorem all2_of {α β : Type} {R : α → β → Prop} : ∀ {l : List α} {m : List β}, l.length = m.length → (∀ (i : Nat) a b, l[i]? = some a → m[i]? = some b → R a b) → All2 R l m
  | [], [], _, _ => .nil
  | [], _ :: _, h, _ => by simp at h
  | _ :: _, [], h, _ => by simp at h
  | a :: l, b :: m, h, k => .cons (k 0 a b rfl rfl) (all2_of (by simpa using h) fun i x y h1 h2 => k (i + 1) x y h1 h2)
theorem Cps.gv {b : Nat} {h : AHeap} {out : AV} {es : List (List AV)} {l : List Val} (C : Cps b h out es l) (o : h.Ok) (hb : b ≤ h.sz) : Gv l h b h.sz out := by
  intro h' k
  refine ⟨es, ?_, all2_of C.len fun i e x h1 h2 => ?_⟩
  · rcases C.own with ⟨rfl, rfl⟩ | ⟨id, r, w1, rfl, w3, w4, w5, w6, w7⟩
    · exact View.nil _ _
    · have : h'.row id = some r := by
        rw [AHeap.row_some] at w3 ⊢
        exact k id _ w1 (o.lt w3) w3
      exact (Own.view (.inr ⟨id, r, w1, rfl, this, w4, w5, w6, w7⟩))
  · obtain ⟨lo, hi, q1, q2, _, q4⟩ := C.g i e x h1 h2
    exact q4 h' (k.sub q1 q2)
section
variable {h : AHeap}
theorem c61 {n : Nat} {a : List AV} {x : Val} {K : Kont} (ho : h.Ok) (R : RV h a x)
    (hl : ∀ {h1 lv ll} {K' : Kont}, (∃ k b n t, x = .mk k b n t ll) → VV h1 lv ll → h1.Ok → (∀ h2 v, Ext h1 h2 → h2.Ok → v.leaf = true → AV.same v v = true → Gv ll h2 h1.sz h2.sz v → K' v h2 = true) → callN E n (.func 40) [lv] h1 K' = true)
    (kk : ∀ h2 a', Ext h h2 → h2.Ok → Gx x h2 h.sz h2.sz a' → K (.agg a') h2 = true) : callN E (n + 1) (.func 61) [.agg a] h K = true := by
  obtain ⟨g1, g2, g3, g4⟩ := R.agg
  obtain ⟨k, b, nn, t, ll⟩ := x
  obtain ⟨lv, rfl, VL, rr⟩ := R.cells
  apply d61
  unfold s61
  obtain ⟨h1, q1, V1, e1, o1, z1⟩ := box_v (n := 5) ho g2 (by decide) g3
  rw [g4] at V1
  refine z_p q1 ?_
  obtain ⟨h2, q2, V2, e2, o2, z2⟩ := alloc_v (z := [AV.int .i64 0, .bool false, .int .i64 0, .str [], .nilSlc]) o1 (by decide) rfl
  refine z_p q2 ?_
  have V1 := V1.ext e2
  have A4 : loadA h2 false 1 (.ptr h.sz 0 0 4) = some lv := V1.get rfl
  repeat first | (with_reducible first | refine z_nil ?_ | refine z_fadr ?_ | refine z_some ?_ | refine z_ext0 ?_ | refine z_ext1 ?_ | refine z_notT ?_ | refine z_notF ?_ | refine z_cT ?_ | refine z_cF ?_ | refine z_gtt ?_ | refine z_gff ?_ | refine z_gtf ?_ | refine z_gft ?_ | refine z_ptt ?_ | refine z_pff ?_ | refine z_ptf ?_ | refine z_pft ?_ | refine z_rtt ?_ | refine z_rff ?_ | refine z_rtf ?_ | refine z_rft ?_ | refine z_kt ?_ | refine z_kf ?_ | refine z_lss ?_ | refine z_gtr ?_ | refine z_leq ?_ | refine z_geq ?_ | refine z_eql ?_ | refine z_neq ?_ | refine z_seq ?_ | refine z_sne ?_ | refine z_slen ?_ | refine z_eqp ?_ | refine z_eqn ?_ | refine z_cv ?_) | refine z_of A4 ?_
  refine hl ⟨k, b, nn, t, rfl⟩ ((VL.ext e1).ext e2) o2 fun h3 v e3 o3 lf sm G => ?_
  obtain ⟨h4, w1, W, w3, o4, w5⟩ := (V1.ext e3).wr o3 (off := 4) (v := v) (show 4 < 5 by decide) lf
  repeat first | (with_reducible first | refine z_nil ?_ | refine z_fadr ?_ | refine z_some ?_ | refine z_ext0 ?_ | refine z_ext1 ?_ | refine z_notT ?_ | refine z_notF ?_ | refine z_cT ?_ | refine z_cF ?_ | refine z_gtt ?_ | refine z_gff ?_ | refine z_gtf ?_ | refine z_gft ?_ | refine z_ptt ?_ | refine z_pff ?_ | refine z_ptf ?_ | refine z_pft ?_ | refine z_rtt ?_ | refine z_rff ?_ | refine z_rtf ?_ | refine z_rft ?_ | refine z_kt ?_ | refine z_kf ?_ | refine z_lss ?_ | refine z_gtr ?_ | refine z_leq ?_ | refine z_geq ?_ | refine z_eql ?_ | refine z_neq ?_ | refine z_seq ?_ | refine z_sne ?_ | refine z_slen ?_ | refine z_eqp ?_ | refine z_eqn ?_ | refine z_cv ?_)
  refine z_u w1 ?_
  have W : Var h4 h.sz [.int .i64 k, .bool b, .int .i64 nn, .str t, v] := W
  have A : loadA h4 true 5 (.ptr h.sz 0 0 0) = some (.agg [.int .i64 k, .bool b, .int .i64 nn, .str t, v]) := W.all rfl
  repeat first | (with_reducible first | refine z_nil ?_ | refine z_fadr ?_ | refine z_some ?_ | refine z_ext0 ?_ | refine z_ext1 ?_ | refine z_notT ?_ | refine z_notF ?_ | refine z_cT ?_ | refine z_cF ?_ | refine z_gtt ?_ | refine z_gff ?_ | refine z_gtf ?_ | refine z_gft ?_ | refine z_ptt ?_ | refine z_pff ?_ | refine z_ptf ?_ | refine z_pft ?_ | refine z_rtt ?_ | refine z_rff ?_ | refine z_rtf ?_ | refine z_rft ?_ | refine z_kt ?_ | refine z_kf ?_ | refine z_lss ?_ | refine z_gtr ?_ | refine z_leq ?_ | refine z_geq ?_ | refine z_eql ?_ | refine z_neq ?_ | refine z_seq ?_ | refine z_sne ?_ | refine z_slen ?_ | refine z_eqp ?_ | refine z_eqn ?_ | refine z_cv ?_) | refine z_of A ?_
  have V2 : Var h4 h1.sz [AV.int .i64 0, .bool false, .int .i64 0, .str [], .nilSlc] := w3.var (V2.ext e3) (by omega)
  obtain ⟨h5, x1, X, x3, o5, x5⟩ := V2.wrs o4 (n := 5) (v := .agg [.int .i64 k, .bool b, .int .i64 nn, .str t, v]) rfl rfl (by simp only [AV.cells, allLeaf, lf]; rfl)
  refine z_u x1 ?_
  have X : Var h5 h1.sz [.int .i64 k, .bool b, .int .i64 nn, .str t, v] := X
  refine res1 (X.all rfl) ?_
  have e15 : Ext h h5 := x3.ext (w3.ext (ext_two (ext_two e1 e2) e3) ho (Nat.le_refl _)) ho (by omega)
  refine kk h5 _ e15 o5 fun h' kp => RV.of (G h' fun j o j1 j2 g => ?_) rr
  refine kp j o (by omega) ?_ (x3.keep j o (by omega) (w3.keep j o (by omega) g))
  have := w5; have := x5; omega
theorem c40 : ∀ (k n : Nat) {h : AHeap} {v : AV} {l : List Val} {K : Kont}, VV h v l → h.Ok → szVs l ≤ k → 2 * k + 2 ≤ n → k < 1000000000 → n < lim →
    (∀ h2 v', Ext h h2 → h2.Ok → v'.leaf = true → AV.same v' v' = true → Gv l h2 h.sz h2.sz v' → K v' h2 = true) → callN E (n + 1) (.func 40) [v] h K = true := by
  intro k
  induction k with
  | zero =>
    intro n h v l K V ho hk hn hB hL kk
    have : l = [] := by
      cases l with
      | nil => rfl
      | cons x t => have := szVs_len (x :: t); simp at this; omega
    subst this
    apply d40
    unfold s40
    obtain ⟨n, rfl⟩ : ∃ j, n = j + 1 := ⟨n - 1, by omega⟩
    repeat first | (with_reducible first | refine z_nil ?_ | refine z_fadr ?_ | refine z_some ?_ | refine z_ext0 ?_ | refine z_ext1 ?_ | refine z_notT ?_ | refine z_notF ?_ | refine z_cT ?_ | refine z_cF ?_ | refine z_gtt ?_ | refine z_gff ?_ | refine z_gtf ?_ | refine z_gft ?_ | refine z_ptt ?_ | refine z_pff ?_ | refine z_ptf ?_ | refine z_pft ?_ | refine z_rtt ?_ | refine z_rff ?_ | refine z_rtf ?_ | refine z_rft ?_ | refine z_kt ?_ | refine z_kf ?_ | refine z_lss ?_ | refine z_gtr ?_ | refine z_leq ?_ | refine z_geq ?_ | refine z_eql ?_ | refine z_neq ?_ | refine z_seq ?_ | refine z_sne ?_ | refine z_slen ?_ | refine z_eqp ?_ | refine z_eqn ?_ | refine z_cv ?_) | refine z_of V.len ?_
    unfold l40_8 b40_8
    repeat first | (with_reducible first | refine z_nil ?_ | refine z_fadr ?_ | refine z_some ?_ | refine z_ext0 ?_ | refine z_ext1 ?_ | refine z_notT ?_ | refine z_notF ?_ | refine z_cT ?_ | refine z_cF ?_ | refine z_gtt ?_ | refine z_gff ?_ | refine z_gtf ?_ | refine z_gft ?_ | refine z_ptt ?_ | refine z_pff ?_ | refine z_ptf ?_ | refine z_pft ?_ | refine z_rtt ?_ | refine z_rff ?_ | refine z_rtf ?_ | refine z_rft ?_ | refine z_kt ?_ | refine z_kf ?_ | refine z_lss ?_ | refine z_gtr ?_ | refine z_leq ?_ | refine z_geq ?_ | refine z_eql ?_ | refine z_neq ?_ | refine z_seq ?_ | refine z_sne ?_ | refine z_slen ?_ | refine z_eqp ?_ | refine z_eqn ?_ | refine z_cv ?_)
    exact kk h .nilSlc (Ext.refl _) ho rfl same_nslc fun h' _ => ⟨[], View.nil _ _, .nil⟩
  | succ k ih =>
    intro n hs v l K V ho hk hn hB hL kk
    have hlm : lim = 4611686018427387904 := rfl
    have hmo : most = 1099511627776 := rfl
    have hlen := szVs_len l
    apply d40
    unfold s40
    repeat first | (with_reducible first | refine z_nil ?_ | refine z_fadr ?_ | refine z_some ?_ | refine z_ext0 ?_ | refine z_ext1 ?_ | refine z_notT ?_ | refine z_notF ?_ | refine z_cT ?_ | refine z_cF ?_ | refine z_gtt ?_ | refine z_gff ?_ | refine z_gtf ?_ | refine z_gft ?_ | refine z_ptt ?_ | refine z_pff ?_ | refine z_ptf ?_ | refine z_pft ?_ | refine z_rtt ?_ | refine z_rff ?_ | refine z_rtf ?_ | refine z_rft ?_ | refine z_kt ?_ | refine z_kf ?_ | refine z_lss ?_ | refine z_gtr ?_ | refine z_leq ?_ | refine z_geq ?_ | refine z_eql ?_ | refine z_neq ?_ | refine z_seq ?_ | refine z_sne ?_ | refine z_slen ?_ | refine z_eqp ?_ | refine z_eqn ?_ | refine z_cv ?_) | refine z_of V.len ?_
    suffices H : ∀ m i h out es, l.length - i < m → i ≤ l.length → Ext hs h → h.Ok → Cps hs.sz h out es (l.take i) → l40_8 (callN E n) n m out v (.int .i64 (l.length : Int)) (.int .i64 (i : Int)) h K = true from
      H n 0 hs .nilSlc [] (by omega) (Nat.zero_le _) (Ext.refl _) ho ⟨Own.nil _ _ _, rfl, by simp⟩
    intro m
    induction m with
    | zero => intro i h out es hm; omega
    | succ m ihm =>
      intro i h out es hm hi e o C
      unfold l40_8 b40_8
      repeat first | (with_reducible first | refine z_nil ?_ | refine z_fadr ?_ | refine z_some ?_ | refine z_ext0 ?_ | refine z_ext1 ?_ | refine z_notT ?_ | refine z_notF ?_ | refine z_cT ?_ | refine z_cF ?_ | refine z_gtt ?_ | refine z_gff ?_ | refine z_gtf ?_ | refine z_gft ?_ | refine z_ptt ?_ | refine z_pff ?_ | refine z_ptf ?_ | refine z_pft ?_ | refine z_rtt ?_ | refine z_rff ?_ | refine z_rtf ?_ | refine z_rft ?_ | refine z_kt ?_ | refine z_kf ?_ | refine z_lss ?_ | refine z_gtr ?_ | refine z_leq ?_ | refine z_geq ?_ | refine z_eql ?_ | refine z_neq ?_ | refine z_seq ?_ | refine z_sne ?_ | refine z_slen ?_ | refine z_eqp ?_ | refine z_eqn ?_ | refine z_cv ?_)
      by_cases hlt : i < l.length
      · refine z_ct (decide_eq_true (by omega)) ?_
        obtain ⟨id, g, j, ee, p1, p2, R⟩ := (V.ext e).at (List.getElem?_eq_getElem hlt)
        obtain ⟨g1, g2, g3, g4⟩ := R.agg
        have hel : ee.length = 5 := by rw [← g4]; exact g2
        have A : loadA h true 5 (.ptr id g j 0) = some (.agg ee) := by rw [p2]; exact g1
        have hm2 := szVs_mem (List.getElem_mem hlt)
        repeat first | (with_reducible first | refine z_nil ?_ | refine z_fadr ?_ | refine z_some ?_ | refine z_ext0 ?_ | refine z_ext1 ?_ | refine z_notT ?_ | refine z_notF ?_ | refine z_cT ?_ | refine z_cF ?_ | refine z_gtt ?_ | refine z_gff ?_ | refine z_gtf ?_ | refine z_gft ?_ | refine z_ptt ?_ | refine z_pff ?_ | refine z_ptf ?_ | refine z_pft ?_ | refine z_rtt ?_ | refine z_rff ?_ | refine z_rtf ?_ | refine z_rft ?_ | refine z_kt ?_ | refine z_kf ?_ | refine z_lss ?_ | refine z_gtr ?_ | refine z_leq ?_ | refine z_geq ?_ | refine z_eql ?_ | refine z_neq ?_ | refine z_seq ?_ | refine z_sne ?_ | refine z_slen ?_ | refine z_eqp ?_ | refine z_eqn ?_ | refine z_cv ?_) | refine z_of (p1 .i64) ?_ | refine z_of A ?_
        obtain ⟨h2, q2, V2, e2, o2, z2⟩ := alloc_v (z := [AV.int .i64 0, .bool false, .int .i64 0, .str [], .nilSlc]) o (by decide) rfl
        refine z_p q2 ?_
        obtain ⟨h3, w1, W, w3, o3, w5⟩ := V2.wrs o2 (n := 5) (v := .agg ee) g2 rfl g3
        refine z_u w1 ?_
        rw [g4] at W
        have A2 : loadA h3 true 5 (.ptr h.sz 0 0 0) = some (.agg ee) := W.all hel
        have e3 : Ext h h3 := w3.ext e2 o (Nat.le_refl _)
        repeat first | (with_reducible first | refine z_nil ?_ | refine z_fadr ?_ | refine z_some ?_ | refine z_ext0 ?_ | refine z_ext1 ?_ | refine z_notT ?_ | refine z_notF ?_ | refine z_cT ?_ | refine z_cF ?_ | refine z_gtt ?_ | refine z_gff ?_ | refine z_gtf ?_ | refine z_gft ?_ | refine z_ptt ?_ | refine z_pff ?_ | refine z_ptf ?_ | refine z_pft ?_ | refine z_rtt ?_ | refine z_rff ?_ | refine z_rtf ?_ | refine z_rft ?_ | refine z_kt ?_ | refine z_kf ?_ | refine z_lss ?_ | refine z_gtr ?_ | refine z_leq ?_ | refine z_geq ?_ | refine z_eql ?_ | refine z_neq ?_ | refine z_seq ?_ | refine z_sne ?_ | refine z_slen ?_ | refine z_eqp ?_ | refine z_eqn ?_ | refine z_cv ?_) | refine z_of A2 ?_
        obtain ⟨n, rfl⟩ : ∃ j, n = j + 2 := ⟨n - 2, by omega⟩
        refine c61 (n := n + 1) o3 (R.ext e3) (fun {h1 lv ll K'} hx V1 o1 kk' => ?_) fun h4 a' e4 o4 Gx' => ?_
        · obtain ⟨k', b, nn, t, hx⟩ := hx
          have : szVs ll + 1 ≤ szVs l := by rw [hx] at hm2; simp only [szV] at hm2; omega
          exact ih n V1 o1 (by omega) (by omega) (by omega) (by omega) kk'
        · obtain ⟨f1, f2, f3, f4⟩ := Gx'.now.agg
          obtain ⟨w, h5, b1, b2, e5, o5, z5, _⟩ := bslice1_v (sz := 5) (z := [AV.int .i64 0, .bool false, .int .i64 0, .str [], .nilSlc]) (v := .agg a') o4 rfl (by decide) (by decide) rfl f2 f3
          rw [f4] at b2
          refine z_p b1 ?_
          have eh5 := ext_two (ext_two e3 e4) e5
          have e05 := ext_two e eh5
          have hEl : es.length = i := by rw [C.len, List.length_take]; omega
          obtain ⟨out', h6, a1, a2, a3, a4, a5, a6⟩ := own_app2 (bytes := 64) (C.own.ext eh5) (by decide) e05.1 o5 ho e05 (Nat.le_refl _) b2.src (by rw [hEl]; simp; omega) (by rw [hEl]; simp; omega)
          refine z_p a1 ?_
          repeat first | (with_reducible first | refine z_nil ?_ | refine z_fadr ?_ | refine z_some ?_ | refine z_ext0 ?_ | refine z_ext1 ?_ | refine z_notT ?_ | refine z_notF ?_ | refine z_cT ?_ | refine z_cF ?_ | refine z_gtt ?_ | refine z_gff ?_ | refine z_gtf ?_ | refine z_gft ?_ | refine z_ptt ?_ | refine z_pff ?_ | refine z_ptf ?_ | refine z_pft ?_ | refine z_rtt ?_ | refine z_rff ?_ | refine z_rtf ?_ | refine z_rft ?_ | refine z_kt ?_ | refine z_kf ?_ | refine z_lss ?_ | refine z_gtr ?_ | refine z_leq ?_ | refine z_geq ?_ | refine z_eql ?_ | refine z_neq ?_ | refine z_seq ?_ | refine z_sne ?_ | refine z_slen ?_ | refine z_eqp ?_ | refine z_eqn ?_ | refine z_cv ?_) | refine z_of (inc64 (i := i) (by omega)) ?_
          have lowr : ∀ j, inRow out j → j < h.sz := fun j hj => own_lt (own_low C.own) o hj
          refine ihm (i + 1) h6 out' (es ++ [a']) (by omega) (by omega) a4 a3 ⟨a2, by rw [List.length_append, hEl, List.length_take]; simp; omega, fun i' e' x he hx => ?_⟩
          by_cases hlt' : i' < i
          · rw [List.getElem?_append_left (by omega)] at he
            rw [List.getElem?_take_of_lt (by omega)] at hx
            obtain ⟨lo, hi', c1, c2, c3, c4⟩ := C.g i' e' x he (by rw [List.getElem?_take_of_lt hlt']; exact hx)
            have := eh5.1
            have := a5.sz
            refine ⟨lo, hi', c1, by omega, fun j hj q => ?_, c4.fr ((Kp.of_ext eh5).trans (Kp.of_fr a5 c3))⟩
            rcases a6 j hj with q' | q'
            · exact c3 j q' q
            · omega
          · have : i' = i := by
              have := (List.getElem?_eq_some_iff.1 he).1
              rw [List.length_append, hEl] at this
              simp at this; omega
            subst this
            rw [List.getElem?_append_right (by omega), hEl, Nat.sub_self] at he
            simp at he
            subst he
            rw [List.getElem?_take_of_lt (by omega), List.getElem?_eq_getElem hlt] at hx
            cases hx
            have s1 := e.1; have s2 := e3.1; have s3 := e4.1; have s4 := e5.1; have s5 := a5.sz
            refine ⟨h3.sz, h4.sz, by omega, by omega, fun j hj q => ?_, Gx'.fr ((Kp.of_ext e5).trans (Kp.of_fr a5 fun j hj q => ?_))⟩
            · rcases a6 j hj with q' | q'
              · have := lowr j q'; omega
              · omega
            · have := lowr j hj; omega
      · refine z_cf (decide_eq_false (by omega)) ?_
        rw [List.take_of_length_le (by omega)] at C
        have V' := (C.own.view)
        exact kk h out e o V'.leaf V'.same (C.gv o e.1)
end
end Go.Proofs.Ytbamgdknkhhikaa
namespace Go.Proofs.Ytbamgdknkhhikaa
open Go.Ab
set_option linter.unusedSimpArgs false
set_option linter.unusedVariables false
structure Cp {α : Type} (n : Nat) (R : Rd α) (b : Nat) (h : AHeap) (out : AV) (es : List (List AV)) (l : List α) : Prop where
  own : Own b h n out es
  len : es.length = l.length
  g : ∀ (i : Nat) (e : List AV) (x : α), es[i]? = some e → l[i]? = some x → ∃ lo hi, b ≤ lo ∧ hi ≤ h.sz ∧ (∀ j, inRow out j → ¬ (lo ≤ j ∧ j < hi)) ∧ ∀ h', Kp lo hi h h' → R h' e x
section
variable {α : Type} {n b : Nat} {R : Rd α} {h h' : AHeap} {out : AV} {es : List (List AV)} {l : List α}
theorem Cp.nil : Cp n R b h .nilSlc [] ([] : List α) := ⟨Own.nil _ _ _, rfl, by simp⟩
theorem Cp.fr (C : Cp n R b h out es l) {X : Nat → Prop} (f : Fr X h h') (d : ∀ j, X j → ¬ b ≤ j) : Cp n R b h' out es l := by
  refine ⟨?_, C.len, fun i e x h1 h2 => ?_⟩
  · rcases C.own with q | ⟨id, r, w1, w2, w3, w⟩
    · exact .inl q
    · exact .inr ⟨id, r, w1, w2, f.row (fun x => d _ x w1) w3, w⟩
  · obtain ⟨lo, hi, q1, q2, q3, q4⟩ := C.g i e x h1 h2
    exact ⟨lo, hi, q1, Nat.le_trans q2 f.sz, q3, fun h'' k => q4 h'' ((Kp.of_fr f fun j x ⟨y, _⟩ => d j x (by omega)).trans k)⟩
theorem Cp.ext (C : Cp n R b h out es l) (e : Ext h h') : Cp n R b h' out es l := C.fr (Fr.of_ext (X := fun _ => False) e) fun _ x => x.elim
theorem Cp.read (C : Cp n R b h out es l) (o : h.Ok) (k : Kp b h.sz h h') : View h' n out es ∧ All2 (R h') es l := by
  refine ⟨?_, all2_of C.len fun i e x h1 h2 => ?_⟩
  · rcases C.own with ⟨rfl, rfl⟩ | ⟨id, r, w1, rfl, w3, w4, w5, w6, w7⟩
    · exact View.nil _ _
    · have : h'.row id = some r := by
        rw [AHeap.row_some] at w3 ⊢
        exact k id _ w1 (o.lt w3) w3
      exact (Own.view (.inr ⟨id, r, w1, rfl, this, w4, w5, w6, w7⟩))
  · obtain ⟨lo, hi, q1, q2, _, q4⟩ := C.g i e x h1 h2
    exact q4 h' (k.sub q1 q2)
theorem Cp.push {h0 h5 : AHeap} {w : AV} {a : List AV} {x : α} {bytes lo hi : Nat} (C : Cp n R b h out es l) (k0 : h0.Ok) (e0 : Ext h0 h5) (hb0 : h0.sz ≤ b) (hb : b ≤ h.sz) (o : h.Ok) (eh : Ext h h5) (o5 : h5.Ok) (l1 : h.sz ≤ lo) (l2 : hi ≤ h5.sz) (G : ∀ h', Kp lo hi h5 h' → R h' a x)
    (hn : 0 < n) (src : source h5 n w = some [a]) (r1 : (l.length + 1) * bytes ≤ most) (r2 : l.length + 1 ≤ most) :
    ∃ out' h6, appendA h5 n bytes out w = some (out', h6) ∧ Cp n R b h6 out' (es ++ [a]) (l ++ [x]) ∧ h6.Ok ∧ Ext h0 h6 ∧ Fr (inRow out) h5 h6 ∧ (∀ j, inRow out' j → inRow out j ∨ j = h5.sz) := by
  have s1 := eh.1
  obtain ⟨out', h6, a1, a2, a3, a4, a5, a6⟩ := own_app2 (bytes := bytes) (C.own.ext eh) hn (by omega) o5 k0 e0 hb0 src (by rw [C.len]; exact r1) (by rw [C.len]; exact r2)
  have s2 := a5.sz
  have lowr : ∀ j, inRow out j → j < h.sz := fun j hj => own_lt (own_low C.own) o hj
  refine ⟨out', h6, a1, ⟨a2, by simp [C.len], fun i e y he hy => ?_⟩, a3, a4, a5, a6⟩
  by_cases hlt : i < l.length
  · rw [List.getElem?_append_left (by rw [C.len]; exact hlt)] at he
    rw [List.getElem?_append_left hlt] at hy
    obtain ⟨lo', hi', c1, c2, c3, c4⟩ := C.g i e y he hy
    refine ⟨lo', hi', c1, by omega, fun j hj q => ?_, fun h' k => c4 h' (((Kp.of_ext eh).trans (Kp.of_fr a5 c3)).trans k)⟩
    rcases a6 j hj with q' | q'
    · exact c3 j q' q
    · omega
  · have hle : i < es.length + 1 := by have := (List.getElem?_eq_some_iff.1 he).1; simpa using this
    have : i = es.length := by rw [C.len] at hle ⊢; omega
    subst this
    rw [List.getElem?_append_right (Nat.le_refl _), Nat.sub_self] at he
    rw [C.len, List.getElem?_append_right (Nat.le_refl _), Nat.sub_self] at hy
    simp at he hy
    subst he; subst hy
    refine ⟨lo, hi, by omega, by omega, fun j hj q => ?_, fun h' k => G h' ((Kp.of_fr a5 fun j hj q => ?_).trans k)⟩
    · rcases a6 j hj with q' | q'
      · have := lowr j q'; omega
      · omega
    · have := lowr j hj; omega
end
theorem PV.len {h : AHeap} {v : AV} {l : List (Str × Val)} (H : PV h v l) : lenA h 1 v = some (.int .i64 (l.length : Int)) := by
  obtain ⟨es, h1, h2⟩ := H; rw [h1.len, h2.length]
theorem PV.at {h : AHeap} {v : AV} {l : List (Str × Val)} (V : PV h v l) {i : Nat} {x : Str × Val} (hi : l[i]? = some x) :
    ∃ id g j e, (∀ k, iadrA h 6 v (.int k (i : Int)) = some (.ptr id g j 0)) ∧ (∀ ag off m, loadA h ag m (.ptr id g j off) = partA ag off m e) ∧ RPr h e x := by
  obtain ⟨es, h1, h2⟩ := V
  obtain ⟨e, he, hr⟩ := h2.get hi
  obtain ⟨id, g, j, p1, p2⟩ := h1.at1 he
  exact ⟨id, g, j, e, p1, p2, hr⟩
theorem szPr_pos (p : Str × Val) : 1 ≤ szPr p := by unfold szPr; omega
theorem RV.len5 {h : AHeap} {a : List AV} {x : Val} (R : RV h a x) : a.length = 5 := by
  obtain ⟨g1, g2, g3, g4⟩ := R.agg; rw [← g4]; exact g2
theorem build6 {s : Str} {a : List AV} (h2 : (AV.agg a).cells.length = 5) (h3 : allLeaf (AV.agg a).cells = true) (h4 : (AV.agg a).cells = a) :
    buildV [AV.str [], .int .i64 0, .bool false, .int .i64 0, .str [], .nilSlc] [(0, 1, .str s), (1, 5, .agg a)] = some (.agg (.str s :: a)) := by
  rw [h4] at h2 h3
  have hd : List.drop 6 [AV.str s, .int .i64 0, .bool false, .int .i64 0, .str [], .nilSlc] = [] := rfl
  have c1 : (AV.str s).cells = [.str s] := rfl
  simp only [buildV, fillV, c1, h4, h2, h3, lay, List.length_cons, List.length_nil, allLeaf, AV.leaf, List.take_zero, List.nil_append, List.drop_succ_cons, List.drop_zero, List.cons_append, List.take_succ_cons, Nat.beq_refl, Bool.and_self, cond_true]
  simp [h2, h3]
  rfl
section
variable {h : AHeap}
def Gm (m : Mch) (h : AHeap) (lo hi : Nat) (a b : AV) : Prop := ∀ h', Kp lo hi h h' → EV h' a m.els ∧ PV h' b m.env
theorem Gm.fr {m : Mch} {h h' : AHeap} {lo hi : Nat} {a b : AV} (G : Gm m h lo hi a b) (k : Kp lo hi h h') : Gm m h' lo hi a b := fun h'' q => G h'' (k.trans q)
theorem Gm.now {m : Mch} {h : AHeap} {lo hi : Nat} {a b : AV} (G : Gm m h lo hi a b) : EV h a m.els ∧ PV h b m.env := G h (Kp.refl _ _ _)
variable {n : Nat} {K : Kont} {core : Int} {els env : AV} {m : Mch}
theorem c41 (ho : h.Ok) (VE : EV h els m.els) (VP : PV h env m.env) (hn : 2 * (szL szEl m.els + szL szPr m.env) + 6 ≤ n) (hB : szL szEl m.els + szL szPr m.env < 1000000000) (hL : n < lim - 5)
    (kk : ∀ h2 a b, Ext h h2 → h2.Ok → a.leaf = true → b.leaf = true → AV.same a a = true → AV.same b b = true → Gm m h2 h.sz h2.sz a b → K (.agg [.int .i64 core, a, b]) h2 = true) :
    callN E (n + 1) (.func 41) [.agg [.int .i64 core, els, env]] h K = true := by
  have hlm : lim = 4611686018427387904 := rfl
  have hmo : most = 1099511627776 := rfl
  have hle : m.els.length ≤ szL szEl m.els := szL_length szEl_pos _
  have hlp : m.env.length ≤ szL szPr m.env := szL_length szPr_pos _
  apply d41
  unfold s41
  obtain ⟨h1, q1, V1, e1, o1, z1⟩ := box_v (n := 3) (v := .agg [.int .i64 core, els, env]) ho rfl (by decide) (by simp only [AV.cells, allLeaf, VE.leaf, VP.leaf]; rfl)
  have V1 : Var h1 h.sz [.int .i64 core, els, env] := V1
  refine z_p q1 ?_
  obtain ⟨h2, q2, V2, e2, o2, z2⟩ := alloc_v (z := [AV.int .i64 0, .nilSlc, .nilSlc]) o1 (by decide) rfl
  refine z_p q2 ?_
  have V1 := V1.ext e2
  have A0 : loadA h2 false 1 (.ptr h.sz 0 0 0) = some (.int .i64 core) := V1.get rfl
  have b3 : buildV [AV.int IntKind.i64 0, AV.nilSlc, AV.nilSlc] [(0, 1, .int .i64 core)] = some (.agg [.int .i64 core, .nilSlc, .nilSlc]) := rfl
  repeat first | (with_reducible first | refine z_nil ?_ | refine z_fadr ?_ | refine z_some ?_ | refine z_ext0 ?_ | refine z_ext1 ?_ | refine z_notT ?_ | refine z_notF ?_ | refine z_cT ?_ | refine z_cF ?_ | refine z_gtt ?_ | refine z_gff ?_ | refine z_gtf ?_ | refine z_gft ?_ | refine z_ptt ?_ | refine z_pff ?_ | refine z_ptf ?_ | refine z_pft ?_ | refine z_rtt ?_ | refine z_rff ?_ | refine z_rtf ?_ | refine z_rft ?_ | refine z_kt ?_ | refine z_kf ?_ | refine z_lss ?_ | refine z_gtr ?_ | refine z_leq ?_ | refine z_geq ?_ | refine z_eql ?_ | refine z_neq ?_ | refine z_seq ?_ | refine z_sne ?_ | refine z_slen ?_ | refine z_eqp ?_ | refine z_eqn ?_ | refine z_cv ?_) | refine z_of A0 ?_ | refine z_of b3 ?_
  obtain ⟨h3, q3, V3, e3, o3, z3⟩ := alloc_v (z := [AV.int .i64 0, .nilSlc, .nilSlc]) o2 (by decide) rfl
  refine z_p q3 ?_
  obtain ⟨h4, w1, W, w3, o4, w5⟩ := V3.wrs o3 (n := 3) (v := .agg [.int .i64 core, .nilSlc, .nilSlc]) rfl rfl rfl
  refine z_u w1 ?_
  have W : Var h4 h2.sz [.int .i64 core, .nilSlc, .nilSlc] := W
  have e02 := ext_two e1 e2
  have E4 : Ext h h4 := w3.ext (ext_two e02 e3) ho (by omega)
  have V1 : Var h4 h.sz [.int .i64 core, els, env] := w3.var (V1.ext e3) (by omega)
  have V2 : Var h4 h1.sz [AV.int .i64 0, .nilSlc, .nilSlc] := w3.var (V2.ext e3) (by omega)
  have A1 : loadA h4 false 1 (.ptr h.sz 0 0 1) = some els := V1.get rfl
  repeat first | (with_reducible first | refine z_nil ?_ | refine z_fadr ?_ | refine z_some ?_ | refine z_ext0 ?_ | refine z_ext1 ?_ | refine z_notT ?_ | refine z_notF ?_ | refine z_cT ?_ | refine z_cF ?_ | refine z_gtt ?_ | refine z_gff ?_ | refine z_gtf ?_ | refine z_gft ?_ | refine z_ptt ?_ | refine z_pff ?_ | refine z_ptf ?_ | refine z_pft ?_ | refine z_rtt ?_ | refine z_rff ?_ | refine z_rtf ?_ | refine z_rft ?_ | refine z_kt ?_ | refine z_kf ?_ | refine z_lss ?_ | refine z_gtr ?_ | refine z_leq ?_ | refine z_geq ?_ | refine z_eql ?_ | refine z_neq ?_ | refine z_seq ?_ | refine z_sne ?_ | refine z_slen ?_ | refine z_eqp ?_ | refine z_eqn ?_ | refine z_cv ?_) | refine z_of A1 ?_ | refine z_of (VE.ext E4).len ?_
  have sz4 : h4.sz = h.sz + 3 := by omega
  have fin : ∀ g0 g a b ps, Ext h g → g.Ok → Var g h1.sz [AV.int .i64 0, .nilSlc, .nilSlc] → Var g h2.sz [.int .i64 core, a, b] → (∀ h', Kp h4.sz g0.sz g0 h' → EV h' a m.els) → Kp h4.sz g0.sz g0 g → h4.sz ≤ g0.sz → g0.sz ≤ g.sz → Cp 6 RPr g0.sz g b ps m.env → p41_40 (callN E n) n (.ptr h1.sz 0 0 0) (.ptr h2.sz 0 0 0) g K = true := by
    intro g0 g a b ps eg og U2 U3 CE kp l0 l1 CP
    unfold p41_40
    have A : loadA g true 3 (.ptr h2.sz 0 0 0) = some (.agg [.int .i64 core, a, b]) := U3.all rfl
    repeat first | (with_reducible first | refine z_nil ?_ | refine z_fadr ?_ | refine z_some ?_ | refine z_ext0 ?_ | refine z_ext1 ?_ | refine z_notT ?_ | refine z_notF ?_ | refine z_cT ?_ | refine z_cF ?_ | refine z_gtt ?_ | refine z_gff ?_ | refine z_gtf ?_ | refine z_gft ?_ | refine z_ptt ?_ | refine z_pff ?_ | refine z_ptf ?_ | refine z_pft ?_ | refine z_rtt ?_ | refine z_rff ?_ | refine z_rtf ?_ | refine z_rft ?_ | refine z_kt ?_ | refine z_kf ?_ | refine z_lss ?_ | refine z_gtr ?_ | refine z_leq ?_ | refine z_geq ?_ | refine z_eql ?_ | refine z_neq ?_ | refine z_seq ?_ | refine z_sne ?_ | refine z_slen ?_ | refine z_eqp ?_ | refine z_eqn ?_ | refine z_cv ?_) | refine z_of A ?_
    have VA := CE g kp
    have VB := CP.own.view
    obtain ⟨g1, x1, X, x3, o5, x5⟩ := U2.wrs og (n := 3) (v := .agg [.int .i64 core, a, b]) rfl rfl (by simp only [AV.cells, allLeaf, VA.leaf, VB.leaf]; rfl)
    refine z_u x1 ?_
    have X : Var g1 h1.sz [.int .i64 core, a, b] := X
    refine res1 (X.all rfl) ?_
    refine kk g1 a b (x3.ext eg ho (by omega)) o5 VA.leaf VB.leaf VA.same VB.same fun h' k => ?_
    have k1 : Kp h4.sz g.sz g h' := fun j o j1 j2 q => k j o (by omega) (by omega) (x3.keep j o (by omega) q)
    obtain ⟨r3, r4⟩ := CP.read og (k1.sub l0 (Nat.le_refl _))
    exact ⟨CE h' (kp.trans (k1.sub (Nat.le_refl _) l1)), ps, r3, r4⟩
  have pairs : ∀ g a es, Ext h g → g.Ok → Var g h.sz [.int .i64 core, els, env] → Var g h1.sz [AV.int .i64 0, .nilSlc, .nilSlc] → Var g h2.sz [.int .i64 core, a, .nilSlc] → Cp 3 REl h4.sz g a es m.els → h4.sz ≤ g.sz → p41_23 (callN E n) n (.ptr h.sz 0 0 0) (.ptr h1.sz 0 0 0) (.ptr h2.sz 0 0 0) g K = true := by
    intro g0 a es eg og U1 U2 U3 CE hg
    unfold p41_23
    have A2 : loadA g0 false 1 (.ptr h.sz 0 0 2) = some env := U1.get rfl
    repeat first | (with_reducible first | refine z_nil ?_ | refine z_fadr ?_ | refine z_some ?_ | refine z_ext0 ?_ | refine z_ext1 ?_ | refine z_notT ?_ | refine z_notF ?_ | refine z_cT ?_ | refine z_cF ?_ | refine z_gtt ?_ | refine z_gff ?_ | refine z_gtf ?_ | refine z_gft ?_ | refine z_ptt ?_ | refine z_pff ?_ | refine z_ptf ?_ | refine z_pft ?_ | refine z_rtt ?_ | refine z_rff ?_ | refine z_rtf ?_ | refine z_rft ?_ | refine z_kt ?_ | refine z_kf ?_ | refine z_lss ?_ | refine z_gtr ?_ | refine z_leq ?_ | refine z_geq ?_ | refine z_eql ?_ | refine z_neq ?_ | refine z_seq ?_ | refine z_sne ?_ | refine z_slen ?_ | refine z_eqp ?_ | refine z_eqn ?_ | refine z_cv ?_) | refine z_of A2 ?_ | refine z_of (VP.ext eg).len ?_
    have CE' : ∀ h', Kp h4.sz g0.sz g0 h' → EV h' a m.els := fun h' k => ⟨es, (CE.read og k).1, (CE.read og k).2⟩
    suffices H : ∀ mm i g b ps, m.env.length - i < mm → i ≤ m.env.length → Ext h g → g.Ok → g0.sz ≤ g.sz → Var g h1.sz [AV.int .i64 0, .nilSlc, .nilSlc] → Var g h2.sz [.int .i64 core, a, b] → Kp h4.sz g0.sz g0 g → Cp 6 RPr g0.sz g b ps (m.env.take i) →
        l41_27 (callN E n) n mm (.ptr h1.sz 0 0 0) (.ptr h2.sz 0 0 0) env (.int .i64 (m.env.length : Int)) (.int .i64 (i : Int)) g K = true from
      H n 0 g0 .nilSlc [] (by omega) (Nat.zero_le _) eg og (Nat.le_refl _) U2 U3 (Kp.refl _ _ _) Cp.nil
    intro mm
    induction mm with
    | zero => intro i g b ps hm; omega
    | succ mm ih =>
      intro i g b ps hm hi e o hgg U2 U3 kp C
      unfold l41_27 b41_27
      repeat first | (with_reducible first | refine z_nil ?_ | refine z_fadr ?_ | refine z_some ?_ | refine z_ext0 ?_ | refine z_ext1 ?_ | refine z_notT ?_ | refine z_notF ?_ | refine z_cT ?_ | refine z_cF ?_ | refine z_gtt ?_ | refine z_gff ?_ | refine z_gtf ?_ | refine z_gft ?_ | refine z_ptt ?_ | refine z_pff ?_ | refine z_ptf ?_ | refine z_pft ?_ | refine z_rtt ?_ | refine z_rff ?_ | refine z_rtf ?_ | refine z_rft ?_ | refine z_kt ?_ | refine z_kf ?_ | refine z_lss ?_ | refine z_gtr ?_ | refine z_leq ?_ | refine z_geq ?_ | refine z_eql ?_ | refine z_neq ?_ | refine z_seq ?_ | refine z_sne ?_ | refine z_slen ?_ | refine z_eqp ?_ | refine z_eqn ?_ | refine z_cv ?_)
      by_cases hlt : i < m.env.length
      · refine z_ct (decide_eq_true (by omega)) ?_
        have hci := List.getElem?_eq_getElem hlt
        obtain ⟨id, gg, j, ee, p1, p2, c, rfl, R, hby⟩ := (VP.ext e).at hci
        have hmm := szL_mem (sz := szPr) (List.getElem_mem hlt)
        have hse : szPr m.env[i] = (m.env[i]).1.length + szV (m.env[i]).2 + 1 := rfl
        generalize hx : m.env[i] = x at *
        obtain ⟨s, ⟨vk, vb, vn, vt, vl⟩⟩ := x
        simp only [szV] at hse
        obtain ⟨lv, rfl, VL, rr⟩ := R.cells
        have A : loadA g true 6 (.ptr id gg j 0) = some (.agg [.str s, .int .i64 vk, .bool vb, .int .i64 vn, .str vt, lv]) := by rw [p2]; rfl
        repeat first | (with_reducible first | refine z_nil ?_ | refine z_fadr ?_ | refine z_some ?_ | refine z_ext0 ?_ | refine z_ext1 ?_ | refine z_notT ?_ | refine z_notF ?_ | refine z_cT ?_ | refine z_cF ?_ | refine z_gtt ?_ | refine z_gff ?_ | refine z_gtf ?_ | refine z_gft ?_ | refine z_ptt ?_ | refine z_pff ?_ | refine z_ptf ?_ | refine z_pft ?_ | refine z_rtt ?_ | refine z_rff ?_ | refine z_rtf ?_ | refine z_rft ?_ | refine z_kt ?_ | refine z_kf ?_ | refine z_lss ?_ | refine z_gtr ?_ | refine z_leq ?_ | refine z_geq ?_ | refine z_eql ?_ | refine z_neq ?_ | refine z_seq ?_ | refine z_sne ?_ | refine z_slen ?_ | refine z_eqp ?_ | refine z_eqn ?_ | refine z_cv ?_) | refine z_of (p1 .i64) ?_ | refine z_of A ?_
        obtain ⟨g2, q2, V2, e2, o2, z2⟩ := alloc_v (z := [AV.str [], .int .i64 0, .bool false, .int .i64 0, .str [], .nilSlc]) o (by decide) rfl
        refine z_p q2 ?_
        obtain ⟨g3, w1, W, w3, o3, w5⟩ := V2.wrs o2 (n := 6) (v := .agg [.str s, .int .i64 vk, .bool vb, .int .i64 vn, .str vt, lv]) rfl rfl (by simp only [AV.cells, allLeaf, VL.leaf]; rfl)
        refine z_u w1 ?_
        have W : Var g3 g.sz [.str s, .int .i64 vk, .bool vb, .int .i64 vn, .str vt, lv] := W
        have e3 : Ext g g3 := w3.ext e2 o (Nat.le_refl _)
        have B2 : ∀ {g'}, Ext g3 g' → loadA g' false 1 (.ptr h2.sz 0 0 2) = some b := fun q => (U3.ext (ext_two e3 q)).get rfl
        have B0 : ∀ {g'}, Ext g3 g' → loadA g' false 1 (.ptr g.sz 0 0 0) = some (.str s) := fun q => (W.ext q).get rfl
        have B1 : loadA g3 true 5 (.ptr g.sz 0 0 1) = some (.agg [.int .i64 vk, .bool vb, .int .i64 vn, .str vt, lv]) := by rw [W.load]; rfl
        repeat first | (with_reducible first | refine z_nil ?_ | refine z_fadr ?_ | refine z_some ?_ | refine z_ext0 ?_ | refine z_ext1 ?_ | refine z_notT ?_ | refine z_notF ?_ | refine z_cT ?_ | refine z_cF ?_ | refine z_gtt ?_ | refine z_gff ?_ | refine z_gtf ?_ | refine z_gft ?_ | refine z_ptt ?_ | refine z_pff ?_ | refine z_ptf ?_ | refine z_pft ?_ | refine z_rtt ?_ | refine z_rff ?_ | refine z_rtf ?_ | refine z_rft ?_ | refine z_kt ?_ | refine z_kf ?_ | refine z_lss ?_ | refine z_gtr ?_ | refine z_leq ?_ | refine z_geq ?_ | refine z_eql ?_ | refine z_neq ?_ | refine z_seq ?_ | refine z_sne ?_ | refine z_slen ?_ | refine z_eqp ?_ | refine z_eqn ?_ | refine z_cv ?_) | refine z_of (B2 (Ext.refl _)) ?_ | refine z_of (B0 (Ext.refl _)) ?_ | refine z_of B1 ?_
        obtain ⟨n, rfl⟩ : ∃ j, n = j + 2 := ⟨n - 2, by omega⟩
        refine c61 (n := n + 1) o3 (RV.ext e3 R) (fun {h1 lv ll K'} hx V1 o1 kk' => ?_) fun g4 a' e4 o4 G => ?_
        · obtain ⟨k', b, nn, t, hx⟩ := hx
          cases hx
          exact c40 (szVs vl) n V1 o1 (Nat.le_refl _) (by omega) (by omega) (by omega) kk'
        · obtain ⟨f1, f2, f3, f4⟩ := G.now.agg
          have sb := C.own.view.same
          refine z_same (B2 e4) sb ?_
          refine z_same (B0 e4) (same_str _) ?_
          refine z_of (build6 f2 f3 f4) ?_
          have hl6 : (AV.agg (AV.str s :: a')).cells = AV.str s :: a' := by
            have : AV.cells (.agg (.str s :: a')) = AV.cells (.str s) ++ AV.cells (.agg a') := rfl
            rw [this, f4]; rfl
          have hal : allLeaf (AV.str s :: a') = true := by rw [f4] at f3; simp only [allLeaf, AV.leaf, f3, cond_true]
          obtain ⟨w, g5, b1, b2, e5, o5, z5, _⟩ := bslice1_v (sz := 6) (z := [AV.str [], .int .i64 0, .bool false, .int .i64 0, .str [], .nilSlc]) (v := .agg (.str s :: a')) o4 rfl (by decide) (by decide) rfl (by rw [hl6, List.length_cons, RV.len5 G.now]) (by rw [hl6]; exact hal)
          rw [hl6] at b2
          refine z_p b1 ?_
          have eg5 := ext_two e3 (ext_two e4 e5)
          refine z_same (B2 (ext_two e4 e5)) sb ?_
          have s3 := e3.1; have s4 := e4.1; have s5 := e5.1
          have htl : (m.env.take i).length = i := by rw [List.length_take]; omega
          obtain ⟨b', g6, a1, a2, a3, a4, a5, a6⟩ := C.push (bytes := 80) (lo := g3.sz) (hi := g4.sz) (x := (s, Val.mk vk vb vn vt vl)) (a := .str s :: a') ho (ext_two e eg5) (by omega) hgg o eg5 o5 (by omega) (by omega) (fun h' k => ⟨a', rfl, G h' ((Kp.of_ext e5).trans k), hby⟩) (by decide) b2.src (by rw [htl]; omega) (by rw [htl]; omega)
          refine z_p a1 ?_
          have rowb : ∀ j, inRow b j → g0.sz ≤ j := fun j hj => own_row C.own hj
          have U3' : Var g6 h2.sz [.int .i64 core, a, b] := a5.var (U3.ext eg5) fun q => by have := rowb _ q; omega
          have U2' : Var g6 h1.sz [AV.int .i64 0, .nilSlc, .nilSlc] := a5.var (U2.ext eg5) fun q => by have := rowb _ q; omega
          obtain ⟨g7, x1, X, x3, o7, x5⟩ := U3'.wr a3 (off := 2) (v := b') (show 2 < 3 by decide) (a2.own.view.leaf)
          repeat first | (with_reducible first | refine z_nil ?_ | refine z_fadr ?_ | refine z_some ?_ | refine z_ext0 ?_ | refine z_ext1 ?_ | refine z_notT ?_ | refine z_notF ?_ | refine z_cT ?_ | refine z_cF ?_ | refine z_gtt ?_ | refine z_gff ?_ | refine z_gtf ?_ | refine z_gft ?_ | refine z_ptt ?_ | refine z_pff ?_ | refine z_ptf ?_ | refine z_pft ?_ | refine z_rtt ?_ | refine z_rff ?_ | refine z_rtf ?_ | refine z_rft ?_ | refine z_kt ?_ | refine z_kf ?_ | refine z_lss ?_ | refine z_gtr ?_ | refine z_leq ?_ | refine z_geq ?_ | refine z_eql ?_ | refine z_neq ?_ | refine z_seq ?_ | refine z_sne ?_ | refine z_slen ?_ | refine z_eqp ?_ | refine z_eqn ?_ | refine z_cv ?_)
          refine z_u x1 ?_
          have X : Var g7 h2.sz [.int .i64 core, a, b'] := X
          repeat first | (with_reducible first | refine z_nil ?_ | refine z_fadr ?_ | refine z_some ?_ | refine z_ext0 ?_ | refine z_ext1 ?_ | refine z_notT ?_ | refine z_notF ?_ | refine z_cT ?_ | refine z_cF ?_ | refine z_gtt ?_ | refine z_gff ?_ | refine z_gtf ?_ | refine z_gft ?_ | refine z_ptt ?_ | refine z_pff ?_ | refine z_ptf ?_ | refine z_pft ?_ | refine z_rtt ?_ | refine z_rff ?_ | refine z_rtf ?_ | refine z_rft ?_ | refine z_kt ?_ | refine z_kf ?_ | refine z_lss ?_ | refine z_gtr ?_ | refine z_leq ?_ | refine z_geq ?_ | refine z_eql ?_ | refine z_neq ?_ | refine z_seq ?_ | refine z_sne ?_ | refine z_slen ?_ | refine z_eqp ?_ | refine z_eqn ?_ | refine z_cv ?_) | refine z_of (inc64 (i := i) (by omega)) ?_
          have s6 := a5.sz
          refine ih (i + 1) g7 b' (ps ++ [.str s :: a']) (by omega) (by omega) (x3.ext a4 ho (by omega)) o7 (by omega) (x3.var U2' (by omega)) X ?_ ?_
          · exact ((kp.trans (Kp.of_ext eg5)).trans (Kp.of_fr a5 fun j hj q => by have := rowb j hj; omega)).trans (Kp.of_but x3 (by omega))
          · have ht : m.env.take (i + 1) = m.env.take i ++ [(s, Val.mk vk vb vn vt vl)] := by rw [List.take_succ_eq_append_getElem hlt, hx]
            rw [ht]
            exact a2.fr (Fr.of_but (X := fun j => j = h2.sz) rfl x3) fun j hj => by omega
      · refine z_cf (decide_eq_false (by omega)) ?_
        rw [List.take_of_length_le (by omega)] at C
        exact fin g0 g a b ps e o U2 U3 CE' kp hg hgg C
  suffices H : ∀ mm i g a es, m.els.length - i < mm → i ≤ m.els.length → Ext h g → g.Ok → h4.sz ≤ g.sz → Var g h.sz [.int .i64 core, els, env] → Var g h1.sz [AV.int .i64 0, .nilSlc, .nilSlc] → Var g h2.sz [.int .i64 core, a, .nilSlc] → Cp 3 REl h4.sz g a es (m.els.take i) →
      l41_8 (callN E n) n mm (.ptr h.sz 0 0 0) (.ptr h1.sz 0 0 0) (.ptr h2.sz 0 0 0) els (.int .i64 (m.els.length : Int)) (.int .i64 (i : Int)) g K = true from
    H n 0 h4 .nilSlc [] (by omega) (Nat.zero_le _) E4 o4 (Nat.le_refl _) V1 V2 W Cp.nil
  intro mm
  induction mm with
  | zero => intro i g a es hm; omega
  | succ mm ih =>
    intro i g a es hm hi e o hgg U1 U2 U3 C
    unfold l41_8 b41_8
    repeat first | (with_reducible first | refine z_nil ?_ | refine z_fadr ?_ | refine z_some ?_ | refine z_ext0 ?_ | refine z_ext1 ?_ | refine z_notT ?_ | refine z_notF ?_ | refine z_cT ?_ | refine z_cF ?_ | refine z_gtt ?_ | refine z_gff ?_ | refine z_gtf ?_ | refine z_gft ?_ | refine z_ptt ?_ | refine z_pff ?_ | refine z_ptf ?_ | refine z_pft ?_ | refine z_rtt ?_ | refine z_rff ?_ | refine z_rtf ?_ | refine z_rft ?_ | refine z_kt ?_ | refine z_kf ?_ | refine z_lss ?_ | refine z_gtr ?_ | refine z_leq ?_ | refine z_geq ?_ | refine z_eql ?_ | refine z_neq ?_ | refine z_seq ?_ | refine z_sne ?_ | refine z_slen ?_ | refine z_eqp ?_ | refine z_eqn ?_ | refine z_cv ?_)
    by_cases hlt : i < m.els.length
    · refine z_ct (decide_eq_true (by omega)) ?_
      have hci := List.getElem?_eq_getElem hlt
      obtain ⟨id, gg, j, ee, p1, p2, vv, rfl, VV1, r1, r2⟩ := (VE.ext e).at hci
      have hmm := szL_mem (sz := szEl) (List.getElem_mem hlt)
      have hse : szEl m.els[i] = szVs (m.els[i]).vs + 1 := rfl
      generalize hx : m.els[i] = x at *
      obtain ⟨hd, st, vs⟩ := x
      have A : loadA g true 3 (.ptr id gg j 0) = some (.agg [.int .i64 hd, .int .i64 st, vv]) := by rw [p2]; rfl
      repeat first | (with_reducible first | refine z_nil ?_ | refine z_fadr ?_ | refine z_some ?_ | refine z_ext0 ?_ | refine z_ext1 ?_ | refine z_notT ?_ | refine z_notF ?_ | refine z_cT ?_ | refine z_cF ?_ | refine z_gtt ?_ | refine z_gff ?_ | refine z_gtf ?_ | refine z_gft ?_ | refine z_ptt ?_ | refine z_pff ?_ | refine z_ptf ?_ | refine z_pft ?_ | refine z_rtt ?_ | refine z_rff ?_ | refine z_rtf ?_ | refine z_rft ?_ | refine z_kt ?_ | refine z_kf ?_ | refine z_lss ?_ | refine z_gtr ?_ | refine z_leq ?_ | refine z_geq ?_ | refine z_eql ?_ | refine z_neq ?_ | refine z_seq ?_ | refine z_sne ?_ | refine z_slen ?_ | refine z_eqp ?_ | refine z_eqn ?_ | refine z_cv ?_) | refine z_of (p1 .i64) ?_ | refine z_of A ?_
      obtain ⟨g2, q2, V2, e2, o2, z2⟩ := alloc_v (z := [AV.int .i64 0, .int .i64 0, .nilSlc]) o (by decide) rfl
      refine z_p q2 ?_
      obtain ⟨g3, w1, W, w3, o3, w5⟩ := V2.wrs o2 (n := 3) (v := .agg [.int .i64 hd, .int .i64 st, vv]) rfl rfl (by simp only [AV.cells, allLeaf, VV1.leaf]; rfl)
      refine z_u w1 ?_
      have W : Var g3 g.sz [.int .i64 hd, .int .i64 st, vv] := W
      have e3 : Ext g g3 := w3.ext e2 o (Nat.le_refl _)
      have B2 : loadA g3 false 1 (.ptr g.sz 0 0 2) = some vv := W.get rfl
      repeat first | (with_reducible first | refine z_nil ?_ | refine z_fadr ?_ | refine z_some ?_ | refine z_ext0 ?_ | refine z_ext1 ?_ | refine z_notT ?_ | refine z_notF ?_ | refine z_cT ?_ | refine z_cF ?_ | refine z_gtt ?_ | refine z_gff ?_ | refine z_gtf ?_ | refine z_gft ?_ | refine z_ptt ?_ | refine z_pff ?_ | refine z_ptf ?_ | refine z_pft ?_ | refine z_rtt ?_ | refine z_rff ?_ | refine z_rtf ?_ | refine z_rft ?_ | refine z_kt ?_ | refine z_kf ?_ | refine z_lss ?_ | refine z_gtr ?_ | refine z_leq ?_ | refine z_geq ?_ | refine z_eql ?_ | refine z_neq ?_ | refine z_seq ?_ | refine z_sne ?_ | refine z_slen ?_ | refine z_eqp ?_ | refine z_eqn ?_ | refine z_cv ?_) | refine z_of B2 ?_
      obtain ⟨n, rfl⟩ : ∃ j, n = j + 1 := ⟨n - 1, by omega⟩
      refine c40 (szVs vs) n (VV1.ext e3) o3 (Nat.le_refl _) (by dsimp only at hse; omega) (by dsimp only at hse; omega) (by omega) fun g4 v' e4 o4 lf sm G => ?_
      obtain ⟨g5, x1, X, x3, o5, x5⟩ := (W.ext e4).wr o4 (off := 2) (v := v') (show 2 < 3 by decide) lf
      repeat first | (with_reducible first | refine z_nil ?_ | refine z_fadr ?_ | refine z_some ?_ | refine z_ext0 ?_ | refine z_ext1 ?_ | refine z_notT ?_ | refine z_notF ?_ | refine z_cT ?_ | refine z_cF ?_ | refine z_gtt ?_ | refine z_gff ?_ | refine z_gtf ?_ | refine z_gft ?_ | refine z_ptt ?_ | refine z_pff ?_ | refine z_ptf ?_ | refine z_pft ?_ | refine z_rtt ?_ | refine z_rff ?_ | refine z_rtf ?_ | refine z_rft ?_ | refine z_kt ?_ | refine z_kf ?_ | refine z_lss ?_ | refine z_gtr ?_ | refine z_leq ?_ | refine z_geq ?_ | refine z_eql ?_ | refine z_neq ?_ | refine z_seq ?_ | refine z_sne ?_ | refine z_slen ?_ | refine z_eqp ?_ | refine z_eqn ?_ | refine z_cv ?_)
      refine z_u x1 ?_
      have X : Var g5 g.sz [.int .i64 hd, .int .i64 st, v'] := X
      have eg5 : Ext g g5 := x3.ext (ext_two e3 e4) o (Nat.le_refl _)
      have B1 : loadA g5 false 1 (.ptr h2.sz 0 0 1) = some a := (U3.ext eg5).get rfl
      have B3 : loadA g5 true 3 (.ptr g.sz 0 0 0) = some (.agg [.int .i64 hd, .int .i64 st, v']) := X.all rfl
      repeat first | (with_reducible first | refine z_nil ?_ | refine z_fadr ?_ | refine z_some ?_ | refine z_ext0 ?_ | refine z_ext1 ?_ | refine z_notT ?_ | refine z_notF ?_ | refine z_cT ?_ | refine z_cF ?_ | refine z_gtt ?_ | refine z_gff ?_ | refine z_gtf ?_ | refine z_gft ?_ | refine z_ptt ?_ | refine z_pff ?_ | refine z_ptf ?_ | refine z_pft ?_ | refine z_rtt ?_ | refine z_rff ?_ | refine z_rtf ?_ | refine z_rft ?_ | refine z_kt ?_ | refine z_kf ?_ | refine z_lss ?_ | refine z_gtr ?_ | refine z_leq ?_ | refine z_geq ?_ | refine z_eql ?_ | refine z_neq ?_ | refine z_seq ?_ | refine z_sne ?_ | refine z_slen ?_ | refine z_eqp ?_ | refine z_eqn ?_ | refine z_cv ?_) | refine z_of B1 ?_ | refine z_of B3 ?_
      obtain ⟨w, g6, b1, b2, e6, o6, z6, _⟩ := bslice1_v (sz := 3) (z := [AV.int .i64 0, .int .i64 0, .nilSlc]) (v := .agg [.int .i64 hd, .int .i64 st, v']) o5 rfl (by decide) (by decide) rfl rfl (by simp only [AV.cells, allLeaf, lf]; rfl)
      have b2 : View g6 3 w [[.int .i64 hd, .int .i64 st, v']] := b2
      refine z_p b1 ?_
      have eg6 := ext_two eg5 e6
      have s3 := e3.1; have s4 := e4.1; have s6 := e6.1
      have htl : (m.els.take i).length = i := by rw [List.length_take]; omega
      obtain ⟨a', g7, a1, a2, a3, a4, a5, a6⟩ := C.push (bytes := 40) (lo := g3.sz) (hi := g4.sz) (x := Elm.mk hd st vs) (a := [.int .i64 hd, .int .i64 st, v']) ho (ext_two e eg6) (by omega) hgg o eg6 o6 (by omega) (by omega) (fun h' k => ⟨v', rfl, G h' (((Kp.of_but x3 (by omega)).trans (Kp.of_ext e6)).trans k), r1, r2⟩) (by decide) b2.src (by rw [htl]; omega) (by rw [htl]; omega)
      refine z_p a1 ?_
      have rowa : ∀ j, inRow a j → h4.sz ≤ j := fun j hj => own_row C.own hj
      have U3' : Var g7 h2.sz [.int .i64 core, a, .nilSlc] := a5.var (U3.ext eg6) fun q => by have := rowa _ q; omega
      have U2' : Var g7 h1.sz [AV.int .i64 0, .nilSlc, .nilSlc] := a5.var (U2.ext eg6) fun q => by have := rowa _ q; omega
      have U1' : Var g7 h.sz [.int .i64 core, els, env] := a5.var (U1.ext eg6) fun q => by have := rowa _ q; omega
      obtain ⟨g8, y1, Y, y3, o8, y5⟩ := U3'.wr a3 (off := 1) (v := a') (show 1 < 3 by decide) (a2.own.view.leaf)
      repeat first | (with_reducible first | refine z_nil ?_ | refine z_fadr ?_ | refine z_some ?_ | refine z_ext0 ?_ | refine z_ext1 ?_ | refine z_notT ?_ | refine z_notF ?_ | refine z_cT ?_ | refine z_cF ?_ | refine z_gtt ?_ | refine z_gff ?_ | refine z_gtf ?_ | refine z_gft ?_ | refine z_ptt ?_ | refine z_pff ?_ | refine z_ptf ?_ | refine z_pft ?_ | refine z_rtt ?_ | refine z_rff ?_ | refine z_rtf ?_ | refine z_rft ?_ | refine z_kt ?_ | refine z_kf ?_ | refine z_lss ?_ | refine z_gtr ?_ | refine z_leq ?_ | refine z_geq ?_ | refine z_eql ?_ | refine z_neq ?_ | refine z_seq ?_ | refine z_sne ?_ | refine z_slen ?_ | refine z_eqp ?_ | refine z_eqn ?_ | refine z_cv ?_)
      refine z_u y1 ?_
      have Y : Var g8 h2.sz [.int .i64 core, a', .nilSlc] := Y
      repeat first | (with_reducible first | refine z_nil ?_ | refine z_fadr ?_ | refine z_some ?_ | refine z_ext0 ?_ | refine z_ext1 ?_ | refine z_notT ?_ | refine z_notF ?_ | refine z_cT ?_ | refine z_cF ?_ | refine z_gtt ?_ | refine z_gff ?_ | refine z_gtf ?_ | refine z_gft ?_ | refine z_ptt ?_ | refine z_pff ?_ | refine z_ptf ?_ | refine z_pft ?_ | refine z_rtt ?_ | refine z_rff ?_ | refine z_rtf ?_ | refine z_rft ?_ | refine z_kt ?_ | refine z_kf ?_ | refine z_lss ?_ | refine z_gtr ?_ | refine z_leq ?_ | refine z_geq ?_ | refine z_eql ?_ | refine z_neq ?_ | refine z_seq ?_ | refine z_sne ?_ | refine z_slen ?_ | refine z_eqp ?_ | refine z_eqn ?_ | refine z_cv ?_) | refine z_of (inc64 (i := i) (by omega)) ?_
      have s7 := a5.sz
      refine ih (i + 1) g8 a' (es ++ [[.int .i64 hd, .int .i64 st, v']]) (by omega) (by omega) (y3.ext a4 ho (by omega)) o8 (by omega) (y3.var U1' (by omega)) (y3.var U2' (by omega)) Y ?_
      have ht : m.els.take (i + 1) = m.els.take i ++ [Elm.mk hd st vs] := by rw [List.take_succ_eq_append_getElem hlt, hx]
      rw [ht]
      exact a2.fr (Fr.of_but (X := fun j => j = h2.sz) rfl y3) fun j hj => by omega
    · refine z_cf (decide_eq_false (by omega)) ?_
      rw [List.take_of_length_le (by omega)] at C
      exact pairs g a es e o U1 U2 U3 C hgg
end
end Go.Proofs.Ytbamgdknkhhikaa
namespace Go.Proofs.Ytbamgdknkhhikaa
open Go.Ab
set_option linter.unusedSimpArgs false
set_option linter.unusedVariables false
def byA (x : Int) (i : Nat) : Nat := (x.fdiv (2 ^ (8 * i)) % 256).toNat
def bigB (x : Int) : Nat → List Nat
  | 0 => []
  | w + 1 => byA x w :: bigB x w
theorem byA_lt (x : Int) (i : Nat) : byA x i < 256 := by unfold byA; omega
theorem bigB_len (x : Int) : ∀ w, (bigB x w).length = w
  | 0 => rfl
  | w + 1 => by simp [bigB, bigB_len x w]
theorem bigB_lt (x : Int) : ∀ w, ∀ b ∈ bigB x w, b < 256
  | 0, b, h => by cases h
  | w + 1, b, h => by
    rcases List.mem_cons.1 h with h | h
    · rw [h]; exact byA_lt x w
    · exact bigB_lt x w b h
theorem wrap8 (y : Int) : wrapA .u8 y = y % 256 := by
  rw [wrapA_eq]; simp [IntKind.wrap, IntKind.bits, IntKind.signed]
theorem conv8 (k : IntKind) (y : Int) : convA .u8 (.int k y) = some (.int .u8 ((y % 256).toNat : Int)) := by
  show some (AV.int .u8 (wrapA .u8 y)) = _
  rw [wrap8]; congr 2; omega
theorem mul8 (i : Nat) (h : i < 100) : binA .mul (.int .i64 8) (.int .i64 (i : Int)) = some (.int .i64 ((8 * i : Nat) : Int)) := by
  rw [binA_mul, wrap64 (by omega) (by omega)]; congr 2
theorem shr8 {k : IntKind} (hk : k.bits = 64) (x : Int) (i : Nat) (h : i < 8) : binA .shr (.int k x) (.int .i64 ((8 * i : Nat) : Int)) = some (.int k (x.fdiv (2 ^ (8 * i)))) := by
  simp only [binA, isShift, cond_true, shiftA]
  have : iltb ((8 * i : Nat) : Int) 0 = false := rfl
  rw [this, cond_false]
  simp only [hk]
  have : min (((8 * i : Nat) : Int).toNat) 64 = 8 * i := by omega
  rw [this]
structure App (b : Nat) (h0 h h' : AHeap) (v v' : AV) (acc new : List Nat) : Prop where
  own : Own b h' 1 v' (encB (acc ++ new))
  ok : h'.Ok
  ext : Ext h0 h'
  fr : Fr (inRow v) h h'
  rows : ∀ j, inRow v' j → inRow v j ∨ h.sz ≤ j
section
variable {b : Nat} {h0 h h1 h2 h3 : AHeap} {v v' v'' : AV} {acc new new' : List Nat}
theorem App.refl (O : Own b h 1 v (encB acc)) (o : h.Ok) (e : Ext h0 h) : App b h0 h h v v acc [] := ⟨by rw [List.append_nil]; exact O, o, e, Fr.refl _ _, fun j i => .inl i⟩
theorem App.trans (o : h.Ok) (p : App b h0 h h1 v v' acc new) (q : App b h0 h1 h2 v' v'' (acc ++ new) new') : App b h0 h h2 v v'' acc (new ++ new') :=
  ⟨by rw [← List.append_assoc]; exact q.own, q.ok, q.ext, fr_acc o p.fr q.fr fun j i => p.rows j i, fun j i => by
    have := p.fr.sz
    rcases q.rows j i with i | i
    · exact p.rows j i
    · exact .inr (by omega)⟩
theorem App.ahead (e : Ext h h1) (p : App b h0 h1 h2 v v' acc new) : App b h0 h h2 v v' acc new :=
  ⟨p.own, p.ok, p.ext, (Fr.of_ext e).trans p.fr, fun j i => by have := e.1; rcases p.rows j i with i | i; exact .inl i; exact .inr (by omega)⟩
theorem App.behind (p : App b h0 h h1 v v' acc new) (e : Ext h1 h2) (o : h2.Ok) : App b h0 h h2 v v' acc new :=
  ⟨p.own.ext e, o, ext_two p.ext e, p.fr.trans (Fr.of_ext e), p.rows⟩
theorem app_t (O : Own b h 1 v (encB acc)) (hb : b ≤ h.sz) (o : h.Ok) (k0 : h0.Ok) (e0 : Ext h0 h) (hb0 : h0.sz ≤ b) {x : AV} (hs : source h 1 x = some (encB new)) (h2 : acc.length + new.length ≤ most) :
    ∃ v' h', appendA h 1 1 v x = some (v', h') ∧ App b h0 h h' v v' acc new := by
  have e1 : (encB acc).length = acc.length := by simp [encB]
  have e2 : (encB new).length = new.length := by simp [encB]
  obtain ⟨v', h', a1, a2, a3, a4, a5, a6, a7⟩ := O.app (bytes := 1) (by decide) hb o k0 e0 hb0 hs (by omega) (by omega)
  refine ⟨v', h', a1, ⟨?_, a3, a4, ⟨a5, fun j o' nj g => a6 j o' g fun id g' s l c ex e q => nj ⟨g', s, l, c, ex, by rw [e, q]⟩⟩, fun j i => ?_⟩⟩
  · have : encB (acc ++ new) = encB acc ++ encB new := by simp [encB]
    rw [this]; exact a2
  · rcases app_row a1 i with q | q
    · exact .inl q
    · exact .inr (by omega)
theorem appb_t {e : Nat} (O : Own b h 1 v (encB acc)) (hb : b ≤ h.sz) (o : h.Ok) (k0 : h0.Ok) (e0 : Ext h0 h) (hb0 : h0.sz ≤ b) {x : AV} (hs : source h 1 x = some (encB new)) (h2 : acc.length + new.length ≤ most) :
    ∃ v' h', appbA h e v x = some (v', h') ∧ App b h0 h h' v v' acc new := by
  have e1 : (encB acc).length = acc.length := by simp [encB]
  have e2 : (encB new).length = new.length := by simp [encB]
  obtain ⟨v', h', a1, a2, a3, a4, a5, a6, a7, _⟩ := O.appb (e := e) hb o k0 e0 hb0 hs (by omega)
  refine ⟨v', h', a1, ⟨?_, a3, a4, ⟨a5, fun j o' nj g => a6 j o' g fun id g' s l c ex e q => nj ⟨g', s, l, c, ex, by rw [e, q]⟩⟩, fun j i => ?_⟩⟩
  · have : encB (acc ++ new) = encB acc ++ encB new := by simp [encB]
    rw [this]; exact a2
  · rcases app_row a1 i with q | q
    · exact .inl q
    · exact .inr (by omega)
theorem App.low (p : App b h0 h h1 v v' acc new) : b ≤ h1.sz ∨ v' = .nilSlc := by
  rcases p.own with ⟨q, _⟩ | ⟨id, r, w1, w2, w3, _⟩
  · exact .inr q
  · have := p.ok.lt (AHeap.row_some.1 w3); exact .inl (by omega)
theorem byte_t {e : Nat} {K : Kont} {c : Nat} (O : Own b h 1 v (encB acc)) (hb : b ≤ h.sz) (o : h.Ok) (k0 : h0.Ok) (e0 : Ext h0 h) (hb0 : h0.sz ≤ b) (hl : acc.length < 1000000000000)
    (kk : ∀ h' v', App b h0 h h' v v' acc [c] → K v' h' = true) :
    (optP (bsliceV h 1 1 [.int .u8 0] [(0, .int .u8 (c : Int))]) fun v5 h => optP (appbA h e v v5) fun v6 h => K v6 h) = true := by
  have hmo : most = 1099511627776 := rfl
  obtain ⟨w, h1, q1, V, e1, o1, z1, _⟩ := bslice1_v (sz := 1) (z := [AV.int .u8 0]) (v := .int .u8 (c : Int)) o rfl (by decide) (by decide) rfl rfl rfl
  refine z_p q1 ?_
  obtain ⟨v', h', a1, A⟩ := appb_t (e := e) (new := [c]) (O.ext e1) (by have := e1.1; omega) o1 k0 (ext_two e0 e1) hb0 V.src (by simp; omega)
  refine z_p a1 ?_
  exact kk h' v' (A.ahead e1)
end
section
variable {b : Nat} {h0 h : AHeap} {v : AV} {acc : List Nat} {K : Kont} {n : Nat} {k : IntKind}
theorem c89 {x : Int} {w : Nat} (hk : k.bits = 64) (hw : w ≤ 8) (O : Own b h 1 v (encB acc)) (hb : b ≤ h.sz) (o : h.Ok) (k0 : h0.Ok) (e0 : Ext h0 h) (hb0 : h0.sz ≤ b) (hl : acc.length < 900000000000) (hn : 9 ≤ n)
    (kk : ∀ h' v', App b h0 h h' v v' acc (bigB x w) → K v' h' = true) : callN E (n + 1) (.func 89) [v, .int k x, .int .i64 (w : Int)] h K = true := by
  apply d89
  unfold s89
  repeat first | (with_reducible first | refine z_nil ?_ | refine z_fadr ?_ | refine z_some ?_ | refine z_ext0 ?_ | refine z_ext1 ?_ | refine z_notT ?_ | refine z_notF ?_ | refine z_cT ?_ | refine z_cF ?_ | refine z_gtt ?_ | refine z_gff ?_ | refine z_gtf ?_ | refine z_gft ?_ | refine z_ptt ?_ | refine z_pff ?_ | refine z_ptf ?_ | refine z_pft ?_ | refine z_rtt ?_ | refine z_rff ?_ | refine z_rtf ?_ | refine z_rft ?_ | refine z_kt ?_ | refine z_kf ?_ | refine z_lss ?_ | refine z_gtr ?_ | refine z_leq ?_ | refine z_geq ?_ | refine z_eql ?_ | refine z_neq ?_ | refine z_seq ?_ | refine z_sne ?_ | refine z_slen ?_ | refine z_eqp ?_ | refine z_eqn ?_ | refine z_cv ?_) | refine z_of (sub64 (a := (w : Int)) (b := 1) (by omega) (by omega)) ?_
  suffices H : ∀ w' m h1 v1 done, w' < m → w' ≤ 8 → App b h0 h h1 v v1 acc done → done.length ≤ 8 → done ++ bigB x w' = bigB x w → l89_6 (callN E n) n m v1 (.int k x) (.int .i64 ((w' : Int) - 1)) h1 K = true from
    H w n h v [] (by omega) hw (App.refl O o e0) (by simp) rfl
  intro w'
  induction w' with
  | zero =>
    intro m h1 v1 done hm _ A hd he
    obtain ⟨m, rfl⟩ : ∃ j, m = j + 1 := ⟨m - 1, by omega⟩
    unfold l89_6 b89_6
    repeat first | (with_reducible first | refine z_nil ?_ | refine z_fadr ?_ | refine z_some ?_ | refine z_ext0 ?_ | refine z_ext1 ?_ | refine z_notT ?_ | refine z_notF ?_ | refine z_cT ?_ | refine z_cF ?_ | refine z_gtt ?_ | refine z_gff ?_ | refine z_gtf ?_ | refine z_gft ?_ | refine z_ptt ?_ | refine z_pff ?_ | refine z_ptf ?_ | refine z_pft ?_ | refine z_rtt ?_ | refine z_rff ?_ | refine z_rtf ?_ | refine z_rft ?_ | refine z_kt ?_ | refine z_kf ?_ | refine z_lss ?_ | refine z_gtr ?_ | refine z_leq ?_ | refine z_geq ?_ | refine z_eql ?_ | refine z_neq ?_ | refine z_seq ?_ | refine z_sne ?_ | refine z_slen ?_ | refine z_eqp ?_ | refine z_eqn ?_ | refine z_cv ?_)
    refine z_cf (by decide) ?_
    rw [show bigB x 0 = [] from rfl, List.append_nil] at he
    exact kk h1 v1 (he ▸ A)
  | succ w' ih =>
    intro m h1 v1 done hm hw8 A hd he
    obtain ⟨m, rfl⟩ : ∃ j, m = j + 1 := ⟨m - 1, by omega⟩
    unfold l89_6 b89_6
    have e1 : (((w' + 1 : Nat) : Int) - 1) = (w' : Int) := by omega
    rw [e1]
    repeat first | (with_reducible first | refine z_nil ?_ | refine z_fadr ?_ | refine z_some ?_ | refine z_ext0 ?_ | refine z_ext1 ?_ | refine z_notT ?_ | refine z_notF ?_ | refine z_cT ?_ | refine z_cF ?_ | refine z_gtt ?_ | refine z_gff ?_ | refine z_gtf ?_ | refine z_gft ?_ | refine z_ptt ?_ | refine z_pff ?_ | refine z_ptf ?_ | refine z_pft ?_ | refine z_rtt ?_ | refine z_rff ?_ | refine z_rtf ?_ | refine z_rft ?_ | refine z_kt ?_ | refine z_kf ?_ | refine z_lss ?_ | refine z_gtr ?_ | refine z_leq ?_ | refine z_geq ?_ | refine z_eql ?_ | refine z_neq ?_ | refine z_seq ?_ | refine z_sne ?_ | refine z_slen ?_ | refine z_eqp ?_ | refine z_eqn ?_ | refine z_cv ?_)
    refine z_ct (decide_eq_true (by omega)) ?_
    repeat first | (with_reducible first | refine z_nil ?_ | refine z_fadr ?_ | refine z_some ?_ | refine z_ext0 ?_ | refine z_ext1 ?_ | refine z_notT ?_ | refine z_notF ?_ | refine z_cT ?_ | refine z_cF ?_ | refine z_gtt ?_ | refine z_gff ?_ | refine z_gtf ?_ | refine z_gft ?_ | refine z_ptt ?_ | refine z_pff ?_ | refine z_ptf ?_ | refine z_pft ?_ | refine z_rtt ?_ | refine z_rff ?_ | refine z_rtf ?_ | refine z_rft ?_ | refine z_kt ?_ | refine z_kf ?_ | refine z_lss ?_ | refine z_gtr ?_ | refine z_leq ?_ | refine z_geq ?_ | refine z_eql ?_ | refine z_neq ?_ | refine z_seq ?_ | refine z_sne ?_ | refine z_slen ?_ | refine z_eqp ?_ | refine z_eqn ?_ | refine z_cv ?_) | refine z_of (mul8 w' (by omega)) ?_ | refine z_of (shr8 hk x w' (by omega)) ?_ | refine z_of (conv8 k (x.fdiv (2 ^ (8 * w')))) ?_
    have hb1 : b ≤ h1.sz := by have := A.fr.sz; omega
    refine byte_t (c := byA x w') A.own hb1 A.ok k0 A.ext hb0 (by simp; omega) fun h2 v2 A2 => ?_
    repeat first | (with_reducible first | refine z_nil ?_ | refine z_fadr ?_ | refine z_some ?_ | refine z_ext0 ?_ | refine z_ext1 ?_ | refine z_notT ?_ | refine z_notF ?_ | refine z_cT ?_ | refine z_cF ?_ | refine z_gtt ?_ | refine z_gff ?_ | refine z_gtf ?_ | refine z_gft ?_ | refine z_ptt ?_ | refine z_pff ?_ | refine z_ptf ?_ | refine z_pft ?_ | refine z_rtt ?_ | refine z_rff ?_ | refine z_rtf ?_ | refine z_rft ?_ | refine z_kt ?_ | refine z_kf ?_ | refine z_lss ?_ | refine z_gtr ?_ | refine z_leq ?_ | refine z_geq ?_ | refine z_eql ?_ | refine z_neq ?_ | refine z_seq ?_ | refine z_sne ?_ | refine z_slen ?_ | refine z_eqp ?_ | refine z_eqn ?_ | refine z_cv ?_) | refine z_of (sub64 (a := (w' : Int)) (b := 1) (by omega) (by omega)) ?_
    have hle := congrArg List.length he
    rw [List.length_append, bigB_len, bigB_len] at hle
    refine ih m h2 v2 (done ++ [byA x w']) (by omega) (by omega) (A.trans o A2) (by simp; omega) ?_
    rw [List.append_assoc]; exact he
end
end Go.Proofs.Ytbamgdknkhhikaa
namespace Go.Proofs.Ytbamgdknkhhikaa
open Go.Ab
set_option linter.unusedSimpArgs false
set_option linter.unusedVariables false
mutual
def encV : Val → List Nat
  | .mk k b n t l => (k % 256).toNat :: (if k = 1 then [if b then 1 else 0] else if k = 2 ∨ k = 5 then bigB (wrapA .u64 n) 8 else if k = 3 then bigB (wrapA .u64 (t.length : Int)) 4 ++ t else if k = 4 then bigB (wrapA .u64 (l.length : Int)) 4 ++ encVs l else [])
def encVs : List Val → List Nat
  | [] => []
  | v :: l => encV v ++ encVs l
end
theorem encVs_app (l m : List Val) : encVs (l ++ m) = encVs l ++ encVs m := by
  induction l with
  | nil => rfl
  | cons x t ih => simp only [List.cons_append, encVs, ih, List.append_assoc]
theorem encVs_one (x : Val) : encVs [x] = encV x := by simp [encVs]
mutual
theorem encV_len : ∀ (x : Val), (encV x).length ≤ 13 * szV x
  | .mk k b n t l => by
    have h1 := bigB_len (wrapA .u64 n) 8
    have h2 := bigB_len (wrapA .u64 (t.length : Int)) 4
    have h3 := bigB_len (wrapA .u64 (l.length : Int)) 4
    have h4 := encVs_len l
    simp only [encV, szV, List.length_cons]
    split
    · simp; omega
    · split
      · omega
      · split
        · rw [List.length_append]; omega
        · split
          · rw [List.length_append]; omega
          · simp; omega
theorem encVs_len : ∀ (l : List Val), (encVs l).length ≤ 13 * szVs l
  | [] => by simp [encVs]
  | x :: l => by
    have h1 := encV_len x
    have h2 := encVs_len l
    simp only [encVs, szVs, List.length_append]; omega
end
theorem conv64 (n : Int) : convA .u64 (.int .i64 n) = some (.int .u64 (wrapA .u64 n)) := rfl
theorem src_str {h : AHeap} (s : Str) : source h 1 (.str s) = some (encB s) := rfl
theorem c88 {h : AHeap} {K : Kont} {n : Nat} {b : Bool} (k : K (.int .i64 (if b then 1 else 0)) h = true) : callN E (n + 1) (.func 88) [.bool b] h K = true := by
  apply d88
  unfold s88
  cases b
  · exact z_cF k
  · exact z_cT k
section
variable {b : Nat} {h0 h : AHeap} {v : AV} {acc : List Nat} {K : Kont}
theorem App.box {h1 : AHeap} {c : List AV} {id : Nat} {v' : AV} {new : List Nat} (A : App b h0 h h1 v v' acc new) (V : Var h id c) (hv : ∀ j, inRow v j → j ≠ id) : Var h1 id c := A.fr.var V fun q => hv _ q rfl
theorem c68 : ∀ (k n : Nat) {b : Nat} {h0 h : AHeap} {v : AV} {acc : List Nat} {a : List AV} {x : Val} {K : Kont}, RV h0 a x → Own b h 1 v (encB acc) → b ≤ h.sz → h.Ok → h0.Ok → Ext h0 h → h0.sz ≤ b → szV x ≤ k → acc.length + 13 * szV x < 800000000000 → k + 12 ≤ n → n < lim - 5 →
    (∀ h' v', App b h0 h h' v v' acc (encV x) → K v' h' = true) → callN E (n + 1) (.func 68) [v, .agg a] h K = true := by
  intro k
  induction k with
  | zero =>
    intro n b h0 h v acc a x K R O hb o k0 e0 hb0 hk
    cases x; simp only [szV] at hk; omega
  | succ k ih =>
    intro n b h0 h v acc a x K R O hb o k0 e0 hb0 hk hl hn hL kk
    have hlm : lim = 4611686018427387904 := rfl
    have hmo : most = 1099511627776 := rfl
    obtain ⟨g1, g2, g3, g4⟩ := R.agg
    obtain ⟨kd, bb, nn, t, l⟩ := x
    obtain ⟨lv, rfl, VL, rr⟩ := R.cells
    have hlen := szVs_len l
    have hel := encV_len (.mk kd bb nn t l)
    simp only [szV] at hk hel hl
    apply d68
    unfold s68
    obtain ⟨h1, q1, V1, e1, o1, z1⟩ := box_v (n := 5) o g2 (by decide) g3
    rw [g4] at V1
    refine z_p q1 ?_
    have A0 : loadA h1 false 1 (.ptr h.sz 0 0 0) = some (.int .i64 kd) := V1.get rfl
    repeat first | (with_reducible first | refine z_nil ?_ | refine z_fadr ?_ | refine z_some ?_ | refine z_ext0 ?_ | refine z_ext1 ?_ | refine z_notT ?_ | refine z_notF ?_ | refine z_cT ?_ | refine z_cF ?_ | refine z_gtt ?_ | refine z_gff ?_ | refine z_gtf ?_ | refine z_gft ?_ | refine z_ptt ?_ | refine z_pff ?_ | refine z_ptf ?_ | refine z_pft ?_ | refine z_rtt ?_ | refine z_rff ?_ | refine z_rtf ?_ | refine z_rft ?_ | refine z_kt ?_ | refine z_kf ?_ | refine z_lss ?_ | refine z_gtr ?_ | refine z_leq ?_ | refine z_geq ?_ | refine z_eql ?_ | refine z_neq ?_ | refine z_seq ?_ | refine z_sne ?_ | refine z_slen ?_ | refine z_eqp ?_ | refine z_eqn ?_ | refine z_cv ?_) | refine z_of A0 ?_ | refine z_of (conv8 .i64 kd) ?_
    have hv1 : ∀ j, inRow v j → j ≠ h.sz := fun j hj => by have := own_lt (own_low O) o hj; omega
    refine byte_t (e := 5) (O.ext e1) (by omega) o1 k0 (ext_two e0 e1) hb0 (by omega) fun h2 v2 A2 => ?_
    have V2 := A2.box V1 hv1
    have A2h := A2.ahead e1
    have hb2 : b ≤ h2.sz := by have := A2.fr.sz; omega
    have hv2 : ∀ j, inRow v2 j → j ≠ h.sz := fun j hj => by
      rcases A2.rows j hj with q | q
      · exact hv1 j q
      · omega
    have al : (acc ++ [(kd % 256).toNat]).length = acc.length + 1 := by simp
    have B0 : loadA h2 false 1 (.ptr h.sz 0 0 0) = some (.int .i64 kd) := V2.get rfl
    repeat first | (with_reducible first | refine z_nil ?_ | refine z_fadr ?_ | refine z_some ?_ | refine z_ext0 ?_ | refine z_ext1 ?_ | refine z_notT ?_ | refine z_notF ?_ | refine z_cT ?_ | refine z_cF ?_ | refine z_gtt ?_ | refine z_gff ?_ | refine z_gtf ?_ | refine z_gft ?_ | refine z_ptt ?_ | refine z_pff ?_ | refine z_ptf ?_ | refine z_pft ?_ | refine z_rtt ?_ | refine z_rff ?_ | refine z_rtf ?_ | refine z_rft ?_ | refine z_kt ?_ | refine z_kf ?_ | refine z_lss ?_ | refine z_gtr ?_ | refine z_leq ?_ | refine z_geq ?_ | refine z_eql ?_ | refine z_neq ?_ | refine z_seq ?_ | refine z_sne ?_ | refine z_slen ?_ | refine z_eqp ?_ | refine z_eqn ?_ | refine z_cv ?_) | refine z_of B0 ?_
    have fin : ∀ new, encV (.mk kd bb nn t l) = (kd % 256).toNat :: new → ∀ h' v', App b h0 h2 h' v2 v' (acc ++ [(kd % 256).toNat]) new → K v' h' = true := fun new he h' v' A' => by
      refine kk h' v' ?_
      rw [he]
      exact A2h.trans o A'
    by_cases k1 : kd = 1
    · refine z_ct (decide_eq_true k1) ?_
      have B1 : loadA h2 false 1 (.ptr h.sz 0 0 1) = some (.bool bb) := V2.get rfl
      repeat first | (with_reducible first | refine z_nil ?_ | refine z_fadr ?_ | refine z_some ?_ | refine z_ext0 ?_ | refine z_ext1 ?_ | refine z_notT ?_ | refine z_notF ?_ | refine z_cT ?_ | refine z_cF ?_ | refine z_gtt ?_ | refine z_gff ?_ | refine z_gtf ?_ | refine z_gft ?_ | refine z_ptt ?_ | refine z_pff ?_ | refine z_ptf ?_ | refine z_pft ?_ | refine z_rtt ?_ | refine z_rff ?_ | refine z_rtf ?_ | refine z_rft ?_ | refine z_kt ?_ | refine z_kf ?_ | refine z_lss ?_ | refine z_gtr ?_ | refine z_leq ?_ | refine z_geq ?_ | refine z_eql ?_ | refine z_neq ?_ | refine z_seq ?_ | refine z_sne ?_ | refine z_slen ?_ | refine z_eqp ?_ | refine z_eqn ?_ | refine z_cv ?_) | refine z_of B1 ?_
      obtain ⟨n, rfl⟩ : ∃ j, n = j + 1 := ⟨n - 1, by omega⟩
      refine c88 ?_
      have hc : convA .u8 (.int .i64 (if bb then 1 else 0)) = some (.int .u8 ((if bb then 1 else 0 : Nat) : Int)) := by cases bb <;> rfl
      repeat first | (with_reducible first | refine z_nil ?_ | refine z_fadr ?_ | refine z_some ?_ | refine z_ext0 ?_ | refine z_ext1 ?_ | refine z_notT ?_ | refine z_notF ?_ | refine z_cT ?_ | refine z_cF ?_ | refine z_gtt ?_ | refine z_gff ?_ | refine z_gtf ?_ | refine z_gft ?_ | refine z_ptt ?_ | refine z_pff ?_ | refine z_ptf ?_ | refine z_pft ?_ | refine z_rtt ?_ | refine z_rff ?_ | refine z_rtf ?_ | refine z_rft ?_ | refine z_kt ?_ | refine z_kf ?_ | refine z_lss ?_ | refine z_gtr ?_ | refine z_leq ?_ | refine z_geq ?_ | refine z_eql ?_ | refine z_neq ?_ | refine z_seq ?_ | refine z_sne ?_ | refine z_slen ?_ | refine z_eqp ?_ | refine z_eqn ?_ | refine z_cv ?_) | refine z_of hc ?_
      refine byte_t (e := 5) A2.own hb2 A2.ok k0 A2.ext hb0 (by rw [al]; omega) fun h3 v3 A3 => ?_
      exact fin _ (by simp only [encV, if_pos k1]) h3 v3 A3
    · refine z_cf (decide_eq_false k1) ?_
      have p18 : ∀ c : Bool, c = decide (kd = 2 ∨ kd = 5) → p68_18 (callN E n) n v2 (.ptr h.sz 0 0 0) (.int .i64 kd) (.bool c) h2 K = true := by
        intro c hc
        unfold p68_18
        by_cases k25 : kd = 2 ∨ kd = 5
        · rw [hc, decide_eq_true k25]
          refine z_cT ?_
          have B2 : loadA h2 false 1 (.ptr h.sz 0 0 2) = some (.int .i64 nn) := V2.get rfl
          repeat first | (with_reducible first | refine z_nil ?_ | refine z_fadr ?_ | refine z_some ?_ | refine z_ext0 ?_ | refine z_ext1 ?_ | refine z_notT ?_ | refine z_notF ?_ | refine z_cT ?_ | refine z_cF ?_ | refine z_gtt ?_ | refine z_gff ?_ | refine z_gtf ?_ | refine z_gft ?_ | refine z_ptt ?_ | refine z_pff ?_ | refine z_ptf ?_ | refine z_pft ?_ | refine z_rtt ?_ | refine z_rff ?_ | refine z_rtf ?_ | refine z_rft ?_ | refine z_kt ?_ | refine z_kf ?_ | refine z_lss ?_ | refine z_gtr ?_ | refine z_leq ?_ | refine z_geq ?_ | refine z_eql ?_ | refine z_neq ?_ | refine z_seq ?_ | refine z_sne ?_ | refine z_slen ?_ | refine z_eqp ?_ | refine z_eqn ?_ | refine z_cv ?_) | refine z_of B2 ?_ | refine z_of (conv64 nn) ?_
          obtain ⟨n, rfl⟩ : ∃ j, n = j + 1 := ⟨n - 1, by omega⟩
          refine c89 (k := .u64) (w := 8) rfl (by omega) A2.own hb2 A2.ok k0 A2.ext hb0 (by rw [al]; omega) (by omega) fun h3 v3 A3 => ?_
          exact fin _ (by simp only [encV, if_neg k1, if_pos k25]) h3 v3 A3
        · rw [hc, decide_eq_false k25]
          refine z_cF ?_
          repeat first | (with_reducible first | refine z_nil ?_ | refine z_fadr ?_ | refine z_some ?_ | refine z_ext0 ?_ | refine z_ext1 ?_ | refine z_notT ?_ | refine z_notF ?_ | refine z_cT ?_ | refine z_cF ?_ | refine z_gtt ?_ | refine z_gff ?_ | refine z_gtf ?_ | refine z_gft ?_ | refine z_ptt ?_ | refine z_pff ?_ | refine z_ptf ?_ | refine z_pft ?_ | refine z_rtt ?_ | refine z_rff ?_ | refine z_rtf ?_ | refine z_rft ?_ | refine z_kt ?_ | refine z_kf ?_ | refine z_lss ?_ | refine z_gtr ?_ | refine z_leq ?_ | refine z_geq ?_ | refine z_eql ?_ | refine z_neq ?_ | refine z_seq ?_ | refine z_sne ?_ | refine z_slen ?_ | refine z_eqp ?_ | refine z_eqn ?_ | refine z_cv ?_)
          by_cases k3 : kd = 3
          · refine z_ct (decide_eq_true k3) ?_
            have B3 : ∀ {g}, Var g h.sz [.int .i64 kd, .bool bb, .int .i64 nn, .str t, lv] → loadA g false 1 (.ptr h.sz 0 0 3) = some (.str t) := fun V => V.get rfl
            repeat first | (with_reducible first | refine z_nil ?_ | refine z_fadr ?_ | refine z_some ?_ | refine z_ext0 ?_ | refine z_ext1 ?_ | refine z_notT ?_ | refine z_notF ?_ | refine z_cT ?_ | refine z_cF ?_ | refine z_gtt ?_ | refine z_gff ?_ | refine z_gtf ?_ | refine z_gft ?_ | refine z_ptt ?_ | refine z_pff ?_ | refine z_ptf ?_ | refine z_pft ?_ | refine z_rtt ?_ | refine z_rff ?_ | refine z_rtf ?_ | refine z_rft ?_ | refine z_kt ?_ | refine z_kf ?_ | refine z_lss ?_ | refine z_gtr ?_ | refine z_leq ?_ | refine z_geq ?_ | refine z_eql ?_ | refine z_neq ?_ | refine z_seq ?_ | refine z_sne ?_ | refine z_slen ?_ | refine z_eqp ?_ | refine z_eqn ?_ | refine z_cv ?_) | refine z_of (B3 V2) ?_ | refine z_of (conv64 (t.length : Int)) ?_
            obtain ⟨n, rfl⟩ : ∃ j, n = j + 1 := ⟨n - 1, by omega⟩
            refine c89 (k := .u64) (w := 4) rfl (by omega) A2.own hb2 A2.ok k0 A2.ext hb0 (by rw [al]; omega) (by omega) fun h3 v3 A3 => ?_
            have V3 := A3.box V2 hv2
            refine z_same (B3 V3) (same_str _) ?_
            have b4 := bigB_len (wrapA .u64 (t.length : Int)) 4
            obtain ⟨v4, h4, a1, A4⟩ := app_t (new := t) A3.own (by have := A3.fr.sz; omega) A3.ok k0 A3.ext hb0 (src_str t) (by rw [List.length_append, al, b4]; omega)
            refine z_p a1 ?_
            exact fin _ (by simp only [encV, if_neg k1, if_neg k25, if_pos k3]) h4 v4 (A3.trans A2.ok A4)
          · refine z_cf (decide_eq_false k3) ?_
            repeat first | (with_reducible first | refine z_nil ?_ | refine z_fadr ?_ | refine z_some ?_ | refine z_ext0 ?_ | refine z_ext1 ?_ | refine z_notT ?_ | refine z_notF ?_ | refine z_cT ?_ | refine z_cF ?_ | refine z_gtt ?_ | refine z_gff ?_ | refine z_gtf ?_ | refine z_gft ?_ | refine z_ptt ?_ | refine z_pff ?_ | refine z_ptf ?_ | refine z_pft ?_ | refine z_rtt ?_ | refine z_rff ?_ | refine z_rtf ?_ | refine z_rft ?_ | refine z_kt ?_ | refine z_kf ?_ | refine z_lss ?_ | refine z_gtr ?_ | refine z_leq ?_ | refine z_geq ?_ | refine z_eql ?_ | refine z_neq ?_ | refine z_seq ?_ | refine z_sne ?_ | refine z_slen ?_ | refine z_eqp ?_ | refine z_eqn ?_ | refine z_cv ?_)
            by_cases k4 : kd = 4
            · refine z_ct (decide_eq_true k4) ?_
              have B4 : ∀ {g}, Var g h.sz [.int .i64 kd, .bool bb, .int .i64 nn, .str t, lv] → loadA g false 1 (.ptr h.sz 0 0 4) = some lv := fun V => V.get rfl
              repeat first | (with_reducible first | refine z_nil ?_ | refine z_fadr ?_ | refine z_some ?_ | refine z_ext0 ?_ | refine z_ext1 ?_ | refine z_notT ?_ | refine z_notF ?_ | refine z_cT ?_ | refine z_cF ?_ | refine z_gtt ?_ | refine z_gff ?_ | refine z_gtf ?_ | refine z_gft ?_ | refine z_ptt ?_ | refine z_pff ?_ | refine z_ptf ?_ | refine z_pft ?_ | refine z_rtt ?_ | refine z_rff ?_ | refine z_rtf ?_ | refine z_rft ?_ | refine z_kt ?_ | refine z_kf ?_ | refine z_lss ?_ | refine z_gtr ?_ | refine z_leq ?_ | refine z_geq ?_ | refine z_eql ?_ | refine z_neq ?_ | refine z_seq ?_ | refine z_sne ?_ | refine z_slen ?_ | refine z_eqp ?_ | refine z_eqn ?_ | refine z_cv ?_) | refine z_of (B4 V2) ?_ | refine z_of (VL.ext A2.ext).len ?_ | refine z_of (conv64 (l.length : Int)) ?_
              obtain ⟨n, rfl⟩ : ∃ j, n = j + 1 := ⟨n - 1, by omega⟩
              refine c89 (k := .u64) (w := 4) rfl (by omega) A2.own hb2 A2.ok k0 A2.ext hb0 (by rw [al]; omega) (by omega) fun h3 v3 A3 => ?_
              have V3 := A3.box V2 hv2
              repeat first | (with_reducible first | refine z_nil ?_ | refine z_fadr ?_ | refine z_some ?_ | refine z_ext0 ?_ | refine z_ext1 ?_ | refine z_notT ?_ | refine z_notF ?_ | refine z_cT ?_ | refine z_cF ?_ | refine z_gtt ?_ | refine z_gff ?_ | refine z_gtf ?_ | refine z_gft ?_ | refine z_ptt ?_ | refine z_pff ?_ | refine z_ptf ?_ | refine z_pft ?_ | refine z_rtt ?_ | refine z_rff ?_ | refine z_rtf ?_ | refine z_rft ?_ | refine z_kt ?_ | refine z_kf ?_ | refine z_lss ?_ | refine z_gtr ?_ | refine z_leq ?_ | refine z_geq ?_ | refine z_eql ?_ | refine z_neq ?_ | refine z_seq ?_ | refine z_sne ?_ | refine z_slen ?_ | refine z_eqp ?_ | refine z_eqn ?_ | refine z_cv ?_) | refine z_of (B4 V3) ?_ | refine z_of (VL.ext A3.ext).len ?_
              have b4 := bigB_len (wrapA .u64 (l.length : Int)) 4
              suffices H : ∀ m i g w done, l.length - i < m → i ≤ l.length → App b h0 h3 g v3 w (acc ++ [(kd % 256).toNat] ++ bigB (wrapA .u64 (l.length : Int)) 4) done → done = encVs (l.take i) → l68_32 (callN E (n + 1)) (n + 1) m w lv (.int .i64 (l.length : Int)) (.int .i64 (i : Int)) g K = true from
                H (n + 1) 0 h3 v3 [] (by omega) (Nat.zero_le _) (App.refl A3.own A3.ok A3.ext) rfl
              intro m
              induction m with
              | zero => intro i g w done hm; omega
              | succ m ihm =>
                intro i g w done hm hi A hd
                unfold l68_32 b68_32
                repeat first | (with_reducible first | refine z_nil ?_ | refine z_fadr ?_ | refine z_some ?_ | refine z_ext0 ?_ | refine z_ext1 ?_ | refine z_notT ?_ | refine z_notF ?_ | refine z_cT ?_ | refine z_cF ?_ | refine z_gtt ?_ | refine z_gff ?_ | refine z_gtf ?_ | refine z_gft ?_ | refine z_ptt ?_ | refine z_pff ?_ | refine z_ptf ?_ | refine z_pft ?_ | refine z_rtt ?_ | refine z_rff ?_ | refine z_rtf ?_ | refine z_rft ?_ | refine z_kt ?_ | refine z_kf ?_ | refine z_lss ?_ | refine z_gtr ?_ | refine z_leq ?_ | refine z_geq ?_ | refine z_eql ?_ | refine z_neq ?_ | refine z_seq ?_ | refine z_sne ?_ | refine z_slen ?_ | refine z_eqp ?_ | refine z_eqn ?_ | refine z_cv ?_)
                by_cases hlt : i < l.length
                · refine z_ct (decide_eq_true (by omega)) ?_
                  obtain ⟨id, gg, j, ee, p1, p2, R2⟩ := VL.at (List.getElem?_eq_getElem hlt)
                  obtain ⟨id, gg, j, ee', p1, p2, R2'⟩ := (VL.ext A.ext).at (List.getElem?_eq_getElem hlt)
                  obtain ⟨f1, f2, f3, f4⟩ := R2'.agg
                  have B5 : loadA g true 5 (.ptr id gg j 0) = some (.agg ee') := by rw [p2]; exact f1
                  repeat first | (with_reducible first | refine z_nil ?_ | refine z_fadr ?_ | refine z_some ?_ | refine z_ext0 ?_ | refine z_ext1 ?_ | refine z_notT ?_ | refine z_notF ?_ | refine z_cT ?_ | refine z_cF ?_ | refine z_gtt ?_ | refine z_gff ?_ | refine z_gtf ?_ | refine z_gft ?_ | refine z_ptt ?_ | refine z_pff ?_ | refine z_ptf ?_ | refine z_pft ?_ | refine z_rtt ?_ | refine z_rff ?_ | refine z_rtf ?_ | refine z_rft ?_ | refine z_kt ?_ | refine z_kf ?_ | refine z_lss ?_ | refine z_gtr ?_ | refine z_leq ?_ | refine z_geq ?_ | refine z_eql ?_ | refine z_neq ?_ | refine z_seq ?_ | refine z_sne ?_ | refine z_slen ?_ | refine z_eqp ?_ | refine z_eqn ?_ | refine z_cv ?_) | refine z_of (p1 .i64) ?_ | refine z_of B5 ?_
                  obtain ⟨g2, x2, W2, y2, oo2, zz2⟩ := alloc_v (z := [AV.int .i64 0, .bool false, .int .i64 0, .str [], .nilSlc]) A.ok (by decide) rfl
                  refine z_p x2 ?_
                  obtain ⟨g3', w1, W, w3, o3, w5⟩ := W2.wrs oo2 (n := 5) (v := .agg ee') f2 rfl f3
                  refine z_u w1 ?_
                  rw [f4] at W
                  have ye : Ext g g3' := w3.ext y2 A.ok (Nat.le_refl _)
                  have B6 : loadA g3' true 5 (.ptr g.sz 0 0 0) = some (.agg ee') := W.all (RV.len5 R2')
                  repeat first | (with_reducible first | refine z_nil ?_ | refine z_fadr ?_ | refine z_some ?_ | refine z_ext0 ?_ | refine z_ext1 ?_ | refine z_notT ?_ | refine z_notF ?_ | refine z_cT ?_ | refine z_cF ?_ | refine z_gtt ?_ | refine z_gff ?_ | refine z_gtf ?_ | refine z_gft ?_ | refine z_ptt ?_ | refine z_pff ?_ | refine z_ptf ?_ | refine z_pft ?_ | refine z_rtt ?_ | refine z_rff ?_ | refine z_rtf ?_ | refine z_rft ?_ | refine z_kt ?_ | refine z_kf ?_ | refine z_lss ?_ | refine z_gtr ?_ | refine z_leq ?_ | refine z_geq ?_ | refine z_eql ?_ | refine z_neq ?_ | refine z_seq ?_ | refine z_sne ?_ | refine z_slen ?_ | refine z_eqp ?_ | refine z_eqn ?_ | refine z_cv ?_) | refine z_of B6 ?_
                  have hm2 := szVs_mem (List.getElem_mem hlt)
                  have R0 : RV h0 ee' l[i] := by
                    obtain ⟨es, v1, v2⟩ := VL
                    obtain ⟨e0', he0, hr0⟩ := v2.get (List.getElem?_eq_getElem hlt)
                    obtain ⟨id', g', j', u⟩ := v1.atE he0
                    have u1 := (u g A.ext).1 .i64
                    have u2 := (u g A.ext).2 true 0 5
                    rw [p1 .i64] at u1
                    injection u1 with u1
                    rw [← u1] at u2
                    rw [B5] at u2
                    have : partA true 0 5 e0' = some (.agg e0') := (hr0.agg).1
                    rw [this] at u2
                    injection u2 with u2
                    injection u2 with u2
                    rw [u2]; exact hr0
                  have hdl : done.length ≤ 13 * szVs l := by
                    rw [hd]
                    refine Nat.le_trans (encVs_len _) (Nat.mul_le_mul_left 13 ?_)
                    rw [szVs_eq, szVs_eq]; exact szL_take l i
                  have hdl2 : done.length + 13 * szV l[i] ≤ 13 * szVs l := by
                    have h5 : encVs (l.take (i + 1)) = encVs (l.take i) ++ encV l[i] := by rw [List.take_succ_eq_append_getElem hlt, encVs_app, encVs_one]
                    have : szVs (l.take i) + szV l[i] ≤ szVs l := by
                      have h6 : szVs (l.take (i + 1)) ≤ szVs l := by rw [szVs_eq, szVs_eq]; exact szL_take l (i + 1)
                      have h7 : szVs (l.take (i + 1)) = szVs (l.take i) + szV l[i] := by
                        rw [List.take_succ_eq_append_getElem hlt]
                        have : ∀ (p q : List Val), szVs (p ++ q) = szVs p + szVs q := by
                          intro p q
                          induction p with
                          | nil => simp [szVs]
                          | cons y t ih => simp only [List.cons_append, szVs, ih]; omega
                        rw [this]; simp [szVs]
                      omega
                    have h8 := encVs_len (l.take i)
                    rw [hd]; omega
                  refine ih n R0 (A.own.ext ye) (by have := A.fr.sz; have := A3.fr.sz; have := ye.1; omega) o3 k0 (ext_two A.ext ye) hb0 (by omega) (by rw [List.length_append, List.length_append, al, b4]; omega) (by omega) (by omega) fun g4 w4 A4 => ?_
                  repeat first | (with_reducible first | refine z_nil ?_ | refine z_fadr ?_ | refine z_some ?_ | refine z_ext0 ?_ | refine z_ext1 ?_ | refine z_notT ?_ | refine z_notF ?_ | refine z_cT ?_ | refine z_cF ?_ | refine z_gtt ?_ | refine z_gff ?_ | refine z_gtf ?_ | refine z_gft ?_ | refine z_ptt ?_ | refine z_pff ?_ | refine z_ptf ?_ | refine z_pft ?_ | refine z_rtt ?_ | refine z_rff ?_ | refine z_rtf ?_ | refine z_rft ?_ | refine z_kt ?_ | refine z_kf ?_ | refine z_lss ?_ | refine z_gtr ?_ | refine z_leq ?_ | refine z_geq ?_ | refine z_eql ?_ | refine z_neq ?_ | refine z_seq ?_ | refine z_sne ?_ | refine z_slen ?_ | refine z_eqp ?_ | refine z_eqn ?_ | refine z_cv ?_) | refine z_of (inc64 (i := i) (by omega)) ?_
                  refine ihm (i + 1) g4 w4 (done ++ encV l[i]) (by omega) (by omega) (A.trans A3.ok (A4.ahead ye)) ?_
                  rw [hd, List.take_succ_eq_append_getElem hlt, encVs_app, encVs_one]
                · refine z_cf (decide_eq_false (by omega)) ?_
                  rw [List.take_of_length_le (by omega)] at hd
                  refine fin (bigB (wrapA .u64 (l.length : Int)) 4 ++ encVs l) (by simp only [encV, if_neg k1, if_neg k25, if_neg k3, if_pos k4]) g w ?_
                  rw [← hd]
                  exact A3.trans A2.ok A
            · refine z_cf (decide_eq_false k4) ?_
              exact fin [] (by simp only [encV, if_neg k1, if_neg k25, if_neg k3, if_neg k4]) h2 v2 (App.refl A2.own A2.ok A2.ext)
      repeat first | (with_reducible first | refine z_nil ?_ | refine z_fadr ?_ | refine z_some ?_ | refine z_ext0 ?_ | refine z_ext1 ?_ | refine z_notT ?_ | refine z_notF ?_ | refine z_cT ?_ | refine z_cF ?_ | refine z_gtt ?_ | refine z_gff ?_ | refine z_gtf ?_ | refine z_gft ?_ | refine z_ptt ?_ | refine z_pff ?_ | refine z_ptf ?_ | refine z_pft ?_ | refine z_rtt ?_ | refine z_rff ?_ | refine z_rtf ?_ | refine z_rft ?_ | refine z_kt ?_ | refine z_kf ?_ | refine z_lss ?_ | refine z_gtr ?_ | refine z_leq ?_ | refine z_geq ?_ | refine z_eql ?_ | refine z_neq ?_ | refine z_seq ?_ | refine z_sne ?_ | refine z_slen ?_ | refine z_eqp ?_ | refine z_eqn ?_ | refine z_cv ?_)
      by_cases k2 : kd = 2
      · rw [decide_eq_true k2]
        refine z_cT (p18 true ?_)
        rw [decide_eq_true (.inl k2)]
      · rw [decide_eq_false k2]
        refine z_cF ?_
        repeat first | (with_reducible first | refine z_nil ?_ | refine z_fadr ?_ | refine z_some ?_ | refine z_ext0 ?_ | refine z_ext1 ?_ | refine z_notT ?_ | refine z_notF ?_ | refine z_cT ?_ | refine z_cF ?_ | refine z_gtt ?_ | refine z_gff ?_ | refine z_gtf ?_ | refine z_gft ?_ | refine z_ptt ?_ | refine z_pff ?_ | refine z_ptf ?_ | refine z_pft ?_ | refine z_rtt ?_ | refine z_rff ?_ | refine z_rtf ?_ | refine z_rft ?_ | refine z_kt ?_ | refine z_kf ?_ | refine z_lss ?_ | refine z_gtr ?_ | refine z_leq ?_ | refine z_geq ?_ | refine z_eql ?_ | refine z_neq ?_ | refine z_seq ?_ | refine z_sne ?_ | refine z_slen ?_ | refine z_eqp ?_ | refine z_eqn ?_ | refine z_cv ?_)
        refine p18 _ ?_
        congr 1; apply propext
        exact ⟨.inr, fun q => q.elim (fun q => absurd q k2) id⟩
end
end Go.Proofs.Ytbamgdknkhhikaa
namespace Go.Proofs.Ytbamgdknkhhikaa
open Go.Ab
set_option linter.unusedSimpArgs false
set_option linter.unusedVariables false
mutual
theorem encV_lt {h : AHeap} : ∀ {x : Val} {a : List AV}, RV h a x → ∀ c ∈ encV x, c < 256
  | .mk k b n t l, a, R, c, hc => by
    simp only [RV] at R
    obtain ⟨lv, es, rfl, _, hr, _, _, ht⟩ := R
    simp only [encV] at hc
    rcases List.mem_cons.1 hc with hc | hc
    · omega
    · split at hc
      · simp only [List.mem_singleton] at hc; cases b <;> simp at hc <;> omega
      · split at hc
        · exact bigB_lt _ _ c hc
        · split at hc
          · rcases List.mem_append.1 hc with hc | hc
            · exact bigB_lt _ _ c hc
            · exact ht c hc
          · split at hc
            · rcases List.mem_append.1 hc with hc | hc
              · exact bigB_lt _ _ c hc
              · exact encVs_lt hr c hc
            · cases hc
theorem encVs_lt {h : AHeap} : ∀ {l : List Val} {es : List (List AV)}, RVs h es l → ∀ c ∈ encVs l, c < 256
  | [], _, _, c, hc => by simp [encVs] at hc
  | x :: l, es, R, c, hc => by
    simp only [RVs] at R
    obtain ⟨e, r, rfl, h1, h2⟩ := R
    simp only [encVs] at hc
    rcases List.mem_append.1 hc with hc | hc
    · exact encV_lt h1 c hc
    · exact encVs_lt h2 c hc
end
def spX (x : Val) : List Nat := if ckV 30 x = true then encV x else []
def spV (l : List Val) : List Nat := (l.map spX).flatten
theorem spV_take {l : List Val} {i : Nat} (h : i < l.length) : spV (l.take (i + 1)) = spV (l.take i) ++ spX l[i] := by
  unfold spV
  rw [List.take_succ_eq_append_getElem h, List.map_append, List.flatten_append]; simp
theorem spX_len (x : Val) : (spX x).length ≤ 13 * szV x := by
  unfold spX
  split
  · exact encV_len x
  · simp
theorem spV_len : ∀ (l : List Val), (spV l).length ≤ 13 * szVs l
  | [] => by simp [spV]
  | x :: l => by
    have h1 := spX_len x
    have h2 := spV_len l
    have : spV (x :: l) = spX x ++ spV l := by simp [spV]
    rw [this, List.length_append]; simp only [szVs]; omega
theorem spV_take_len (l : List Val) (i : Nat) : (spV (l.take i)).length ≤ 13 * szVs l := Nat.le_trans (spV_len _) (Nat.mul_le_mul_left 13 (by rw [szVs_eq, szVs_eq]; exact szL_take l i))
theorem _root_.Go.Ab.VV.lt {h : AHeap} {v : AV} {l : List Val} (V : VV h v l) : ∀ x ∈ l, ∀ c ∈ spX x, c < 256 := by
  intro x hx c hc
  obtain ⟨i, hi, rfl⟩ := List.mem_iff_getElem.1 hx
  obtain ⟨id, g, j, e, _, _, R⟩ := V.at (List.getElem?_eq_getElem hi)
  unfold spX at hc
  split at hc
  · exact encV_lt R c hc
  · cases hc
theorem _root_.Go.Ab.VV.lts {h : AHeap} {v : AV} {l : List Val} (V : VV h v l) : ∀ c ∈ spV l, c < 256 := by
  intro c hc
  obtain ⟨s, hs, hc⟩ := List.mem_flatten.1 hc
  obtain ⟨x, hx, rfl⟩ := List.mem_map.1 hs
  exact V.lt x hx c hc
theorem b2s_own {b : Nat} {h : AHeap} {v : AV} {s : Str} (O : Own b h 1 v (encB s)) (hb : ∀ c ∈ s, c < 256) : b2sA h v = some (.str s) := by
  have hs := O.view.src
  rcases O with ⟨rfl, he⟩ | ⟨i, r, q1, rfl, _⟩
  · cases s with
    | nil => rfl
    | cons b s => simp [encB] at he
  · simp only [b2sA, hs, bytesOf_enc s hb]
section
variable {h : AHeap} {K : Kont} {n : Nat}
theorem c59 {a : List AV} {x : Val} (R : RV h a x) (ho : h.Ok) (hB : szV x < 10000000000) (hn : szV x + 42 ≤ n) (hL : n < lim - 9) (kk : ∀ h' e er, Ext h h' → h'.Ok → View h' 1 e (encB (spX x)) → K (.tup [e, er]) h' = true) : callN E (n + 3) (.func 59) [.agg a] h K = true := by
  obtain ⟨g1, g2, g3, g4⟩ := R.agg
  apply d59
  unfold s59
  obtain ⟨h1, q1, V1, e1, o1, z1⟩ := box_v (n := 5) ho g2 (by decide) g3
  rw [g4] at V1
  refine z_p q1 ?_
  have A : ∀ {g}, Ext h1 g → loadA g true 5 (.ptr h.sz 0 0 0) = some (.agg a) := fun e => (V1.ext e).all (RV.len5 R)
  repeat first | (with_reducible first | refine z_nil ?_ | refine z_fadr ?_ | refine z_some ?_ | refine z_ext0 ?_ | refine z_ext1 ?_ | refine z_notT ?_ | refine z_notF ?_ | refine z_cT ?_ | refine z_cF ?_ | refine z_gtt ?_ | refine z_gff ?_ | refine z_gtf ?_ | refine z_gft ?_ | refine z_ptt ?_ | refine z_pff ?_ | refine z_ptf ?_ | refine z_pft ?_ | refine z_rtt ?_ | refine z_rff ?_ | refine z_rtf ?_ | refine z_rft ?_ | refine z_kt ?_ | refine z_kf ?_ | refine z_lss ?_ | refine z_gtr ?_ | refine z_leq ?_ | refine z_geq ?_ | refine z_eql ?_ | refine z_neq ?_ | refine z_seq ?_ | refine z_sne ?_ | refine z_slen ?_ | refine z_eqp ?_ | refine z_eqn ?_ | refine z_cv ?_) | refine z_of (A (Ext.refl _)) ?_
  refine c57 (n := n) (R.ext e1) o1 (by omega) (by omega) fun h2 e2 o2 => ?_
  unfold spX at kk
  cases hc : ckV 30 x with
  | false =>
    rw [hc] at kk
    repeat first | (with_reducible first | refine z_nil ?_ | refine z_fadr ?_ | refine z_some ?_ | refine z_ext0 ?_ | refine z_ext1 ?_ | refine z_notT ?_ | refine z_notF ?_ | refine z_cT ?_ | refine z_cF ?_ | refine z_gtt ?_ | refine z_gff ?_ | refine z_gtf ?_ | refine z_gft ?_ | refine z_ptt ?_ | refine z_pff ?_ | refine z_ptf ?_ | refine z_pft ?_ | refine z_rtt ?_ | refine z_rff ?_ | refine z_rtf ?_ | refine z_rft ?_ | refine z_kt ?_ | refine z_kf ?_ | refine z_lss ?_ | refine z_gtr ?_ | refine z_leq ?_ | refine z_geq ?_ | refine z_eql ?_ | refine z_neq ?_ | refine z_seq ?_ | refine z_sne ?_ | refine z_slen ?_ | refine z_eqp ?_ | refine z_eqn ?_ | refine z_cv ?_)
    exact kk h2 .nilSlc _ (ext_two e1 e2) o2 (View.nil _ _)
  | true =>
    rw [hc] at kk
    repeat first | (with_reducible first | refine z_nil ?_ | refine z_fadr ?_ | refine z_some ?_ | refine z_ext0 ?_ | refine z_ext1 ?_ | refine z_notT ?_ | refine z_notF ?_ | refine z_cT ?_ | refine z_cF ?_ | refine z_gtt ?_ | refine z_gff ?_ | refine z_gtf ?_ | refine z_gft ?_ | refine z_ptt ?_ | refine z_pff ?_ | refine z_ptf ?_ | refine z_pft ?_ | refine z_rtt ?_ | refine z_rff ?_ | refine z_rtf ?_ | refine z_rft ?_ | refine z_kt ?_ | refine z_kf ?_ | refine z_lss ?_ | refine z_gtr ?_ | refine z_leq ?_ | refine z_geq ?_ | refine z_eql ?_ | refine z_neq ?_ | refine z_seq ?_ | refine z_sne ?_ | refine z_slen ?_ | refine z_eqp ?_ | refine z_eqn ?_ | refine z_cv ?_)
    repeat first | (with_reducible first | refine z_nil ?_ | refine z_fadr ?_ | refine z_some ?_ | refine z_ext0 ?_ | refine z_ext1 ?_ | refine z_notT ?_ | refine z_notF ?_ | refine z_cT ?_ | refine z_cF ?_ | refine z_gtt ?_ | refine z_gff ?_ | refine z_gtf ?_ | refine z_gft ?_ | refine z_ptt ?_ | refine z_pff ?_ | refine z_ptf ?_ | refine z_pft ?_ | refine z_rtt ?_ | refine z_rff ?_ | refine z_rtf ?_ | refine z_rft ?_ | refine z_kt ?_ | refine z_kf ?_ | refine z_lss ?_ | refine z_gtr ?_ | refine z_leq ?_ | refine z_geq ?_ | refine z_eql ?_ | refine z_neq ?_ | refine z_seq ?_ | refine z_sne ?_ | refine z_slen ?_ | refine z_eqp ?_ | refine z_eqn ?_ | refine z_cv ?_) | refine z_of (A e2) ?_
    refine c68 (szV x) (n + 1) (b := h2.sz) (h0 := h2) (acc := []) ((R.ext e1).ext e2) (Own.nil _ _ _) (Nat.le_refl _) o2 o2 (Ext.refl _) (Nat.le_refl _) (Nat.le_refl _) (by simp; omega) (by omega) (by omega) fun h3 v3 A3 => ?_
    exact kk h3 v3 _ (ext_two (ext_two e1 e2) A3.ext) A3.ok A3.own.view
theorem c38 {cls : Str} {v : AV} {l : List Val} (V : VV h v l) (ho : h.Ok) (hB : szVs l < 10000000000) (hn : szVs l + 42 ≤ n) (hL : n < lim - 9) (kk : ∀ h', Ext h h' → h'.Ok → K (.agg [.str cls, .str (spV l)]) h' = true) : callN E (n + 4) (.func 38) [.agg [.str cls, v]] h K = true := by
  have hlm : lim = 4611686018427387904 := rfl
  have hmo : most = 1099511627776 := rfl
  have hlen := szVs_len l
  apply d38
  unfold s38
  obtain ⟨h1, q1, V1, e1, o1, z1⟩ := box_v (n := 2) (v := .agg [.str cls, v]) ho rfl (by decide) (by simp only [AV.cells, allLeaf, V.leaf]; rfl)
  have V1 : Var h1 h.sz [.str cls, v] := V1
  refine z_p q1 ?_
  obtain ⟨h2, q2, V2, e2, o2, z2⟩ := alloc_v (z := [AV.str [], AV.str []]) o1 (by decide) rfl
  refine z_p q2 ?_
  have V1 := V1.ext e2
  have A1 : loadA h2 false 1 (.ptr h.sz 0 0 1) = some v := V1.get rfl
  have e02 := ext_two e1 e2
  repeat first | (with_reducible first | refine z_nil ?_ | refine z_fadr ?_ | refine z_some ?_ | refine z_ext0 ?_ | refine z_ext1 ?_ | refine z_notT ?_ | refine z_notF ?_ | refine z_cT ?_ | refine z_cF ?_ | refine z_gtt ?_ | refine z_gff ?_ | refine z_gtf ?_ | refine z_gft ?_ | refine z_ptt ?_ | refine z_pff ?_ | refine z_ptf ?_ | refine z_pft ?_ | refine z_rtt ?_ | refine z_rff ?_ | refine z_rtf ?_ | refine z_rft ?_ | refine z_kt ?_ | refine z_kf ?_ | refine z_lss ?_ | refine z_gtr ?_ | refine z_leq ?_ | refine z_geq ?_ | refine z_eql ?_ | refine z_neq ?_ | refine z_seq ?_ | refine z_sne ?_ | refine z_slen ?_ | refine z_eqp ?_ | refine z_eqn ?_ | refine z_cv ?_) | refine z_of A1 ?_ | refine z_of (V.ext e02).len ?_
  suffices H : ∀ m i g w, l.length - i < m → i ≤ l.length → App h2.sz h2 h2 g .nilSlc w [] (spV (l.take i)) → l38_8 (callN E (n + 3)) (n + 3) m (.ptr h.sz 0 0 0) (.ptr h1.sz 0 0 0) w v (.int .i64 (l.length : Int)) (.int .i64 (i : Int)) g K = true from
    H (n + 3) 0 h2 .nilSlc (by omega) (Nat.zero_le _) (App.refl (Own.nil _ _ _) o2 (Ext.refl _))
  intro m
  induction m with
  | zero => intro i g w hm; omega
  | succ m ih =>
    intro i g w hm hi A
    unfold l38_8 b38_8
    repeat first | (with_reducible first | refine z_nil ?_ | refine z_fadr ?_ | refine z_some ?_ | refine z_ext0 ?_ | refine z_ext1 ?_ | refine z_notT ?_ | refine z_notF ?_ | refine z_cT ?_ | refine z_cF ?_ | refine z_gtt ?_ | refine z_gff ?_ | refine z_gtf ?_ | refine z_gft ?_ | refine z_ptt ?_ | refine z_pff ?_ | refine z_ptf ?_ | refine z_pft ?_ | refine z_rtt ?_ | refine z_rff ?_ | refine z_rtf ?_ | refine z_rft ?_ | refine z_kt ?_ | refine z_kf ?_ | refine z_lss ?_ | refine z_gtr ?_ | refine z_leq ?_ | refine z_geq ?_ | refine z_eql ?_ | refine z_neq ?_ | refine z_seq ?_ | refine z_sne ?_ | refine z_slen ?_ | refine z_eqp ?_ | refine z_eqn ?_ | refine z_cv ?_)
    have e0g := ext_two e02 A.ext
    by_cases hlt : i < l.length
    · refine z_ct (decide_eq_true (by omega)) ?_
      obtain ⟨id, gg, j, ee, p1, p2, R⟩ := (V.ext e0g).at (List.getElem?_eq_getElem hlt)
      obtain ⟨g1, g2, g3, g4⟩ := R.agg
      have B : loadA g true 5 (.ptr id gg j 0) = some (.agg ee) := by rw [p2]; exact g1
      have hm2 := szVs_mem (List.getElem_mem hlt)
      repeat first | (with_reducible first | refine z_nil ?_ | refine z_fadr ?_ | refine z_some ?_ | refine z_ext0 ?_ | refine z_ext1 ?_ | refine z_notT ?_ | refine z_notF ?_ | refine z_cT ?_ | refine z_cF ?_ | refine z_gtt ?_ | refine z_gff ?_ | refine z_gtf ?_ | refine z_gft ?_ | refine z_ptt ?_ | refine z_pff ?_ | refine z_ptf ?_ | refine z_pft ?_ | refine z_rtt ?_ | refine z_rff ?_ | refine z_rtf ?_ | refine z_rft ?_ | refine z_kt ?_ | refine z_kf ?_ | refine z_lss ?_ | refine z_gtr ?_ | refine z_leq ?_ | refine z_geq ?_ | refine z_eql ?_ | refine z_neq ?_ | refine z_seq ?_ | refine z_sne ?_ | refine z_slen ?_ | refine z_eqp ?_ | refine z_eqn ?_ | refine z_cv ?_) | refine z_of (p1 .i64) ?_ | refine z_of B ?_
      obtain ⟨g2', x2, W2, y2, oo2, zz2⟩ := alloc_v (z := [AV.int .i64 0, .bool false, .int .i64 0, .str [], .nilSlc]) A.ok (by decide) rfl
      refine z_p x2 ?_
      obtain ⟨g3', w1, W, w3, o3, w5⟩ := W2.wrs oo2 (n := 5) (v := .agg ee) g2 rfl g3
      refine z_u w1 ?_
      rw [g4] at W
      have ye : Ext g g3' := w3.ext y2 A.ok (Nat.le_refl _)
      have B6 : loadA g3' true 5 (.ptr g.sz 0 0 0) = some (.agg ee) := W.all (RV.len5 R)
      repeat first | (with_reducible first | refine z_nil ?_ | refine z_fadr ?_ | refine z_some ?_ | refine z_ext0 ?_ | refine z_ext1 ?_ | refine z_notT ?_ | refine z_notF ?_ | refine z_cT ?_ | refine z_cF ?_ | refine z_gtt ?_ | refine z_gff ?_ | refine z_gtf ?_ | refine z_gft ?_ | refine z_ptt ?_ | refine z_pff ?_ | refine z_ptf ?_ | refine z_pft ?_ | refine z_rtt ?_ | refine z_rff ?_ | refine z_rtf ?_ | refine z_rft ?_ | refine z_kt ?_ | refine z_kf ?_ | refine z_lss ?_ | refine z_gtr ?_ | refine z_leq ?_ | refine z_geq ?_ | refine z_eql ?_ | refine z_neq ?_ | refine z_seq ?_ | refine z_sne ?_ | refine z_slen ?_ | refine z_eqp ?_ | refine z_eqn ?_ | refine z_cv ?_) | refine z_of B6 ?_
      refine c59 (n := n) (R.ext ye) o3 (by omega) (by omega) (by omega) fun g4' e er e4 o4 VE => ?_
      repeat first | (with_reducible first | refine z_nil ?_ | refine z_fadr ?_ | refine z_some ?_ | refine z_ext0 ?_ | refine z_ext1 ?_ | refine z_notT ?_ | refine z_notF ?_ | refine z_cT ?_ | refine z_cF ?_ | refine z_gtt ?_ | refine z_gff ?_ | refine z_gtf ?_ | refine z_gft ?_ | refine z_ptt ?_ | refine z_pff ?_ | refine z_ptf ?_ | refine z_pft ?_ | refine z_rtt ?_ | refine z_rff ?_ | refine z_rtf ?_ | refine z_rft ?_ | refine z_kt ?_ | refine z_kf ?_ | refine z_lss ?_ | refine z_gtr ?_ | refine z_leq ?_ | refine z_geq ?_ | refine z_eql ?_ | refine z_neq ?_ | refine z_seq ?_ | refine z_sne ?_ | refine z_slen ?_ | refine z_eqp ?_ | refine z_eqn ?_ | refine z_cv ?_)
      have e34 := ext_two ye e4
      have hl1 := spV_take_len l i
      have hl2 := spX_len l[i]
      obtain ⟨w', g5, a1, A5⟩ := appb_t (e := 5) (new := spX l[i]) (A.own.ext e34) (by have := A.fr.sz; have := e34.1; omega) o4 o2 (ext_two A.ext e34) (Nat.le_refl _) VE.src (by simp only [List.nil_append]; omega)
      refine z_p a1 ?_
      repeat first | (with_reducible first | refine z_nil ?_ | refine z_fadr ?_ | refine z_some ?_ | refine z_ext0 ?_ | refine z_ext1 ?_ | refine z_notT ?_ | refine z_notF ?_ | refine z_cT ?_ | refine z_cF ?_ | refine z_gtt ?_ | refine z_gff ?_ | refine z_gtf ?_ | refine z_gft ?_ | refine z_ptt ?_ | refine z_pff ?_ | refine z_ptf ?_ | refine z_pft ?_ | refine z_rtt ?_ | refine z_rff ?_ | refine z_rtf ?_ | refine z_rft ?_ | refine z_kt ?_ | refine z_kf ?_ | refine z_lss ?_ | refine z_gtr ?_ | refine z_leq ?_ | refine z_geq ?_ | refine z_eql ?_ | refine z_neq ?_ | refine z_seq ?_ | refine z_sne ?_ | refine z_slen ?_ | refine z_eqp ?_ | refine z_eqn ?_ | refine z_cv ?_) | refine z_of (inc64 (i := i) (by omega)) ?_
      refine ih (i + 1) g5 w' (by omega) (by omega) ?_
      rw [spV_take hlt]
      exact A.trans o2 (A5.ahead e34)
    · refine z_cf (decide_eq_false (by omega)) ?_
      rw [List.take_of_length_le (by omega)] at A
      unfold p38_23
      have A0 : loadA g false 1 (.ptr h.sz 0 0 0) = some (.str cls) := (V1.ext A.ext).get rfl
      have AO := A.own
      rw [List.nil_append] at AO
      repeat first | (with_reducible first | refine z_nil ?_ | refine z_fadr ?_ | refine z_some ?_ | refine z_ext0 ?_ | refine z_ext1 ?_ | refine z_notT ?_ | refine z_notF ?_ | refine z_cT ?_ | refine z_cF ?_ | refine z_gtt ?_ | refine z_gff ?_ | refine z_gtf ?_ | refine z_gft ?_ | refine z_ptt ?_ | refine z_pff ?_ | refine z_ptf ?_ | refine z_pft ?_ | refine z_rtt ?_ | refine z_rff ?_ | refine z_rtf ?_ | refine z_rft ?_ | refine z_kt ?_ | refine z_kf ?_ | refine z_lss ?_ | refine z_gtr ?_ | refine z_leq ?_ | refine z_geq ?_ | refine z_eql ?_ | refine z_neq ?_ | refine z_seq ?_ | refine z_sne ?_ | refine z_slen ?_ | refine z_eqp ?_ | refine z_eqn ?_ | refine z_cv ?_) | refine z_of A0 ?_ | refine z_of (b2s_own AO V.lts) ?_
      refine z_of (build2 rfl rfl) ?_
      obtain ⟨g1, w1, W, w3, o3, w5⟩ := (V2.ext A.ext).wrs A.ok (n := 2) (v := .agg [.str cls, .str (spV l)]) rfl rfl rfl
      refine z_u w1 ?_
      have W : Var g1 h1.sz [.str cls, .str (spV l)] := W
      refine res1 (W.all rfl) ?_
      exact kk g1 (w3.ext e0g ho (by omega)) o3
end
def kyE (e : Elm) : List Nat := bigB e.hd 8 ++ bigB e.st 8 ++ bigB (e.vs.length : Int) 8 ++ spV e.vs
def kyM (l : List Elm) : List Nat := (l.map kyE).flatten
structure KS (h0 : AHeap) (c0 : Nat) (g : AHeap) (w : AV) (acc : List Nat) : Prop where
  o : g.Ok
  e : Ext h0 g
  c : Var g c0 [w]
  own : Own (c0 + 1) g 1 w (encB acc)
structure KT (c0 : Nat) (g g' : AHeap) (w w' : AV) : Prop where
  fr : Fr (fun j => j = c0 ∨ inRow w j) g g'
  rows : ∀ j, inRow w' j → inRow w j ∨ g.sz ≤ j
section
variable {h0 g g1 g2 : AHeap} {c0 : Nat} {w w1 w2 : AV} {acc new : List Nat} {K : Kont} {n : Nat}
theorem KT.refl : KT c0 g g w w := ⟨Fr.refl _ _, fun _ i => .inl i⟩
theorem KT.trans (o : g.Ok) (p : KT c0 g g1 w w1) (q : KT c0 g1 g2 w1 w2) : KT c0 g g2 w w2 :=
  ⟨fr_acc o p.fr q.fr fun j hj => by
    rcases hj with hj | hj
    · exact .inl (.inl hj)
    · rcases p.rows j hj with i | i
      · exact .inl (.inr i)
      · exact .inr i, fun j i => by
    have := p.fr.sz
    rcases q.rows j i with i | i
    · exact p.rows j i
    · exact .inr (by omega)⟩
theorem KT.ahead (e : Ext g g1) (p : KT c0 g1 g2 w w1) : KT c0 g g2 w w1 :=
  ⟨(Fr.of_ext e).trans p.fr, fun j i => by have := e.1; rcases p.rows j i with i | i; exact .inl i; exact .inr (by omega)⟩
theorem KS.ext (S : KS h0 c0 g w acc) (e : Ext g g1) (o : g1.Ok) : KS h0 c0 g1 w acc := ⟨o, ext_two S.e e, S.c.ext e, S.own.ext e⟩
theorem KS.lt (S : KS h0 c0 g w acc) : c0 < g.sz := S.c.lt S.o
theorem KS.row (S : KS h0 c0 g w acc) {j : Nat} (i : inRow w j) : c0 < j ∧ j < g.sz := ⟨by have := own_row S.own i; omega, own_lt (own_low S.own) S.o i⟩
theorem KT.var (p : KT c0 g g1 w w1) (S : KS h0 c0 g w acc) {id : Nat} {c : List AV} (V : Var g id c) (n1 : id ≠ c0) (n2 : ¬ inRow w id) : Var g1 id c := p.fr.var V fun q => q.elim n1 n2
theorem KS.fresh (S : KS h0 c0 g w acc) : g.sz ≠ c0 ∧ ¬ inRow w g.sz := ⟨by have := S.lt; omega, fun q => by have := S.row q; omega⟩
theorem KT.keepn (p : KT c0 g g1 w w1) {id : Nat} (hid : id < g.sz) (n2 : ¬ inRow w id) : ¬ inRow w1 id := fun q => by
  rcases p.rows _ q with i | i
  · exact n2 i
  · omega
theorem ks_app {e : Nat} {x : AV} {K : AHeap → Bool} (k0 : h0.Ok) (hc : h0.sz ≤ c0) (S : KS h0 c0 g w acc) (hs : source g 1 x = some (encB new)) (hl : acc.length + new.length ≤ most)
    (kk : ∀ g' w', KS h0 c0 g' w' (acc ++ new) → KT c0 g g' w w' → K g' = true) :
    (optP (appbA g e w x) fun v7 h => optP (unit (storeA h 1 (.ptr c0 0 0 0) v7)) fun _ h => K h) = true := by
  have hlt := S.lt
  obtain ⟨w', g1, a1, A⟩ := appb_t (e := e) S.own (by omega) S.o k0 S.e (by omega) hs hl
  refine z_p a1 ?_
  have C := A.fr.var S.c (fun q => by have := S.row q; omega)
  obtain ⟨g2, w1, W, w3, o2, w5⟩ := C.wr A.ok (off := 0) (v := w') (show 0 < 1 by decide) A.own.view.leaf
  refine z_u w1 ?_
  have rows' : ∀ j, inRow w' j → c0 < j := fun j i => by
    rcases A.rows j i with q | q
    · exact (S.row q).1
    · omega
  refine kk g2 w' ⟨o2, w3.ext A.ext k0 hc, W, ?_⟩ ⟨?_, A.rows⟩
  · exact w3.own A.own (by omega)
  · exact (A.fr.mono fun j i => .inr i).trans (Fr.of_but (X := fun j => j = c0 ∨ inRow w j) (.inl rfl) w3)
theorem c69 {x : Int} (k0 : h0.Ok) (hc : h0.sz ≤ c0) (S : KS h0 c0 g w acc) (hl : acc.length + 8 < 900000000000) (hn : 9 ≤ n)
    (kk : ∀ g' w', KS h0 c0 g' w' (acc ++ bigB x 8) → KT c0 g g' w w' → K (.tup []) g' = true) : callN E (n + 1) (.func 69) [.int .i64 x, .ptr c0 0 0 0] g K = true := by
  have hmo : most = 1099511627776 := rfl
  apply d69
  unfold s69
  suffices H : ∀ q m g1 w1 done, q < m → q ≤ 8 → KS h0 c0 g1 w1 (acc ++ done) → KT c0 g g1 w w1 → done.length ≤ 8 → done ++ bigB x q = bigB x 8 → l69_3 (callN E n) n m (.int .i64 x) (.ptr c0 0 0 0) (.int .i64 ((q : Int) - 1)) g1 K = true from
    H 8 n g w [] (by omega) (Nat.le_refl _) (by rw [List.append_nil]; exact S) KT.refl (by simp) rfl
  intro q
  induction q with
  | zero =>
    intro m g1 w1 done hm _ S1 T1 hd he
    obtain ⟨m, rfl⟩ : ∃ j, m = j + 1 := ⟨m - 1, by omega⟩
    unfold l69_3 b69_3
    repeat first | (with_reducible first | refine z_nil ?_ | refine z_fadr ?_ | refine z_some ?_ | refine z_ext0 ?_ | refine z_ext1 ?_ | refine z_notT ?_ | refine z_notF ?_ | refine z_cT ?_ | refine z_cF ?_ | refine z_gtt ?_ | refine z_gff ?_ | refine z_gtf ?_ | refine z_gft ?_ | refine z_ptt ?_ | refine z_pff ?_ | refine z_ptf ?_ | refine z_pft ?_ | refine z_rtt ?_ | refine z_rff ?_ | refine z_rtf ?_ | refine z_rft ?_ | refine z_kt ?_ | refine z_kf ?_ | refine z_lss ?_ | refine z_gtr ?_ | refine z_leq ?_ | refine z_geq ?_ | refine z_eql ?_ | refine z_neq ?_ | refine z_seq ?_ | refine z_sne ?_ | refine z_slen ?_ | refine z_eqp ?_ | refine z_eqn ?_ | refine z_cv ?_)
    refine z_cf (by decide) ?_
    rw [show bigB x 0 = [] from rfl, List.append_nil] at he
    exact kk g1 w1 (he ▸ S1) T1
  | succ q ih =>
    intro m g1 w1 done hm hq8 S1 T1 hd he
    obtain ⟨m, rfl⟩ : ∃ j, m = j + 1 := ⟨m - 1, by omega⟩
    unfold l69_3 b69_3
    have e1 : (((q + 1 : Nat) : Int) - 1) = (q : Int) := by omega
    rw [e1]
    repeat first | (with_reducible first | refine z_nil ?_ | refine z_fadr ?_ | refine z_some ?_ | refine z_ext0 ?_ | refine z_ext1 ?_ | refine z_notT ?_ | refine z_notF ?_ | refine z_cT ?_ | refine z_cF ?_ | refine z_gtt ?_ | refine z_gff ?_ | refine z_gtf ?_ | refine z_gft ?_ | refine z_ptt ?_ | refine z_pff ?_ | refine z_ptf ?_ | refine z_pft ?_ | refine z_rtt ?_ | refine z_rff ?_ | refine z_rtf ?_ | refine z_rft ?_ | refine z_kt ?_ | refine z_kf ?_ | refine z_lss ?_ | refine z_gtr ?_ | refine z_leq ?_ | refine z_geq ?_ | refine z_eql ?_ | refine z_neq ?_ | refine z_seq ?_ | refine z_sne ?_ | refine z_slen ?_ | refine z_eqp ?_ | refine z_eqn ?_ | refine z_cv ?_)
    refine z_ct (decide_eq_true (by omega)) ?_
    have B : ∀ {g'}, Ext g1 g' → loadA g' false 1 (.ptr c0 0 0 0) = some w1 := fun e => (S1.c.ext e).get rfl
    repeat first | (with_reducible first | refine z_nil ?_ | refine z_fadr ?_ | refine z_some ?_ | refine z_ext0 ?_ | refine z_ext1 ?_ | refine z_notT ?_ | refine z_notF ?_ | refine z_cT ?_ | refine z_cF ?_ | refine z_gtt ?_ | refine z_gff ?_ | refine z_gtf ?_ | refine z_gft ?_ | refine z_ptt ?_ | refine z_pff ?_ | refine z_ptf ?_ | refine z_pft ?_ | refine z_rtt ?_ | refine z_rff ?_ | refine z_rtf ?_ | refine z_rft ?_ | refine z_kt ?_ | refine z_kf ?_ | refine z_lss ?_ | refine z_gtr ?_ | refine z_leq ?_ | refine z_geq ?_ | refine z_eql ?_ | refine z_neq ?_ | refine z_seq ?_ | refine z_sne ?_ | refine z_slen ?_ | refine z_eqp ?_ | refine z_eqn ?_ | refine z_cv ?_) | refine z_of (B (Ext.refl _)) ?_ | refine z_of (mul8 q (by omega)) ?_ | refine z_of (shr8 (k := .i64) rfl x q (by omega)) ?_ | refine z_of (conv8 .i64 (x.fdiv (2 ^ (8 * q)))) ?_
    have hby : ((x.fdiv (2 ^ (8 * q)) % 256).toNat) = byA x q := rfl
    rw [hby]
    obtain ⟨u, g2, q1, V, e2, o2, z2, _⟩ := bslice1_v (sz := 1) (z := [AV.int .u8 0]) (v := .int .u8 (byA x q : Int)) S1.o rfl (by decide) (by decide) rfl rfl rfl
    refine z_p q1 ?_
    refine z_same (B e2) S1.own.view.same ?_
    refine ks_app (new := [byA x q]) k0 hc (S1.ext e2 o2) V.src (by simp; omega) fun g3 w3 S3 T3 => ?_
    repeat first | (with_reducible first | refine z_nil ?_ | refine z_fadr ?_ | refine z_some ?_ | refine z_ext0 ?_ | refine z_ext1 ?_ | refine z_notT ?_ | refine z_notF ?_ | refine z_cT ?_ | refine z_cF ?_ | refine z_gtt ?_ | refine z_gff ?_ | refine z_gtf ?_ | refine z_gft ?_ | refine z_ptt ?_ | refine z_pff ?_ | refine z_ptf ?_ | refine z_pft ?_ | refine z_rtt ?_ | refine z_rff ?_ | refine z_rtf ?_ | refine z_rft ?_ | refine z_kt ?_ | refine z_kf ?_ | refine z_lss ?_ | refine z_gtr ?_ | refine z_leq ?_ | refine z_geq ?_ | refine z_eql ?_ | refine z_neq ?_ | refine z_seq ?_ | refine z_sne ?_ | refine z_slen ?_ | refine z_eqp ?_ | refine z_eqn ?_ | refine z_cv ?_) | refine z_of (sub64 (a := (q : Int)) (b := 1) (by omega) (by omega)) ?_
    have hle := congrArg List.length he
    rw [List.length_append, bigB_len, bigB_len] at hle
    refine ih m g3 w3 (done ++ [byA x q]) (by omega) (by omega) (by rw [← List.append_assoc]; exact S3) (T1.trans S.o (T3.ahead e2)) (by simp; omega) ?_
    rw [List.append_assoc]; exact he
end
end Go.Proofs.Ytbamgdknkhhikaa
namespace Go.Proofs.Ytbamgdknkhhikaa
open Go.Ab
set_option linter.unusedSimpArgs false
set_option linter.unusedVariables false
theorem kyE_len (e : Elm) : (kyE e).length ≤ 24 * szEl e := by
  have h1 := spV_len e.vs
  unfold kyE szEl
  simp only [List.length_append, bigB_len]; omega
theorem kyM_len : ∀ (l : List Elm), (kyM l).length ≤ 24 * szL szEl l
  | [] => by simp [kyM]
  | x :: l => by
    have h1 := kyE_len x
    have h2 := kyM_len l
    have : kyM (x :: l) = kyE x ++ kyM l := by simp [kyM]
    rw [this, List.length_append]; simp only [szL]; omega
theorem kyM_take {l : List Elm} {i : Nat} (h : i < l.length) : kyM (l.take (i + 1)) = kyM (l.take i) ++ kyE l[i] := by
  unfold kyM
  rw [List.take_succ_eq_append_getElem h, List.map_append, List.flatten_append]; simp
theorem kyM_take_len (l : List Elm) (i : Nat) : (kyM (l.take i)).length ≤ 24 * szL szEl l := Nat.le_trans (kyM_len _) (Nat.mul_le_mul_left 24 (szL_take l i))
theorem EV.lt {h : AHeap} {v : AV} {l : List Elm} (V : EV h v l) : ∀ c ∈ kyM l, c < 256 := by
  intro c hc
  obtain ⟨s, hs, hc⟩ := List.mem_flatten.1 hc
  obtain ⟨x, hx, rfl⟩ := List.mem_map.1 hs
  obtain ⟨i, hi, rfl⟩ := List.mem_iff_getElem.1 hx
  obtain ⟨id, g, j, e, _, _, vv, _, V1, _⟩ := V.at (List.getElem?_eq_getElem hi)
  unfold kyE at hc
  rcases List.mem_append.1 hc with hc | hc
  · rcases List.mem_append.1 hc with hc | hc
    · rcases List.mem_append.1 hc with hc | hc <;> exact bigB_lt _ _ c hc
    · exact bigB_lt _ _ c hc
  · exact V1.lts c hc
section
variable {h : AHeap} {K : Kont} {n : Nat}
theorem c60 {v : AV} {l : List Elm} (V : EV h v l) (ho : h.Ok) (hB : szL szEl l < 10000000000) (hn : szL szEl l + 50 ≤ n) (hL : n < lim - 9) (kk : ∀ h', Ext h h' → h'.Ok → K (.str (kyM l)) h' = true) : callN E (n + 4) (.func 60) [v] h K = true := by
  have hlm : lim = 4611686018427387904 := rfl
  have hmo : most = 1099511627776 := rfl
  have hlen : l.length ≤ szL szEl l := szL_length szEl_pos l
  apply d60
  unfold s60
  obtain ⟨h1, q1, V1, e1, o1, z1⟩ := alloc_v (z := [AV.nilSlc]) ho (by decide) rfl
  refine z_p q1 ?_
  repeat first | (with_reducible first | refine z_nil ?_ | refine z_fadr ?_ | refine z_some ?_ | refine z_ext0 ?_ | refine z_ext1 ?_ | refine z_notT ?_ | refine z_notF ?_ | refine z_cT ?_ | refine z_cF ?_ | refine z_gtt ?_ | refine z_gff ?_ | refine z_gtf ?_ | refine z_gft ?_ | refine z_ptt ?_ | refine z_pff ?_ | refine z_ptf ?_ | refine z_pft ?_ | refine z_rtt ?_ | refine z_rff ?_ | refine z_rtf ?_ | refine z_rft ?_ | refine z_kt ?_ | refine z_kf ?_ | refine z_lss ?_ | refine z_gtr ?_ | refine z_leq ?_ | refine z_geq ?_ | refine z_eql ?_ | refine z_neq ?_ | refine z_seq ?_ | refine z_sne ?_ | refine z_slen ?_ | refine z_eqp ?_ | refine z_eqn ?_ | refine z_cv ?_)
  repeat first | (with_reducible first | refine z_nil ?_ | refine z_fadr ?_ | refine z_some ?_ | refine z_ext0 ?_ | refine z_ext1 ?_ | refine z_notT ?_ | refine z_notF ?_ | refine z_cT ?_ | refine z_cF ?_ | refine z_gtt ?_ | refine z_gff ?_ | refine z_gtf ?_ | refine z_gft ?_ | refine z_ptt ?_ | refine z_pff ?_ | refine z_ptf ?_ | refine z_pft ?_ | refine z_rtt ?_ | refine z_rff ?_ | refine z_rtf ?_ | refine z_rft ?_ | refine z_kt ?_ | refine z_kf ?_ | refine z_lss ?_ | refine z_gtr ?_ | refine z_leq ?_ | refine z_geq ?_ | refine z_eql ?_ | refine z_neq ?_ | refine z_seq ?_ | refine z_sne ?_ | refine z_slen ?_ | refine z_eqp ?_ | refine z_eqn ?_ | refine z_cv ?_) | refine z_of (V.ext e1).len ?_
  suffices H : ∀ m i g w, l.length - i < m → i ≤ l.length → KS h h.sz g w (kyM (l.take i)) → l60_10 (callN E (n + 3)) (n + 3) m (.ptr h.sz 0 0 0) (.fn (.func 69) [] [.ptr h.sz 0 0 0]) v (.int .i64 (l.length : Int)) (.int .i64 (i : Int)) g K = true from
    H (n + 3) 0 h1 .nilSlc (by omega) (Nat.zero_le _) ⟨o1, e1, V1, Own.nil _ _ _⟩
  intro m
  induction m with
  | zero => intro i g w hm; omega
  | succ m ih =>
    intro i g w hm hi S
    unfold l60_10 b60_10
    repeat first | (with_reducible first | refine z_nil ?_ | refine z_fadr ?_ | refine z_some ?_ | refine z_ext0 ?_ | refine z_ext1 ?_ | refine z_notT ?_ | refine z_notF ?_ | refine z_cT ?_ | refine z_cF ?_ | refine z_gtt ?_ | refine z_gff ?_ | refine z_gtf ?_ | refine z_gft ?_ | refine z_ptt ?_ | refine z_pff ?_ | refine z_ptf ?_ | refine z_pft ?_ | refine z_rtt ?_ | refine z_rff ?_ | refine z_rtf ?_ | refine z_rft ?_ | refine z_kt ?_ | refine z_kf ?_ | refine z_lss ?_ | refine z_gtr ?_ | refine z_leq ?_ | refine z_geq ?_ | refine z_eql ?_ | refine z_neq ?_ | refine z_seq ?_ | refine z_sne ?_ | refine z_slen ?_ | refine z_eqp ?_ | refine z_eqn ?_ | refine z_cv ?_)
    by_cases hlt : i < l.length
    · refine z_ct (decide_eq_true (by omega)) ?_
      unfold p60_17
      obtain ⟨id, gg, j, ee, p1, p2, vv, rfl, VV1, r1, r2⟩ := (V.ext S.e).at (List.getElem?_eq_getElem hlt)
      have hmm := szL_mem (sz := szEl) (List.getElem_mem hlt)
      have hse : szEl l[i] = szVs (l[i]).vs + 1 := rfl
      have hkl := kyM_take_len l i
      have hkt := kyM_take hlt
      generalize hx : l[i] = x at *
      obtain ⟨hd, st, vs⟩ := x
      dsimp only at VV1 hse
      have A : loadA g true 3 (.ptr id gg j 0) = some (.agg [.int .i64 hd, .int .i64 st, vv]) := by rw [p2]; rfl
      repeat first | (with_reducible first | refine z_nil ?_ | refine z_fadr ?_ | refine z_some ?_ | refine z_ext0 ?_ | refine z_ext1 ?_ | refine z_notT ?_ | refine z_notF ?_ | refine z_cT ?_ | refine z_cF ?_ | refine z_gtt ?_ | refine z_gff ?_ | refine z_gtf ?_ | refine z_gft ?_ | refine z_ptt ?_ | refine z_pff ?_ | refine z_ptf ?_ | refine z_pft ?_ | refine z_rtt ?_ | refine z_rff ?_ | refine z_rtf ?_ | refine z_rft ?_ | refine z_kt ?_ | refine z_kf ?_ | refine z_lss ?_ | refine z_gtr ?_ | refine z_leq ?_ | refine z_geq ?_ | refine z_eql ?_ | refine z_neq ?_ | refine z_seq ?_ | refine z_sne ?_ | refine z_slen ?_ | refine z_eqp ?_ | refine z_eqn ?_ | refine z_cv ?_) | refine z_of (p1 .i64) ?_ | refine z_of A ?_
      obtain ⟨g2, q2, V2, e2, o2, z2⟩ := alloc_v (z := [AV.int .i64 0, .int .i64 0, .nilSlc]) S.o (by decide) rfl
      refine z_p q2 ?_
      obtain ⟨g3, w1, W, w3, o3, w5⟩ := V2.wrs o2 (n := 3) (v := .agg [.int .i64 hd, .int .i64 st, vv]) rfl rfl (by simp only [AV.cells, allLeaf, VV1.leaf]; rfl)
      refine z_u w1 ?_
      have W : Var g3 g.sz [.int .i64 hd, .int .i64 st, vv] := W
      have e3 : Ext g g3 := w3.ext e2 S.o (Nat.le_refl _)
      have S3 := S.ext e3 o3
      obtain ⟨f1, f2⟩ := S.fresh
      have lt3 : g.sz < g3.sz := by omega
      have B0 : loadA g3 false 1 (.ptr g.sz 0 0 0) = some (.int .i64 hd) := W.get rfl
      repeat first | (with_reducible first | refine z_nil ?_ | refine z_fadr ?_ | refine z_some ?_ | refine z_ext0 ?_ | refine z_ext1 ?_ | refine z_notT ?_ | refine z_notF ?_ | refine z_cT ?_ | refine z_cF ?_ | refine z_gtt ?_ | refine z_gff ?_ | refine z_gtf ?_ | refine z_gft ?_ | refine z_ptt ?_ | refine z_pff ?_ | refine z_ptf ?_ | refine z_pft ?_ | refine z_rtt ?_ | refine z_rff ?_ | refine z_rtf ?_ | refine z_rft ?_ | refine z_kt ?_ | refine z_kf ?_ | refine z_lss ?_ | refine z_gtr ?_ | refine z_leq ?_ | refine z_geq ?_ | refine z_eql ?_ | refine z_neq ?_ | refine z_seq ?_ | refine z_sne ?_ | refine z_slen ?_ | refine z_eqp ?_ | refine z_eqn ?_ | refine z_cv ?_) | refine z_of B0 ?_
      refine c69 ho (Nat.le_refl _) S3 (by omega) (by omega) fun g4 w4 S4 T4 => ?_
      have W4 := T4.var S3 W f1 f2
      have n4 := T4.keepn lt3 f2
      have lt4 : g.sz < g4.sz := by have := T4.fr.sz; omega
      have B1 : loadA g4 false 1 (.ptr g.sz 0 0 1) = some (.int .i64 st) := W4.get rfl
      repeat first | (with_reducible first | refine z_nil ?_ | refine z_fadr ?_ | refine z_some ?_ | refine z_ext0 ?_ | refine z_ext1 ?_ | refine z_notT ?_ | refine z_notF ?_ | refine z_cT ?_ | refine z_cF ?_ | refine z_gtt ?_ | refine z_gff ?_ | refine z_gtf ?_ | refine z_gft ?_ | refine z_ptt ?_ | refine z_pff ?_ | refine z_ptf ?_ | refine z_pft ?_ | refine z_rtt ?_ | refine z_rff ?_ | refine z_rtf ?_ | refine z_rft ?_ | refine z_kt ?_ | refine z_kf ?_ | refine z_lss ?_ | refine z_gtr ?_ | refine z_leq ?_ | refine z_geq ?_ | refine z_eql ?_ | refine z_neq ?_ | refine z_seq ?_ | refine z_sne ?_ | refine z_slen ?_ | refine z_eqp ?_ | refine z_eqn ?_ | refine z_cv ?_) | refine z_of B1 ?_
      refine c69 ho (Nat.le_refl _) S4 (by rw [List.length_append, bigB_len]; omega) (by omega) fun g5 w5' S5 T5 => ?_
      have W5 := T5.var S4 W4 f1 n4
      have n5 := T5.keepn lt4 n4
      have lt5 : g.sz < g5.sz := by have := T5.fr.sz; omega
      have B2 : ∀ {g'}, Var g' g.sz [.int .i64 hd, .int .i64 st, vv] → loadA g' false 1 (.ptr g.sz 0 0 2) = some vv := fun V => V.get rfl
      have VVh : ∀ {g'}, Ext h g' → VV g' vv vs := fun e => by
        obtain ⟨es0, y1, y2⟩ := V
        obtain ⟨e0', he0, vv0, hr0, V0, _⟩ := y2.get (show l[i]? = some (Elm.mk hd st vs) by rw [List.getElem?_eq_getElem hlt, hx])
        obtain ⟨id', g', j', u⟩ := y1.atE he0
        have u1 := (u g S.e).1 .i64
        have u2 := (u g S.e).2 true 0 3
        rw [p1 .i64] at u1
        injection u1 with u1
        rw [← u1, A, hr0] at u2
        have : partA true 0 3 [AV.int .i64 hd, .int .i64 st, vv0] = some (.agg [.int .i64 hd, .int .i64 st, vv0]) := rfl
        rw [show (Elm.mk hd st vs).hd = hd from rfl, show (Elm.mk hd st vs).st = st from rfl, this] at u2
        cases u2
        exact V0.ext e
      repeat first | (with_reducible first | refine z_nil ?_ | refine z_fadr ?_ | refine z_some ?_ | refine z_ext0 ?_ | refine z_ext1 ?_ | refine z_notT ?_ | refine z_notF ?_ | refine z_cT ?_ | refine z_cF ?_ | refine z_gtt ?_ | refine z_gff ?_ | refine z_gtf ?_ | refine z_gft ?_ | refine z_ptt ?_ | refine z_pff ?_ | refine z_ptf ?_ | refine z_pft ?_ | refine z_rtt ?_ | refine z_rff ?_ | refine z_rtf ?_ | refine z_rft ?_ | refine z_kt ?_ | refine z_kf ?_ | refine z_lss ?_ | refine z_gtr ?_ | refine z_leq ?_ | refine z_geq ?_ | refine z_eql ?_ | refine z_neq ?_ | refine z_seq ?_ | refine z_sne ?_ | refine z_slen ?_ | refine z_eqp ?_ | refine z_eqn ?_ | refine z_cv ?_) | refine z_of (B2 W5) ?_ | refine z_of (VVh S5.e).len ?_
      refine c69 ho (Nat.le_refl _) S5 (by rw [List.length_append, List.length_append, bigB_len, bigB_len]; omega) (by omega) fun g6 w6 S6 T6 => ?_
      have W6 := T6.var S5 W5 f1 n5
      repeat first | (with_reducible first | refine z_nil ?_ | refine z_fadr ?_ | refine z_some ?_ | refine z_ext0 ?_ | refine z_ext1 ?_ | refine z_notT ?_ | refine z_notF ?_ | refine z_cT ?_ | refine z_cF ?_ | refine z_gtt ?_ | refine z_gff ?_ | refine z_gtf ?_ | refine z_gft ?_ | refine z_ptt ?_ | refine z_pff ?_ | refine z_ptf ?_ | refine z_pft ?_ | refine z_rtt ?_ | refine z_rff ?_ | refine z_rtf ?_ | refine z_rft ?_ | refine z_kt ?_ | refine z_kf ?_ | refine z_lss ?_ | refine z_gtr ?_ | refine z_leq ?_ | refine z_geq ?_ | refine z_eql ?_ | refine z_neq ?_ | refine z_seq ?_ | refine z_sne ?_ | refine z_slen ?_ | refine z_eqp ?_ | refine z_eqn ?_ | refine z_cv ?_) | refine z_of (B2 W6) ?_ | refine z_of (VVh S6.e).len ?_
      have hvl := szVs_len vs
      suffices H2 : ∀ m2 i2 g' w', vs.length - i2 < m2 → i2 ≤ vs.length → KS h h.sz g' w' (kyM (l.take i) ++ (bigB hd 8 ++ bigB st 8 ++ bigB (vs.length : Int) 8 ++ spV (vs.take i2))) → l60_30 (callN E (n + 3)) (n + 3) (fun x3 x4 x12 x13 x14 h => l60_10 (callN E (n + 3)) (n + 3) m x3 x4 x12 x13 x14 h K) m2 (.ptr h.sz 0 0 0) (.fn (.func 69) [] [.ptr h.sz 0 0 0]) v (.int .i64 (l.length : Int)) (.int .i64 (i : Int)) vv (.int .i64 (vs.length : Int)) (.int .i64 (i2 : Int)) g' K = true from by
        refine H2 (n + 3) 0 g6 w6 (by omega) (Nat.zero_le _) ?_
        have : kyM (l.take i) ++ (bigB hd 8 ++ bigB st 8 ++ bigB (vs.length : Int) 8 ++ spV (vs.take 0)) = kyM (l.take i) ++ bigB hd 8 ++ bigB st 8 ++ bigB (vs.length : Int) 8 := by simp [spV]
        rw [this]; exact S6
      intro m2
      induction m2 with
      | zero => intro i2 g' w' hm2; omega
      | succ m2 ih2 =>
        intro i2 g' w' hm2 hi2 S'
        unfold l60_30 b60_30
        repeat first | (with_reducible first | refine z_nil ?_ | refine z_fadr ?_ | refine z_some ?_ | refine z_ext0 ?_ | refine z_ext1 ?_ | refine z_notT ?_ | refine z_notF ?_ | refine z_cT ?_ | refine z_cF ?_ | refine z_gtt ?_ | refine z_gff ?_ | refine z_gtf ?_ | refine z_gft ?_ | refine z_ptt ?_ | refine z_pff ?_ | refine z_ptf ?_ | refine z_pft ?_ | refine z_rtt ?_ | refine z_rff ?_ | refine z_rtf ?_ | refine z_rft ?_ | refine z_kt ?_ | refine z_kf ?_ | refine z_lss ?_ | refine z_gtr ?_ | refine z_leq ?_ | refine z_geq ?_ | refine z_eql ?_ | refine z_neq ?_ | refine z_seq ?_ | refine z_sne ?_ | refine z_slen ?_ | refine z_eqp ?_ | refine z_eqn ?_ | refine z_cv ?_)
        by_cases hlt2 : i2 < vs.length
        · refine z_ct (decide_eq_true (by omega)) ?_
          obtain ⟨id', gg', j', ee', p1', p2', R'⟩ := (VVh S'.e).at (List.getElem?_eq_getElem hlt2)
          obtain ⟨k1, k2, k3, k4⟩ := R'.agg
          have B : loadA g' true 5 (.ptr id' gg' j' 0) = some (.agg ee') := by rw [p2']; exact k1
          have hm3 := szVs_mem (List.getElem_mem hlt2)
          repeat first | (with_reducible first | refine z_nil ?_ | refine z_fadr ?_ | refine z_some ?_ | refine z_ext0 ?_ | refine z_ext1 ?_ | refine z_notT ?_ | refine z_notF ?_ | refine z_cT ?_ | refine z_cF ?_ | refine z_gtt ?_ | refine z_gff ?_ | refine z_gtf ?_ | refine z_gft ?_ | refine z_ptt ?_ | refine z_pff ?_ | refine z_ptf ?_ | refine z_pft ?_ | refine z_rtt ?_ | refine z_rff ?_ | refine z_rtf ?_ | refine z_rft ?_ | refine z_kt ?_ | refine z_kf ?_ | refine z_lss ?_ | refine z_gtr ?_ | refine z_leq ?_ | refine z_geq ?_ | refine z_eql ?_ | refine z_neq ?_ | refine z_seq ?_ | refine z_sne ?_ | refine z_slen ?_ | refine z_eqp ?_ | refine z_eqn ?_ | refine z_cv ?_) | refine z_of (p1' .i64) ?_ | refine z_of B ?_
          obtain ⟨g7, x2, W7, y2, oo2, zz2⟩ := alloc_v (z := [AV.int .i64 0, .bool false, .int .i64 0, .str [], .nilSlc]) S'.o (by decide) rfl
          refine z_p x2 ?_
          obtain ⟨g8, u1, W8', u3, o8, u5⟩ := W7.wrs oo2 (n := 5) (v := .agg ee') k2 rfl k3
          refine z_u u1 ?_
          rw [k4] at W8'
          have ye : Ext g' g8 := u3.ext y2 S'.o (Nat.le_refl _)
          have B6 : loadA g8 true 5 (.ptr g'.sz 0 0 0) = some (.agg ee') := W8'.all (RV.len5 R')
          repeat first | (with_reducible first | refine z_nil ?_ | refine z_fadr ?_ | refine z_some ?_ | refine z_ext0 ?_ | refine z_ext1 ?_ | refine z_notT ?_ | refine z_notF ?_ | refine z_cT ?_ | refine z_cF ?_ | refine z_gtt ?_ | refine z_gff ?_ | refine z_gtf ?_ | refine z_gft ?_ | refine z_ptt ?_ | refine z_pff ?_ | refine z_ptf ?_ | refine z_pft ?_ | refine z_rtt ?_ | refine z_rff ?_ | refine z_rtf ?_ | refine z_rft ?_ | refine z_kt ?_ | refine z_kf ?_ | refine z_lss ?_ | refine z_gtr ?_ | refine z_leq ?_ | refine z_geq ?_ | refine z_eql ?_ | refine z_neq ?_ | refine z_seq ?_ | refine z_sne ?_ | refine z_slen ?_ | refine z_eqp ?_ | refine z_eqn ?_ | refine z_cv ?_) | refine z_of B6 ?_
          refine c59 (n := n) (R'.ext ye) o8 (by omega) (by omega) (by omega) fun g9 e er e9 o9 VE => ?_
          have S9 := S'.ext (ext_two ye e9) o9
          have C9 : loadA g9 false 1 (.ptr h.sz 0 0 0) = some w' := S9.c.get rfl
          repeat first | (with_reducible first | refine z_nil ?_ | refine z_fadr ?_ | refine z_some ?_ | refine z_ext0 ?_ | refine z_ext1 ?_ | refine z_notT ?_ | refine z_notF ?_ | refine z_cT ?_ | refine z_cF ?_ | refine z_gtt ?_ | refine z_gff ?_ | refine z_gtf ?_ | refine z_gft ?_ | refine z_ptt ?_ | refine z_pff ?_ | refine z_ptf ?_ | refine z_pft ?_ | refine z_rtt ?_ | refine z_rff ?_ | refine z_rtf ?_ | refine z_rft ?_ | refine z_kt ?_ | refine z_kf ?_ | refine z_lss ?_ | refine z_gtr ?_ | refine z_leq ?_ | refine z_geq ?_ | refine z_eql ?_ | refine z_neq ?_ | refine z_seq ?_ | refine z_sne ?_ | refine z_slen ?_ | refine z_eqp ?_ | refine z_eqn ?_ | refine z_cv ?_) | refine z_of C9 ?_
          have hl1 := spV_take_len vs i2
          have hl2 := spX_len vs[i2]
          refine ks_app (new := spX vs[i2]) ho (Nat.le_refl _) S9 VE.src (by simp only [List.length_append, bigB_len]; omega) fun g10 w10 S10 T10 => ?_
          repeat first | (with_reducible first | refine z_nil ?_ | refine z_fadr ?_ | refine z_some ?_ | refine z_ext0 ?_ | refine z_ext1 ?_ | refine z_notT ?_ | refine z_notF ?_ | refine z_cT ?_ | refine z_cF ?_ | refine z_gtt ?_ | refine z_gff ?_ | refine z_gtf ?_ | refine z_gft ?_ | refine z_ptt ?_ | refine z_pff ?_ | refine z_ptf ?_ | refine z_pft ?_ | refine z_rtt ?_ | refine z_rff ?_ | refine z_rtf ?_ | refine z_rft ?_ | refine z_kt ?_ | refine z_kf ?_ | refine z_lss ?_ | refine z_gtr ?_ | refine z_leq ?_ | refine z_geq ?_ | refine z_eql ?_ | refine z_neq ?_ | refine z_seq ?_ | refine z_sne ?_ | refine z_slen ?_ | refine z_eqp ?_ | refine z_eqn ?_ | refine z_cv ?_) | refine z_of (inc64 (i := i2) (by omega)) ?_
          refine ih2 (i2 + 1) g10 w10 (by omega) (by omega) ?_
          rw [spV_take hlt2]
          have : kyM (l.take i) ++ (bigB hd 8 ++ bigB st 8 ++ bigB (vs.length : Int) 8 ++ (spV (vs.take i2) ++ spX vs[i2])) = kyM (l.take i) ++ (bigB hd 8 ++ bigB st 8 ++ bigB (vs.length : Int) 8 ++ spV (vs.take i2)) ++ spX vs[i2] := by simp only [List.append_assoc]
          rw [this]; exact S10
        · refine z_cf (decide_eq_false (by omega)) ?_
          rw [List.take_of_length_le (l := vs) (show vs.length ≤ i2 by omega)] at S'
          unfold p60_45
          repeat first | (with_reducible first | refine z_nil ?_ | refine z_fadr ?_ | refine z_some ?_ | refine z_ext0 ?_ | refine z_ext1 ?_ | refine z_notT ?_ | refine z_notF ?_ | refine z_cT ?_ | refine z_cF ?_ | refine z_gtt ?_ | refine z_gff ?_ | refine z_gtf ?_ | refine z_gft ?_ | refine z_ptt ?_ | refine z_pff ?_ | refine z_ptf ?_ | refine z_pft ?_ | refine z_rtt ?_ | refine z_rff ?_ | refine z_rtf ?_ | refine z_rft ?_ | refine z_kt ?_ | refine z_kf ?_ | refine z_lss ?_ | refine z_gtr ?_ | refine z_leq ?_ | refine z_geq ?_ | refine z_eql ?_ | refine z_neq ?_ | refine z_seq ?_ | refine z_sne ?_ | refine z_slen ?_ | refine z_eqp ?_ | refine z_eqn ?_ | refine z_cv ?_) | refine z_of (inc64 (i := i) (by omega)) ?_
          refine ih (i + 1) g' w' (by omega) (by omega) ?_
          rw [hkt]; exact S'
    · refine z_cf (decide_eq_false (by omega)) ?_
      rw [List.take_of_length_le (by omega)] at S
      unfold p60_46
      have C9 : loadA g false 1 (.ptr h.sz 0 0 0) = some w := S.c.get rfl
      repeat first | (with_reducible first | refine z_nil ?_ | refine z_fadr ?_ | refine z_some ?_ | refine z_ext0 ?_ | refine z_ext1 ?_ | refine z_notT ?_ | refine z_notF ?_ | refine z_cT ?_ | refine z_cF ?_ | refine z_gtt ?_ | refine z_gff ?_ | refine z_gtf ?_ | refine z_gft ?_ | refine z_ptt ?_ | refine z_pff ?_ | refine z_ptf ?_ | refine z_pft ?_ | refine z_rtt ?_ | refine z_rff ?_ | refine z_rtf ?_ | refine z_rft ?_ | refine z_kt ?_ | refine z_kf ?_ | refine z_lss ?_ | refine z_gtr ?_ | refine z_leq ?_ | refine z_geq ?_ | refine z_eql ?_ | refine z_neq ?_ | refine z_seq ?_ | refine z_sne ?_ | refine z_slen ?_ | refine z_eqp ?_ | refine z_eqn ?_ | refine z_cv ?_) | refine z_of C9 ?_ | refine z_of (b2s_own S.own V.lt) ?_
      exact kk g S.e S.o
theorem c39 {core : Int} {env v : AV} {l : List Elm} (V : EV h v l) (lf : env.leaf = true) (ho : h.Ok) (hB : szL szEl l < 10000000000) (hn : szL szEl l + 50 ≤ n) (hL : n < lim - 9) (kk : ∀ h', Ext h h' → h'.Ok → K (.str (kyM l)) h' = true) : callN E (n + 5) (.func 39) [.agg [.int .i64 core, v, env]] h K = true := by
  apply d39
  unfold s39
  obtain ⟨h1, q1, V1, e1, o1, z1⟩ := box_v (n := 3) (v := .agg [.int .i64 core, v, env]) ho rfl (by decide) (by simp only [AV.cells, allLeaf, V.leaf, lf]; rfl)
  have V1 : Var h1 h.sz [.int .i64 core, v, env] := V1
  refine z_p q1 ?_
  have A0 : loadA h1 false 1 (.ptr h.sz 0 0 1) = some v := V1.get rfl
  repeat first | (with_reducible first | refine z_nil ?_ | refine z_fadr ?_ | refine z_some ?_ | refine z_ext0 ?_ | refine z_ext1 ?_ | refine z_notT ?_ | refine z_notF ?_ | refine z_cT ?_ | refine z_cF ?_ | refine z_gtt ?_ | refine z_gff ?_ | refine z_gtf ?_ | refine z_gft ?_ | refine z_ptt ?_ | refine z_pff ?_ | refine z_ptf ?_ | refine z_pft ?_ | refine z_rtt ?_ | refine z_rff ?_ | refine z_rtf ?_ | refine z_rft ?_ | refine z_kt ?_ | refine z_kf ?_ | refine z_lss ?_ | refine z_gtr ?_ | refine z_leq ?_ | refine z_geq ?_ | refine z_eql ?_ | refine z_neq ?_ | refine z_seq ?_ | refine z_sne ?_ | refine z_slen ?_ | refine z_eqp ?_ | refine z_eqn ?_ | refine z_cv ?_) | refine z_of A0 ?_
  exact c60 (V.ext e1) o1 hB hn hL fun h' e o => kk h' (ext_two e1 e) o
end
end Go.Proofs.Ytbamgdknkhhikaa
namespace Go.Proofs.Ytbamgdknkhhikaa
open Go.Ab
set_option linter.unusedSimpArgs false
set_option linter.unusedVariables false
def pairsT (T : TD) : List (SK × BK) := (T.cs.map fun p => p.2.bys.map fun q => (p.1, q.1)).flatten
theorem pairs_len (T : TD) : (pairsT T).length = sumG CD.bys T.cs := by
  unfold pairsT sumG
  rw [List.length_flatten, List.map_map]
  simp [Function.comp_def]
theorem pairs_mem {T : TD} (W : TW T) {k : SK} {r : BK} : (k, r) ∈ pairsT T ↔ hasB T k r := by
  unfold pairsT
  rw [List.mem_flatten]
  constructor
  · rintro ⟨l, hl, hm⟩
    obtain ⟨p, hp, rfl⟩ := List.mem_map.1 hl
    obtain ⟨q, hq, e⟩ := List.mem_map.1 hm
    simp only [Prod.mk.injEq] at e
    obtain ⟨rfl, rfl⟩ := e
    have h1 := lkG_of_mem (k := p.1) (u := p.2) W.ck hp
    exact ⟨p.2, h1, lkG_of_mem (W.bn _ _ h1) (show (q.1, ()) ∈ p.2.bys from hq)⟩
  · rintro ⟨x, h1, h2⟩
    exact ⟨_, List.mem_map.2 ⟨(k, x), lkG_mem h1, rfl⟩, List.mem_map.2 ⟨(r, ()), lkG_mem h2, rfl⟩⟩
theorem pairs_nodup {T : TD} (W : TW T) : (pairsT T).Nodup := by
  unfold pairsT
  rw [List.nodup_iff_pairwise_ne, List.pairwise_flatten]
  refine ⟨fun l hl => ?_, ?_⟩
  · obtain ⟨p, hp, rfl⟩ := List.mem_map.1 hl
    have hn := W.bn p.1 p.2 (lkG_of_mem W.ck hp)
    rw [List.nodup_iff_pairwise_ne, List.pairwise_map] at hn
    rw [List.pairwise_map]
    exact hn.imp fun {a b} q e => q (by simp only [Prod.mk.injEq, true_and] at e; exact e)
  · have hn := W.ck
    rw [List.nodup_iff_pairwise_ne, List.pairwise_map] at hn
    rw [List.pairwise_map]
    refine hn.imp fun {a b} q x hx y hy e => ?_
    obtain ⟨u, _, rfl⟩ := List.mem_map.1 hx
    obtain ⟨v, _, rfl⟩ := List.mem_map.1 hy
    simp only [Prod.mk.injEq] at e
    exact q e.1
open Classical in
theorem Less.count {T T' : TD} {D : SK → BK → Prop} (W : TW T) (L : Less T T' D) : T'.n = ((pairsT T).filter fun p => decide (¬ D p.1 p.2)).length := by
  rw [L.w.sum, ← pairs_len]
  refine List.Perm.length_eq ((List.perm_ext_iff_of_nodup (pairs_nodup L.w) ((pairs_nodup W).filter _)).2 fun p => ?_)
  obtain ⟨k, r⟩ := p
  rw [pairs_mem L.w, L.has, List.mem_filter, pairs_mem W]
  simp
theorem Less.all {T T' : TD} {D : SK → BK → Prop} (W : TW T) (L : Less T T' D) (hD : ∀ k r, hasB T k r → ¬ D k r) : T'.n = T.n := by
  rw [L.w.sum, W.sum, ← pairs_len, ← pairs_len]
  refine List.Perm.length_eq ((List.perm_ext_iff_of_nodup (pairs_nodup L.w) (pairs_nodup W)).2 fun p => ?_)
  obtain ⟨k, r⟩ := p
  rw [pairs_mem L.w, L.has, pairs_mem W]
  exact ⟨fun h => h.1, fun h => ⟨h, hD k r h⟩⟩
theorem Less.none {T T' : TD} {D : SK → BK → Prop} (W : TW T) (L : Less T T' D) (hD : ∀ k r, hasB T k r → D k r) : T'.n = 0 ∧ T'.cs = [] := by
  have hcs : T'.cs = [] := by
    cases e : T'.cs with
    | nil => rfl
    | cons p t =>
      have hp : (p.1, p.2) ∈ T'.cs := by rw [e]; exact List.mem_cons_self
      have h1 := lkG_of_mem L.w.ck hp
      obtain ⟨r, hr⟩ := bys_some (L.w.cne _ _ h1)
      have := (L.has p.1 r).1 ⟨p.2, h1, hr⟩
      exact absurd (hD _ _ this.1) this.2
  exact ⟨by rw [L.w.sum, hcs]; rfl, hcs⟩
def DC (B : Nat) (τ : Nat → Tag) (h : AHeap) (k : SK) (cls : Str) (vals : AV) : Prop :=
  ∃ l lo hi, k = (cls, spV l) ∧ badV l = false ∧ szVs l ≤ B ∧ vals.leaf = true ∧ Gv l h lo hi vals ∧ hi ≤ h.sz ∧ ∀ j, lo ≤ j → j < hi → τ j = .out
def DR (B : Nat) (τ : Nat → Tag) (h : AHeap) (r : BK) (els env : AV) : Prop :=
  ∃ m lo hi, r = (m.core, kyM m.els) ∧ badE m.els = false ∧ szL szEl m.els + szL szPr m.env ≤ B ∧ els.leaf = true ∧ env.leaf = true ∧ Gm m h lo hi els env ∧ hi ≤ h.sz ∧ ∀ j, lo ≤ j → j < hi → τ j = .out
section
variable {B : Nat} {τ τ' : Nat → Tag} {h h' : AHeap} {X : Nat → Prop}
theorem DC.fr {k : SK} {cls : Str} {vals : AV} (D : DC B τ h k cls vals) (f : Fr X h h') (hX : ∀ j, X j → τ j ≠ .out) (ht : ∀ j, j < h.sz → τ' j = τ j) : DC B τ' h' k cls vals := by
  obtain ⟨l, lo, hi, q1, q2, q3, q4, q5, q6, q7⟩ := D
  exact ⟨l, lo, hi, q1, q2, q3, q4, q5.fr (Kp.of_fr f fun j x ⟨a, b⟩ => hX j x (q7 j a b)), Nat.le_trans q6 f.sz, fun j a b => by rw [ht j (by omega)]; exact q7 j a b⟩
theorem DR.fr {r : BK} {els env : AV} (D : DR B τ h r els env) (f : Fr X h h') (hX : ∀ j, X j → τ j ≠ .out) (ht : ∀ j, j < h.sz → τ' j = τ j) : DR B τ' h' r els env := by
  obtain ⟨m, lo, hi, q1, q2, q3, q4, q5, q6, q7, q8⟩ := D
  exact ⟨m, lo, hi, q1, q2, q3, q4, q5, q6.fr (Kp.of_fr f fun j x ⟨a, b⟩ => hX j x (q8 j a b)), Nat.le_trans q7 f.sz, fun j a b => by rw [ht j (by omega)]; exact q8 j a b⟩
end
theorem own_ne {t : Tag} (h : t.own) : t ≠ .out := fun e => by rw [e] at h; exact h
structure DT (B : Nat) (τ : Nat → Tag) (h : AHeap) (T : TD) : Prop where
  c : ∀ k x, lkG T.cs k = some x → DC B τ h k x.cls x.vals
  r : ∀ r y, lkG T.rs r = some y → y.core = r.1 ∧ DR B τ h r y.els y.env
section
variable {B : Nat} {τ τ' : Nat → Tag} {h h' : AHeap} {T T' : TD}
theorem DT.fr (D : DT B τ h T) {X : Nat → Prop} (f : Fr X h h') (hX : ∀ j, X j → τ j ≠ .out) : DT B τ h' T :=
  ⟨fun k x hx => (D.c k x hx).fr f hX fun _ _ => rfl, fun r y hy => ⟨(D.r r y hy).1, (D.r r y hy).2.fr f hX fun _ _ => rfl⟩⟩
theorem DT.ext (D : DT B τ h T) (e : Ext h h') : DT B τ h' T := D.fr (Fr.of_ext (X := fun _ => False) e) fun _ x => x.elim
theorem DT.less (D : DT B τ h T) (W : TW T) {Q : SK → BK → Prop} (L : Less T T' Q) : DT B τ h T' := by
  refine ⟨fun k x hx => ?_, fun r y hy => ?_⟩
  · have hk : ((mp barC T.cs).map fun p => p.1).Nodup := by rw [mp_keys]; exact W.ck
    have q := lkG_of_mem hk (L.sc.subset (List.mem_map.2 ⟨(k, x), lkG_mem hx, rfl⟩))
    rw [lkG_mp] at q
    cases hx' : lkG T.cs k with
    | none => rw [hx'] at q; cases q
    | some x' =>
      rw [hx'] at q
      injection q with q
      have q : barC x' = barC x := q
      simp only [barC, Prod.mk.injEq] at q
      have := D.c k x' hx'
      rw [q.2.2.1, q.2.2.2.1] at this; exact this
  · have hk : ((mp barR T.rs).map fun p => p.1).Nodup := by rw [mp_keys]; exact W.rk
    have q := lkG_of_mem hk (L.sr.subset (List.mem_map.2 ⟨(r, y), lkG_mem hy, rfl⟩))
    rw [lkG_mp] at q
    cases hy' : lkG T.rs r with
    | none => rw [hy'] at q; cases q
    | some y' =>
      rw [hy'] at q
      injection q with q
      have q : barR y' = barR y := q
      simp only [barR, Prod.mk.injEq] at q
      obtain ⟨u1, u2⟩ := D.r r y' hy'
      rw [q.2.2.2.1, q.2.2.2.2.1] at u2
      rw [q.2.2.1] at u1
      exact ⟨u1, u2⟩
theorem DT.just (D : DT B τ h T) (f : Fr (W8 τ) h h') (ht : ∀ j, j < h.sz → τ' j = τ j) {k : SK} {r : BK} {x : CD} {y : RD}
    (hx : lkG T.cs k = none → DC B τ' h' k x.cls x.vals) (hy : lkG T.rs r = none → y.core = r.1 ∧ DR B τ' h' r y.els y.env) : DT B τ' h' (justT T k r x y) := by
  refine ⟨fun k' z hz => ?_, fun r' z hz => ?_⟩
  · have hz : lkG (putG CD.bys setC T.cs k r x) k' = some z := hz
    rw [putG_lk] at hz
    by_cases e : k' = k
    · rw [if_pos e] at hz
      subst e
      cases hk : lkG T.cs k' with
      | none =>
        rw [hk] at hz
        injection hz with hz
        subst hz
        exact hx hk
      | some x' =>
        rw [hk] at hz
        injection hz with hz
        subst hz
        exact (D.c k' x' hk).fr f (fun j w => own_ne w) ht
    · rw [if_neg e] at hz
      exact (D.c k' z hz).fr f (fun j w => own_ne w) ht
  · have hz : lkG (putG RD.ofs setR T.rs r k y) r' = some z := hz
    rw [putG_lk] at hz
    by_cases e : r' = r
    · rw [if_pos e] at hz
      subst e
      cases hk : lkG T.rs r' with
      | none =>
        rw [hk] at hz
        injection hz with hz
        subst hz
        exact hy hk
      | some y' =>
        rw [hk] at hz
        injection hz with hz
        subst hz
        exact ⟨(D.r r' y' hk).1, (D.r r' y' hk).2.fr f (fun j w => own_ne w) ht⟩
    · rw [if_neg e] at hz
      exact ⟨(D.r r' z hz).1, (D.r r' z hz).2.fr f (fun j w => own_ne w) ht⟩
end
section
variable {τ : Nat → Tag} {h : AHeap} {T : TD} {K : Kont} {n : Nat} {k : SK} {cls : Str} {vals : AV} {bad : Bool}
theorem c23 (O : TO τ h T) (kk : K (.int .i64 (T.n : Int)) h = true) : callN E (n + 1) (.func 23) [.ptr T.p 0 0 0] h K = true := by
  apply d23
  unfold s23
  repeat first | (with_reducible first | refine z_nil ?_ | refine z_fadr ?_ | refine z_some ?_ | refine z_ext0 ?_ | refine z_ext1 ?_ | refine z_notT ?_ | refine z_notF ?_ | refine z_cT ?_ | refine z_cF ?_ | refine z_gtt ?_ | refine z_gff ?_ | refine z_gtf ?_ | refine z_gft ?_ | refine z_ptt ?_ | refine z_pff ?_ | refine z_ptf ?_ | refine z_pft ?_ | refine z_rtt ?_ | refine z_rff ?_ | refine z_rtf ?_ | refine z_rft ?_ | refine z_kt ?_ | refine z_kf ?_ | refine z_lss ?_ | refine z_gtr ?_ | refine z_leq ?_ | refine z_geq ?_ | refine z_eql ?_ | refine z_neq ?_ | refine z_seq ?_ | refine z_sne ?_ | refine z_slen ?_ | refine z_eqp ?_ | refine z_eqn ?_ | refine z_cv ?_) | refine z_of O.l3 ?_
  exact kk
theorem c24 (O : TO τ h T) (hv : vals.leaf = true)
    (hs : Says h n 38 [.agg [.str cls, vals]] (sk k)) (hb : Says h n 35 [vals] (.bool bad))
    (k0 : ∀ h', Ext h h' → h'.Ok → lkG T.cs k = none ∨ bad = true → K (.int .i64 0) h' = true)
    (k1 : ∀ x h', Ext h h' → h'.Ok → lkG T.cs k = some x → bad = false → K (.int .i64 (x.bys.length : Int)) h' = true) :
    callN E (n + 1) (.func 24) [.ptr T.p 0 0 0, .agg [.str cls, vals]] h K = true := by
  apply d24
  unfold s24
  obtain ⟨h1, b1, V1, e1, o1, z1⟩ := box_v (n := 2) (v := .agg [.str cls, vals]) O.ok rfl (by decide) (by simp only [AV.cells, allLeaf, hv]; rfl)
  have V1 : Var h1 h.sz [.str cls, vals] := V1
  refine z_p b1 ?_
  have O1 := O.ext e1 o1
  have A1 : loadA h1 true 2 (.ptr h.sz 0 0 0) = some (.agg [.str cls, vals]) := V1.all rfl
  repeat first | (with_reducible first | refine z_nil ?_ | refine z_fadr ?_ | refine z_some ?_ | refine z_ext0 ?_ | refine z_ext1 ?_ | refine z_notT ?_ | refine z_notF ?_ | refine z_cT ?_ | refine z_cF ?_ | refine z_gtt ?_ | refine z_gff ?_ | refine z_gtf ?_ | refine z_gft ?_ | refine z_ptt ?_ | refine z_pff ?_ | refine z_ptf ?_ | refine z_pft ?_ | refine z_rtt ?_ | refine z_rff ?_ | refine z_rtf ?_ | refine z_rft ?_ | refine z_kt ?_ | refine z_kf ?_ | refine z_lss ?_ | refine z_gtr ?_ | refine z_leq ?_ | refine z_geq ?_ | refine z_eql ?_ | refine z_neq ?_ | refine z_seq ?_ | refine z_sne ?_ | refine z_slen ?_ | refine z_eqp ?_ | refine z_eqn ?_ | refine z_cv ?_) | refine z_of O1.l0 ?_ | refine z_of A1 ?_
  refine hs h1 o1 e1 _ fun h2 e2 o2 => ?_
  have O2 := O1.ext e2 o2
  have V2 := V1.ext e2
  refine z_same O2.l0 (same_map _) ?_
  cases hx : lkG T.cs k with
  | none =>
    repeat first | (with_reducible first | refine z_nil ?_ | refine z_fadr ?_ | refine z_some ?_ | refine z_ext0 ?_ | refine z_ext1 ?_ | refine z_notT ?_ | refine z_notF ?_ | refine z_cT ?_ | refine z_cF ?_ | refine z_gtt ?_ | refine z_gff ?_ | refine z_gtf ?_ | refine z_gft ?_ | refine z_ptt ?_ | refine z_pff ?_ | refine z_ptf ?_ | refine z_pft ?_ | refine z_rtt ?_ | refine z_rff ?_ | refine z_rtf ?_ | refine z_rft ?_ | refine z_kt ?_ | refine z_kf ?_ | refine z_lss ?_ | refine z_gtr ?_ | refine z_leq ?_ | refine z_geq ?_ | refine z_eql ?_ | refine z_neq ?_ | refine z_seq ?_ | refine z_sne ?_ | refine z_slen ?_ | refine z_eqp ?_ | refine z_eqn ?_ | refine z_cv ?_) | refine z_of (O2.lkc0 hx) ?_
    exact k0 h2 (ext_two e1 e2) o2 (.inl hx)
  | some x =>
    have V21 : loadA h2 false 1 (.ptr h.sz 0 0 1) = some vals := V2.get rfl
    repeat first | (with_reducible first | refine z_nil ?_ | refine z_fadr ?_ | refine z_some ?_ | refine z_ext0 ?_ | refine z_ext1 ?_ | refine z_notT ?_ | refine z_notF ?_ | refine z_cT ?_ | refine z_cF ?_ | refine z_gtt ?_ | refine z_gff ?_ | refine z_gtf ?_ | refine z_gft ?_ | refine z_ptt ?_ | refine z_pff ?_ | refine z_ptf ?_ | refine z_pft ?_ | refine z_rtt ?_ | refine z_rff ?_ | refine z_rtf ?_ | refine z_rft ?_ | refine z_kt ?_ | refine z_kf ?_ | refine z_lss ?_ | refine z_gtr ?_ | refine z_leq ?_ | refine z_geq ?_ | refine z_eql ?_ | refine z_neq ?_ | refine z_seq ?_ | refine z_sne ?_ | refine z_slen ?_ | refine z_eqp ?_ | refine z_eqn ?_ | refine z_cv ?_) | refine z_of (O2.lkc hx) ?_ | refine z_of V21 ?_
    refine hb h2 o2 (ext_two e1 e2) _ fun h3 e3 o3 => ?_
    have O3 := O2.ext e3 o3
    have E3 := ext_two (ext_two e1 e2) e3
    cases hbad : bad with
    | true =>
      repeat first | (with_reducible first | refine z_nil ?_ | refine z_fadr ?_ | refine z_some ?_ | refine z_ext0 ?_ | refine z_ext1 ?_ | refine z_notT ?_ | refine z_notF ?_ | refine z_cT ?_ | refine z_cF ?_ | refine z_gtt ?_ | refine z_gff ?_ | refine z_gtf ?_ | refine z_gft ?_ | refine z_ptt ?_ | refine z_pff ?_ | refine z_ptf ?_ | refine z_pft ?_ | refine z_rtt ?_ | refine z_rff ?_ | refine z_rtf ?_ | refine z_rft ?_ | refine z_kt ?_ | refine z_kf ?_ | refine z_lss ?_ | refine z_gtr ?_ | refine z_leq ?_ | refine z_geq ?_ | refine z_eql ?_ | refine z_neq ?_ | refine z_seq ?_ | refine z_sne ?_ | refine z_slen ?_ | refine z_eqp ?_ | refine z_eqn ?_ | refine z_cv ?_) | refine z_some ?_
      exact k0 h3 E3 o3 (.inr hbad)
    | false =>
      repeat first | (with_reducible first | refine z_nil ?_ | refine z_fadr ?_ | refine z_some ?_ | refine z_ext0 ?_ | refine z_ext1 ?_ | refine z_notT ?_ | refine z_notF ?_ | refine z_cT ?_ | refine z_cF ?_ | refine z_gtt ?_ | refine z_gff ?_ | refine z_gtf ?_ | refine z_gft ?_ | refine z_ptt ?_ | refine z_pff ?_ | refine z_ptf ?_ | refine z_pft ?_ | refine z_rtt ?_ | refine z_rff ?_ | refine z_rtf ?_ | refine z_rft ?_ | refine z_kt ?_ | refine z_kf ?_ | refine z_lss ?_ | refine z_gtr ?_ | refine z_leq ?_ | refine z_geq ?_ | refine z_eql ?_ | refine z_neq ?_ | refine z_seq ?_ | refine z_sne ?_ | refine z_slen ?_ | refine z_eqp ?_ | refine z_eqn ?_ | refine z_cv ?_) | refine z_some ?_
      have C := O3.c k x (lkG_mem hx)
      repeat first | (with_reducible first | refine z_nil ?_ | refine z_fadr ?_ | refine z_some ?_ | refine z_ext0 ?_ | refine z_ext1 ?_ | refine z_notT ?_ | refine z_notF ?_ | refine z_cT ?_ | refine z_cF ?_ | refine z_gtt ?_ | refine z_gff ?_ | refine z_gtf ?_ | refine z_gft ?_ | refine z_ptt ?_ | refine z_pff ?_ | refine z_ptf ?_ | refine z_pft ?_ | refine z_rtt ?_ | refine z_rff ?_ | refine z_rtf ?_ | refine z_rft ?_ | refine z_kt ?_ | refine z_kf ?_ | refine z_lss ?_ | refine z_gtr ?_ | refine z_leq ?_ | refine z_geq ?_ | refine z_eql ?_ | refine z_neq ?_ | refine z_seq ?_ | refine z_sne ?_ | refine z_slen ?_ | refine z_eqp ?_ | refine z_eqn ?_ | refine z_cv ?_) | refine z_of C.l3 ?_ | refine z_of C.map.len ?_
      have := k1 x h3 E3 o3 hx hbad
      rw [← one_len] at this
      exact this
end
end Go.Proofs.Ytbamgdknkhhikaa
namespace Go.Proofs.Ytbamgdknkhhikaa
open Go.Ab
set_option linter.unusedSimpArgs false
set_option linter.unusedVariables false
structure CI (B : Nat) (h0 h : AHeap) (τ : Nat → Tag) (T : TD) (i : Nat) : Prop where
  o : TO τ h T
  w : TW T
  e : Ext h0 h
  t0 : ∀ j, j < h0.sz → τ j = .out
  d : DT B τ h T
  cn : T.n ≤ i
  ca : T.came ≤ 2 * i
section
variable {B : Nat} {h0 h h' : AHeap} {τ τ' : Nat → Tag} {T T' : TD} {i N : Nat} {K : Kont}
theorem CI.ext (I : CI B h0 h τ T i) (e : Ext h h') (o : h'.Ok) : CI B h0 h' τ T i := ⟨I.o.ext e o, I.w, ext_two I.e e, I.t0, I.d.ext e, I.cn, I.ca⟩
theorem CI.low (I : CI B h0 h τ T i) {j : Nat} (w : (τ j).own) : h0.sz ≤ j := by
  by_cases q : j < h0.sz
  · rw [I.t0 j q] at w; exact w.elim
  · omega
theorem CI.ext_fr (I : CI B h0 h τ T i) (k0 : h0.Ok) (F : Fr (W8 τ) h h') : Ext h0 h' := F.ext I.e k0 fun j w => I.low w
theorem CI.le (I : CI B h0 h τ T i) : T.cs.length ≤ i := Nat.le_trans (cs_le I.w) I.cn
theorem rs_le {T : TD} (W : TW T) : T.rs.length ≤ T.n := by
  rw [W.sum, ← pairs_len]
  have h1 : (T.rs.map fun p => p.1).length ≤ ((pairsT T).map fun p => p.2).length := by
    refine nodup_len W.rk fun r hr => ?_
    obtain ⟨p, hp, rfl⟩ := List.mem_map.1 hr
    have hy := lkG_of_mem (k := p.1) (u := p.2) W.rk hp
    have hne := W.rne _ _ hy
    obtain ⟨k, hk⟩ : ∃ k, lkG p.2.ofs k = some () := by
      cases e : p.2.ofs with
      | nil => rw [e] at hne; exact absurd rfl hne
      | cons q t => exact ⟨q.1, by simp [lkG]⟩
    exact List.mem_map.2 ⟨(k, p.1), (pairs_mem W).2 ((W.bij k p.1).2 ⟨p.2, hy, hk⟩), rfl⟩
  rw [List.length_map, List.length_map] at h1
  omega
structure Arg (B : Nat) (h0 : AHeap) (s : Stp) (vv ev nv : AV) : Prop where
  v : VV h0 vv s.vs
  e : EV h0 ev s.m.els
  n : PV h0 nv s.m.env
  b : szVs s.vs + szL szEl s.m.els + szL szPr s.m.env ≤ B
theorem forget_ok {s : Stp} {vv ev nv : AV} (k0 : h0.Ok) (I : CI B h0 h τ T i) (A : Arg B h0 s vv ev nv) (hi : i < 1000) (hB : B < 100000000) (hN : 2 * B + 2000 ≤ N) (hL : N < 1000000000)
    (kk : ∀ h' T' z, CI B h0 h' τ T' i → T'.p = T.p → K z h' = true) : callN E (N + 20) (.func 19) [.ptr T.p 0 0 0, .agg [.str s.cls, vv]] h K = true := by
  have hlm : lim = 4611686018427387904 := rfl
  have hb := A.b
  refine c19 (n := N + 18) (k := (s.cls, spV s.vs)) (bad := badV s.vs) I.o I.w (by have := I.cn; omega) (by have := I.cn; omega) A.v.leaf (fun h1 o1 F1 K' kk' => ?_) (fun h1 o1 e1 K' kk' => ?_) (fun h' e' o' _ => kk h' T _ (I.ext e' o') rfl) fun x h' T' hx _ O' F' L' hn => ?_
  · exact c38 (n := N + 15) (A.v.ext (I.ext_fr k0 F1)) o1 (by omega) (by omega) (by omega) kk'
  · exact c35 (n := N + 13) (A.v.ext (ext_two I.e e1)) o1 (by omega) (by omega) kk'
  · exact kk h' T' _ ⟨O', L'.w, I.ext_fr k0 F', I.t0, (I.d.fr F' fun j w => own_ne w).less I.w L', by have := I.cn; omega, by have := I.ca; have := L'.came; omega⟩ L'.p
theorem justify_ok {s : Stp} {vv ev nv : AV} (k0 : h0.Ok) (I : CI B h0 h τ T i) (A : Arg B h0 s vv ev nv) (hi : i < 1000) (hB : B < 100000000) (hN : 2 * B + 2000 ≤ N) (hL : N < 1000000000)
    (kk : ∀ h' τ' T' z, CI B h0 h' τ' T' (i + 1) → T'.p = T.p → K z h' = true) : callN E (N + 20) (.func 10) [.ptr T.p 0 0 0, .agg [.str s.cls, vv], .agg [.int .i64 s.m.core, ev, nv]] h K = true := by
  have hlm : lim = 4611686018427387904 := rfl
  have hb := A.b
  refine c10 (n := N + 18) (k := (s.cls, spV s.vs)) (r := (s.m.core, kyM s.m.els)) (cls := s.cls) (b1 := badV s.vs) (b2 := badE s.m.els)
    (G := fun h lo hi v => v.leaf = true ∧ Gv s.vs h lo hi v) (GM := fun h lo hi a b => a.leaf = true ∧ b.leaf = true ∧ Gm s.m h lo hi a b)
    I.o (by have := I.cn; omega) (by have := I.ca; omega) A.v.leaf A.e.leaf A.n.leaf A.v.sm A.e.same A.n.same
    (fun h1 o1 e1 K' kk' => c35 (n := N + 13) (A.v.ext (ext_two I.e e1)) o1 (by omega) (by omega) kk')
    (fun h1 o1 e1 K' kk' => c36 (n := N + 10) (A.e.ext (ext_two I.e e1)) o1 (by omega) (by omega) kk')
    (fun _ h1 o1 e1 K' kk' => c38 (n := N + 15) (A.v.ext (ext_two I.e e1)) o1 (by omega) (by omega) (by omega) kk')
    (fun _ _ h1 o1 e1 K' kk' => c39 (n := N + 14) (A.e.ext (ext_two I.e e1)) A.n.leaf o1 (by omega) (by omega) (by omega) kk')
    (fun h1 o1 F1 K' kk' => c40 (szVs s.vs) (N + 18) (A.v.ext (I.ext_fr k0 F1)) o1 (Nat.le_refl _) (by omega) (by omega) (by omega) fun h2 v' e2 o2 lf sm G => kk' h2 v' e2 o2 lf sm ⟨lf, G⟩)
    (fun h1 o1 F1 K' kk' => c41 (n := N + 18) o1 (A.e.ext (I.ext_fr k0 F1)) (A.n.ext (I.ext_fr k0 F1)) (by omega) (by omega) (by omega) fun h2 a b e2 o2 la lb _ _ G => kk' h2 a b e2 o2 la lb ⟨la, lb, G⟩)
    (fun _ _ _ _ _ q k => ⟨q.1, q.2.fr k⟩) (fun _ _ _ _ _ _ q k => ⟨q.1, q.2.1, q.2.2.fr k⟩) (fun _ h' e' o' => ?_) fun hcls hb1 hb2 h' τ' x y O' Fs cx cy ht F' => ?_
  · have I' := I.ext e' o'
    exact kk h' τ T _ ⟨I'.o, I'.w, I'.e, I'.t0, I'.d, by have := I'.cn; omega, by have := I'.ca; omega⟩ rfl
  · refine kk h' τ' (justT T (s.cls, spV s.vs) (s.m.core, kyM s.m.els) x y) _ ⟨O', just_w I.w Fs, I.ext_fr k0 F', fun j hj => by rw [ht j (by have := I.e.1; omega)]; exact I.t0 j hj, ?_, ?_, ?_⟩ rfl
    · refine I.d.just F' ht (fun hk => ?_) fun hk => ?_
      · obtain ⟨e1, lo, hi, ⟨lf, G⟩, l1, l2, l3⟩ := cx hk
        exact ⟨s.vs, lo, hi, by rw [e1], hb1, by omega, lf, G, l2, l3⟩
      · obtain ⟨e1, lo, hi, ⟨la, lb, G⟩, l1, l2, l3⟩ := cy hk
        exact ⟨e1, s.m, lo, hi, rfl, hb2, by omega, la, lb, G, l2, l3⟩
    · have := just_n_le (T := T) (k := (s.cls, spV s.vs)) (r := (s.m.core, kyM s.m.els)) (x0 := x) (y0 := y); have := I.cn; omega
    · have := just_came_le (T := T) (k := (s.cls, spV s.vs)) (r := (s.m.core, kyM s.m.els)) (x0 := x) (y0 := y); have := I.ca; omega
def GC (B : Nat) (h : AHeap) (lo hi : Nat) (p : SK × CD) (v : AV) : Prop := ∃ l, p.1 = (p.2.cls, spV l) ∧ badV l = false ∧ szVs l ≤ B ∧ v.leaf = true ∧ Gv l h lo hi v
theorem contents_ok (I : CI B h0 h τ T i) (hi : i < 1000) (hB : B < 100000000) (hN : 2 * B + 2000 ≤ N) (hL : N < 1000000000)
    (kk : ∀ h' out vs b, h.sz ≤ b → Ext h h' → h'.Ok → Outs (GC B) b h' out T.cs vs → K out h' = true) : callN E (N + 20) (.func 21) [.ptr T.p 0 0 0] h K = true := by
  have hlm : lim = 4611686018427387904 := rfl
  have hle := I.le
  refine c21 (n := N + 17) (G := GC B) I.o I.w (by have := I.ca; omega) (by omega) (by omega) (fun k x hx h1 o1 e1 K' kk' => ?_) (fun h1 h2 lo hi p v q kp => ?_) kk
  · obtain ⟨l, lo, hi', q1, q2, q3, q4, q5, q6, q7⟩ := I.d.c k x (lkG_of_mem I.w.ck hx)
    have V1 : VV h1 x.vals l := q5 h1 (Kp.of_ext e1)
    exact c40 (szVs l) (N + 18) V1 o1 (Nat.le_refl _) (by omega) (by omega) (by omega) fun h2 v' e2 o2 lf sm G => kk' h2 v' e2 o2 lf ⟨l, q1, q2, q3, lf, G⟩
  · obtain ⟨l, q1, q2, q3, q4, q5⟩ := q
    exact ⟨l, q1, q2, q3, q4, q5.fr kp⟩
end
end Go.Proofs.Ytbamgdknkhhikaa
namespace Go.Proofs.Ytbamgdknkhhikaa
open Go.Ab
set_option linter.unusedSimpArgs false
set_option linter.unusedVariables false
theorem c7' {n : Nat} {h : AHeap} {K : Kont} (k : K (.bool true) h = true) : callN E (n + 1) (.func 7) [] h K = true := k
section
variable {B : Nat} {h0 h h' : AHeap} {τ τ' : Nat → Tag} {T T' : TD} {i N : Nat} {K : Kont}
theorem keep_const {f : Nat} {bv : Bool} (hf : ∀ {n : Nat} {g : AHeap} {a : AV} {K : Kont}, g.Ok → a.cells.length = 3 → allLeaf a.cells = true → (∀ g', Ext g g' → g'.Ok → K (.bool bv) g' = true) → callN E (n + 1) (.func f) [a] g K = true)
    (k0 : h0.Ok) (I : CI B h0 h τ T i) (hi : i < 1000) (hB : B < 100000000) (hN : 2 * B + 2000 ≤ N) (hL : N < 1000000000)
    (kk : ∀ h' T', CI B h0 h' τ T' i → T'.p = T.p → Less T T' (deadB T (fun _ => bv) T.rs.length) → K (.int .i64 ((T.n : Int) - (T'.n : Int))) h' = true) :
    callN E (N + 20) (.func 13) [.ptr T.p 0 0 0, .fn (.func f) [] []] h K = true := by
  have hlm : lim = 4611686018427387904 := rfl
  have hrs := rs_le I.w
  have hcn := I.cn
  have hca := I.ca
  have hW : ∀ {g g'}, Fr (fun j => (τ j).own ∨ False) g g' → Fr (W8 τ) g g' := fun F => F.mono fun j w => w.elim id False.elim
  refine c13 (n := N + 17) (live := fun _ => bv) (J := fun _ _ X => X = fun _ => False) (X0 := fun _ => False) (GM := fun _ _ _ _ a b => a.leaf = true ∧ b.leaf = true) I.o I.w (by omega) (by omega) (by omega) (by omega) (by omega) (fun _ => rfl) (fun j x => x.elim) rfl (fun i h1 h2 X q _ => q)
    (fun r y hy h1 o1 F1 K' kk' => ?_) (fun j r y _ _ h1 X a b lo hi o1 F1 hX G _ _ K' kk' => ?_) fun h' T' X O' L' _ F' => ?_
  · obtain ⟨hco, m, lo, hi', q1, q2, q3, q4, q5, q6, q7, q8⟩ := I.d.r r y hy
    obtain ⟨u1, u2⟩ := q6 h1 (Kp.of_fr (hW F1) fun j w ⟨a, b⟩ => by have w : (τ j).own := w; rw [q8 j a b] at w; exact w)
    exact c41 (n := N + 18) o1 u1 u2 (by omega) (by omega) (by omega) fun h2 a b e2 o2 la lb _ _ _ => kk' h2 a b e2 o2 ⟨la, lb⟩
  · refine z_cv ?_
    subst hX
    refine hf (n := N + 18) o1 rfl (by simp only [AV.cells, allLeaf, G.1, G.2]; rfl) fun g' e' o' => ?_
    exact kk' g' (fun _ => False) o' (Fr.of_ext e') rfl fun j x => x.elim
  · have F := hW F'
    have hle : T'.n ≤ T.n := by
      rw [L'.w.sum, I.w.sum, ← pairs_len, ← pairs_len]
      exact nodup_len (pairs_nodup L'.w) fun p hp => by
        obtain ⟨k, r⟩ := p
        exact (pairs_mem I.w).2 ((L'.has k r).1 ((pairs_mem L'.w).1 hp)).1
    exact kk h' T' ⟨O', L'.w, I.ext_fr k0 F, I.t0, (I.d.fr F fun j w => own_ne w).less I.w L', by omega, by have := L'.came; omega⟩ L'.p L'
theorem c30 {n : Nat} {g : AHeap} {a : AV} {K : Kont} (o : g.Ok) (h1 : a.cells.length = 3) (h2 : allLeaf a.cells = true) (k : ∀ g', Ext g g' → g'.Ok → K (.bool true) g' = true) : callN E (n + 1) (.func 30) [a] g K = true := by
  apply d30
  unfold s30
  obtain ⟨g1, b1, V1, e1, o1, z1⟩ := box_v (n := 3) o h1 (by decide) h2
  refine z_p b1 ?_
  exact k g1 e1 o1
theorem c31 {n : Nat} {g : AHeap} {a : AV} {K : Kont} (o : g.Ok) (h1 : a.cells.length = 3) (h2 : allLeaf a.cells = true) (k : ∀ g', Ext g g' → g'.Ok → K (.bool false) g' = true) : callN E (n + 1) (.func 31) [a] g K = true := by
  apply d31
  unfold s31
  obtain ⟨g1, b1, V1, e1, o1, z1⟩ := box_v (n := 3) o h1 (by decide) h2
  refine z_p b1 ?_
  exact k g1 e1 o1
theorem p68 (k0 : h0.Ok) (I : CI B h0 h τ T i) (hi : i < 1000) (hB : B < 100000000) (hN : 2 * B + 2000 ≤ N) (hL : N < 1000000000) (kk : ∀ h, K (.bool true) h = true) :
    p5_68 (callN E (N + 20)) (N + 20) (.ptr T.p 0 0 0) (.int .i64 (T.n : Int)) h K = true := by
  unfold p5_68
  refine c23 (n := N + 19) I.o ?_
  have e1 : binA .neq (.int .i64 (T.n : Int)) (.int .i64 (T.n : Int)) = some (.bool false) := neqi _ _
  refine z_of e1 ?_
  repeat first | (with_reducible first | refine z_nil ?_ | refine z_fadr ?_ | refine z_some ?_ | refine z_ext0 ?_ | refine z_ext1 ?_ | refine z_notT ?_ | refine z_notF ?_ | refine z_cT ?_ | refine z_cF ?_ | refine z_gtt ?_ | refine z_gff ?_ | refine z_gtf ?_ | refine z_gft ?_ | refine z_ptt ?_ | refine z_pff ?_ | refine z_ptf ?_ | refine z_pft ?_ | refine z_rtt ?_ | refine z_rff ?_ | refine z_rtf ?_ | refine z_rft ?_ | refine z_kt ?_ | refine z_kf ?_ | refine z_lss ?_ | refine z_gtr ?_ | refine z_leq ?_ | refine z_geq ?_ | refine z_eql ?_ | refine z_neq ?_ | refine z_seq ?_ | refine z_sne ?_ | refine z_slen ?_ | refine z_eqp ?_ | refine z_eqn ?_ | refine z_cv ?_) | refine z_some ?_
  refine keep_const c30 k0 I hi hB hN hL fun h1 T1 I1 hp1 L1 => ?_
  have hn1 : T1.n = T.n := L1.all I.w fun k r _ ⟨_, _, _, q⟩ => by cases q
  rw [hn1]
  repeat first | (with_reducible first | refine z_nil ?_ | refine z_fadr ?_ | refine z_some ?_ | refine z_ext0 ?_ | refine z_ext1 ?_ | refine z_notT ?_ | refine z_notF ?_ | refine z_cT ?_ | refine z_cF ?_ | refine z_gtt ?_ | refine z_gff ?_ | refine z_gtf ?_ | refine z_gft ?_ | refine z_ptt ?_ | refine z_pff ?_ | refine z_ptf ?_ | refine z_pft ?_ | refine z_rtt ?_ | refine z_rff ?_ | refine z_rtf ?_ | refine z_rft ?_ | refine z_kt ?_ | refine z_kf ?_ | refine z_lss ?_ | refine z_gtr ?_ | refine z_leq ?_ | refine z_geq ?_ | refine z_eql ?_ | refine z_neq ?_ | refine z_seq ?_ | refine z_sne ?_ | refine z_slen ?_ | refine z_eqp ?_ | refine z_eqn ?_ | refine z_cv ?_)
  have d2 : (!decide ((T.n : Int) - (T.n : Int) = 0)) = false := by simp
  rw [d2]
  repeat first | (with_reducible first | refine z_nil ?_ | refine z_fadr ?_ | refine z_some ?_ | refine z_ext0 ?_ | refine z_ext1 ?_ | refine z_notT ?_ | refine z_notF ?_ | refine z_cT ?_ | refine z_cF ?_ | refine z_gtt ?_ | refine z_gff ?_ | refine z_gtf ?_ | refine z_gft ?_ | refine z_ptt ?_ | refine z_pff ?_ | refine z_ptf ?_ | refine z_pft ?_ | refine z_rtt ?_ | refine z_rff ?_ | refine z_rtf ?_ | refine z_rft ?_ | refine z_kt ?_ | refine z_kf ?_ | refine z_lss ?_ | refine z_gtr ?_ | refine z_leq ?_ | refine z_geq ?_ | refine z_eql ?_ | refine z_neq ?_ | refine z_seq ?_ | refine z_sne ?_ | refine z_slen ?_ | refine z_eqp ?_ | refine z_eqn ?_ | refine z_cv ?_) | refine z_some ?_
  rw [← hp1]
  refine c23 (n := N + 19) I1.o ?_
  rw [hn1]
  repeat first | (with_reducible first | refine z_nil ?_ | refine z_fadr ?_ | refine z_some ?_ | refine z_ext0 ?_ | refine z_ext1 ?_ | refine z_notT ?_ | refine z_notF ?_ | refine z_cT ?_ | refine z_cF ?_ | refine z_gtt ?_ | refine z_gff ?_ | refine z_gtf ?_ | refine z_gft ?_ | refine z_ptt ?_ | refine z_pff ?_ | refine z_ptf ?_ | refine z_pft ?_ | refine z_rtt ?_ | refine z_rff ?_ | refine z_rtf ?_ | refine z_rft ?_ | refine z_kt ?_ | refine z_kf ?_ | refine z_lss ?_ | refine z_gtr ?_ | refine z_leq ?_ | refine z_geq ?_ | refine z_eql ?_ | refine z_neq ?_ | refine z_seq ?_ | refine z_sne ?_ | refine z_slen ?_ | refine z_eqp ?_ | refine z_eqn ?_ | refine z_cv ?_)
  have d1 : (!decide ((T.n : Int) = (T.n : Int))) = false := by simp
  rw [d1]
  repeat first | (with_reducible first | refine z_nil ?_ | refine z_fadr ?_ | refine z_some ?_ | refine z_ext0 ?_ | refine z_ext1 ?_ | refine z_notT ?_ | refine z_notF ?_ | refine z_cT ?_ | refine z_cF ?_ | refine z_gtt ?_ | refine z_gff ?_ | refine z_gtf ?_ | refine z_gft ?_ | refine z_ptt ?_ | refine z_pff ?_ | refine z_ptf ?_ | refine z_pft ?_ | refine z_rtt ?_ | refine z_rff ?_ | refine z_rtf ?_ | refine z_rft ?_ | refine z_kt ?_ | refine z_kf ?_ | refine z_lss ?_ | refine z_gtr ?_ | refine z_leq ?_ | refine z_geq ?_ | refine z_eql ?_ | refine z_neq ?_ | refine z_seq ?_ | refine z_sne ?_ | refine z_slen ?_ | refine z_eqp ?_ | refine z_eqn ?_ | refine z_cv ?_)
  refine keep_const c31 k0 I1 hi hB hN hL fun h2 T2 I2 hp2 L2 => ?_
  obtain ⟨hn2, hc2⟩ := L2.none I1.w fun k r hB' => by
    obtain ⟨y, hy, _⟩ := (I1.w.bij k r).1 hB'
    have hm : r ∈ rkeys T1 := List.mem_map.2 ⟨_, lkG_mem hy, rfl⟩
    obtain ⟨j, hj, he⟩ := List.mem_iff_getElem.1 hm
    exact ⟨j, by simpa [rkeys] using hj, by rw [List.getElem?_eq_getElem hj, he], rfl⟩
  rw [hn2, hn1]
  repeat first | (with_reducible first | refine z_nil ?_ | refine z_fadr ?_ | refine z_some ?_ | refine z_ext0 ?_ | refine z_ext1 ?_ | refine z_notT ?_ | refine z_notF ?_ | refine z_cT ?_ | refine z_cF ?_ | refine z_gtt ?_ | refine z_gff ?_ | refine z_gtf ?_ | refine z_gft ?_ | refine z_ptt ?_ | refine z_pff ?_ | refine z_ptf ?_ | refine z_pft ?_ | refine z_rtt ?_ | refine z_rff ?_ | refine z_rtf ?_ | refine z_rft ?_ | refine z_kt ?_ | refine z_kf ?_ | refine z_lss ?_ | refine z_gtr ?_ | refine z_leq ?_ | refine z_geq ?_ | refine z_eql ?_ | refine z_neq ?_ | refine z_seq ?_ | refine z_sne ?_ | refine z_slen ?_ | refine z_eqp ?_ | refine z_eqn ?_ | refine z_cv ?_)
  have d3 : decide ((T.n : Int) - ((0 : Nat) : Int) = (T.n : Int)) = true := decide_eq_true (by omega)
  rw [d3]
  repeat first | (with_reducible first | refine z_nil ?_ | refine z_fadr ?_ | refine z_some ?_ | refine z_ext0 ?_ | refine z_ext1 ?_ | refine z_notT ?_ | refine z_notF ?_ | refine z_cT ?_ | refine z_cF ?_ | refine z_gtt ?_ | refine z_gff ?_ | refine z_gtf ?_ | refine z_gft ?_ | refine z_ptt ?_ | refine z_pff ?_ | refine z_ptf ?_ | refine z_pft ?_ | refine z_rtt ?_ | refine z_rff ?_ | refine z_rtf ?_ | refine z_rft ?_ | refine z_kt ?_ | refine z_kf ?_ | refine z_lss ?_ | refine z_gtr ?_ | refine z_leq ?_ | refine z_geq ?_ | refine z_eql ?_ | refine z_neq ?_ | refine z_seq ?_ | refine z_sne ?_ | refine z_slen ?_ | refine z_eqp ?_ | refine z_eqn ?_ | refine z_cv ?_) | refine z_some ?_
  rw [← hp2]
  refine c23 (n := N + 19) I2.o ?_
  rw [hn2]
  repeat first | (with_reducible first | refine z_nil ?_ | refine z_fadr ?_ | refine z_some ?_ | refine z_ext0 ?_ | refine z_ext1 ?_ | refine z_notT ?_ | refine z_notF ?_ | refine z_cT ?_ | refine z_cF ?_ | refine z_gtt ?_ | refine z_gff ?_ | refine z_gtf ?_ | refine z_gft ?_ | refine z_ptt ?_ | refine z_pff ?_ | refine z_ptf ?_ | refine z_pft ?_ | refine z_rtt ?_ | refine z_rff ?_ | refine z_rtf ?_ | refine z_rft ?_ | refine z_kt ?_ | refine z_kf ?_ | refine z_lss ?_ | refine z_gtr ?_ | refine z_leq ?_ | refine z_geq ?_ | refine z_eql ?_ | refine z_neq ?_ | refine z_seq ?_ | refine z_sne ?_ | refine z_slen ?_ | refine z_eqp ?_ | refine z_eqn ?_ | refine z_cv ?_)
  have d4 : decide (((0 : Nat) : Int) = 0) = true := rfl
  rw [d4]
  repeat first | (with_reducible first | refine z_nil ?_ | refine z_fadr ?_ | refine z_some ?_ | refine z_ext0 ?_ | refine z_ext1 ?_ | refine z_notT ?_ | refine z_notF ?_ | refine z_cT ?_ | refine z_cF ?_ | refine z_gtt ?_ | refine z_gff ?_ | refine z_gtf ?_ | refine z_gft ?_ | refine z_ptt ?_ | refine z_pff ?_ | refine z_ptf ?_ | refine z_pft ?_ | refine z_rtt ?_ | refine z_rff ?_ | refine z_rtf ?_ | refine z_rft ?_ | refine z_kt ?_ | refine z_kf ?_ | refine z_lss ?_ | refine z_gtr ?_ | refine z_leq ?_ | refine z_geq ?_ | refine z_eql ?_ | refine z_neq ?_ | refine z_seq ?_ | refine z_sne ?_ | refine z_slen ?_ | refine z_eqp ?_ | refine z_eqn ?_ | refine z_cv ?_) | refine z_some ?_
  refine contents_ok I2 hi hB hN hL fun h3 out vs b hb e3' o3 Ou => ?_
  have VL : lenA h3 1 out = some (.int .i64 0) := by
    have := Ou.own.view.len
    rw [outE_len Ou.len, hc2] at this; exact this
  repeat first | (with_reducible first | refine z_nil ?_ | refine z_fadr ?_ | refine z_some ?_ | refine z_ext0 ?_ | refine z_ext1 ?_ | refine z_notT ?_ | refine z_notF ?_ | refine z_cT ?_ | refine z_cF ?_ | refine z_gtt ?_ | refine z_gff ?_ | refine z_gtf ?_ | refine z_gft ?_ | refine z_ptt ?_ | refine z_pff ?_ | refine z_ptf ?_ | refine z_pft ?_ | refine z_rtt ?_ | refine z_rff ?_ | refine z_rtf ?_ | refine z_rft ?_ | refine z_kt ?_ | refine z_kf ?_ | refine z_lss ?_ | refine z_gtr ?_ | refine z_leq ?_ | refine z_geq ?_ | refine z_eql ?_ | refine z_neq ?_ | refine z_seq ?_ | refine z_sne ?_ | refine z_slen ?_ | refine z_eqp ?_ | refine z_eqn ?_ | refine z_cv ?_) | refine z_of VL ?_
  have d5 : decide ((0 : Int) = 0) = true := rfl
  rw [d5]
  repeat first | (with_reducible first | refine z_nil ?_ | refine z_fadr ?_ | refine z_some ?_ | refine z_ext0 ?_ | refine z_ext1 ?_ | refine z_notT ?_ | refine z_notF ?_ | refine z_cT ?_ | refine z_cF ?_ | refine z_gtt ?_ | refine z_gff ?_ | refine z_gtf ?_ | refine z_gft ?_ | refine z_ptt ?_ | refine z_pff ?_ | refine z_ptf ?_ | refine z_pft ?_ | refine z_rtt ?_ | refine z_rff ?_ | refine z_rtf ?_ | refine z_rft ?_ | refine z_kt ?_ | refine z_kf ?_ | refine z_lss ?_ | refine z_gtr ?_ | refine z_leq ?_ | refine z_geq ?_ | refine z_eql ?_ | refine z_neq ?_ | refine z_seq ?_ | refine z_sne ?_ | refine z_slen ?_ | refine z_eqp ?_ | refine z_eqn ?_ | refine z_cv ?_)
  refine c7' ?_
  repeat first | (with_reducible first | refine z_nil ?_ | refine z_fadr ?_ | refine z_some ?_ | refine z_ext0 ?_ | refine z_ext1 ?_ | refine z_notT ?_ | refine z_notF ?_ | refine z_cT ?_ | refine z_cF ?_ | refine z_gtt ?_ | refine z_gff ?_ | refine z_gtf ?_ | refine z_gft ?_ | refine z_ptt ?_ | refine z_pff ?_ | refine z_ptf ?_ | refine z_pft ?_ | refine z_rtt ?_ | refine z_rff ?_ | refine z_rtf ?_ | refine z_rft ?_ | refine z_kt ?_ | refine z_kf ?_ | refine z_lss ?_ | refine z_gtr ?_ | refine z_leq ?_ | refine z_geq ?_ | refine z_eql ?_ | refine z_neq ?_ | refine z_seq ?_ | refine z_sne ?_ | refine z_slen ?_ | refine z_eqp ?_ | refine z_eqn ?_ | refine z_cv ?_)
  exact kk h3
theorem l47 (k0 : h0.Ok) {hs : AHeap} (I : CI B h0 hs τ T i) (hi : i < 1000) (hB : B < 100000000) (hN : 2 * B + 2000 ≤ N) (hL : N < 1000000000) (kk : ∀ h, K (.bool true) h = true) {out : AV} {vs : List (AV × Nat × Nat)} {b : Nat} (Ou : Outs (GC B) b hs out T.cs vs) :
    ∀ m j h, T.cs.length - j < m → j ≤ T.cs.length → Ext hs h → h.Ok → l5_47 (callN E (N + 20)) (N + 20) m (.ptr T.p 0 0 0) out (.int .i64 ((sumG CD.bys (T.cs.take j) : Nat) : Int)) (.int .i64 (j : Int)) h K = true := by
  have hlm : lim = 4611686018427387904 := rfl
  have hle := I.le
  have hcn := I.cn
  intro m
  induction m with
  | zero => intro j h hm; omega
  | succ m ih =>
    intro j h hm hj e o
    unfold l5_47 b5_47
    have I' := I.ext e o
    have VL : lenA h 1 out = some (.int .i64 (T.cs.length : Int)) := by have := (Ou.own.view.ext e).len; rwa [outE_len Ou.len] at this
    repeat first | (with_reducible first | refine z_nil ?_ | refine z_fadr ?_ | refine z_some ?_ | refine z_ext0 ?_ | refine z_ext1 ?_ | refine z_notT ?_ | refine z_notF ?_ | refine z_cT ?_ | refine z_cF ?_ | refine z_gtt ?_ | refine z_gff ?_ | refine z_gtf ?_ | refine z_gft ?_ | refine z_ptt ?_ | refine z_pff ?_ | refine z_ptf ?_ | refine z_pft ?_ | refine z_rtt ?_ | refine z_rff ?_ | refine z_rtf ?_ | refine z_rft ?_ | refine z_kt ?_ | refine z_kf ?_ | refine z_lss ?_ | refine z_gtr ?_ | refine z_leq ?_ | refine z_geq ?_ | refine z_eql ?_ | refine z_neq ?_ | refine z_seq ?_ | refine z_sne ?_ | refine z_slen ?_ | refine z_eqp ?_ | refine z_eqn ?_ | refine z_cv ?_) | refine z_of VL ?_
    by_cases hlt : j < T.cs.length
    · refine z_ct (decide_eq_true (by omega)) ?_
      have hp := List.getElem?_eq_getElem hlt
      have hu := List.getElem?_eq_getElem (show j < vs.length by rw [Ou.len]; exact hlt)
      have ho : (outE T.cs vs)[j]? = some [.str (T.cs[j]).2.cls, (vs[j]'(by rw [Ou.len]; exact hlt)).1] := by
        unfold outE; rw [List.getElem?_zipWith, hp, hu]
      obtain ⟨⟨l, q1, q2, q3, q4, q5⟩, _⟩ := Ou.g j _ _ hp hu
      generalize hpp : T.cs[j] = p at *
      generalize hvv : vs[j]'(by rw [Ou.len]; exact hlt) = u at *
      obtain ⟨id, g, q, p1, p2⟩ := (Ou.own.view.ext e).at1 ho
      have A : loadA h true 2 (.ptr id g q 0) = some (.agg [.str p.2.cls, u.1]) := by rw [p2]; rfl
      have hmem : (p.1, p.2) ∈ T.cs := List.mem_of_getElem? hp
      have hx := lkG_of_mem I.w.ck hmem
      repeat first | (with_reducible first | refine z_nil ?_ | refine z_fadr ?_ | refine z_some ?_ | refine z_ext0 ?_ | refine z_ext1 ?_ | refine z_notT ?_ | refine z_notF ?_ | refine z_cT ?_ | refine z_cF ?_ | refine z_gtt ?_ | refine z_gff ?_ | refine z_gtf ?_ | refine z_gft ?_ | refine z_ptt ?_ | refine z_pff ?_ | refine z_ptf ?_ | refine z_pft ?_ | refine z_rtt ?_ | refine z_rff ?_ | refine z_rtf ?_ | refine z_rft ?_ | refine z_kt ?_ | refine z_kf ?_ | refine z_lss ?_ | refine z_gtr ?_ | refine z_leq ?_ | refine z_geq ?_ | refine z_eql ?_ | refine z_neq ?_ | refine z_seq ?_ | refine z_sne ?_ | refine z_slen ?_ | refine z_eqp ?_ | refine z_eqn ?_ | refine z_cv ?_) | refine z_of (p1 .i64) ?_ | refine z_of A ?_
      have V1 : ∀ {g'}, Ext h g' → VV g' u.1 l := fun e' => q5 _ (Kp.of_ext (ext_two e e'))
      refine c24 (n := N + 19) (k := p.1) (bad := badV l) I'.o q4 (fun h1 o1 e1 K' kk' => ?_) (fun h1 o1 e1 K' kk' => c35 (n := N + 13) (V1 e1) o1 (by omega) (by omega) kk') (fun h' e' o' hh => ?_) fun x h' e' o' hx' _ => ?_
      · have := c38 (n := N + 15) (cls := p.2.cls) (V1 e1) o1 (by omega) (by omega) (by omega) (K := K') (fun h2 e2 o2 => by
          have := kk' h2 e2 o2
          rw [q1] at this; exact this)
        exact this
      · rcases hh with hh | hh
        · rw [hx] at hh; cases hh
        · rw [q2] at hh; cases hh
      · rw [hx] at hx'
        cases hx'
        have hne := I.w.cne _ _ hx
        repeat first | (with_reducible first | refine z_nil ?_ | refine z_fadr ?_ | refine z_some ?_ | refine z_ext0 ?_ | refine z_ext1 ?_ | refine z_notT ?_ | refine z_notF ?_ | refine z_cT ?_ | refine z_cF ?_ | refine z_gtt ?_ | refine z_gff ?_ | refine z_gtf ?_ | refine z_gft ?_ | refine z_ptt ?_ | refine z_pff ?_ | refine z_ptf ?_ | refine z_pft ?_ | refine z_rtt ?_ | refine z_rff ?_ | refine z_rtf ?_ | refine z_rft ?_ | refine z_kt ?_ | refine z_kf ?_ | refine z_lss ?_ | refine z_gtr ?_ | refine z_leq ?_ | refine z_geq ?_ | refine z_eql ?_ | refine z_neq ?_ | refine z_seq ?_ | refine z_sne ?_ | refine z_slen ?_ | refine z_eqp ?_ | refine z_eqn ?_ | refine z_cv ?_)
        refine z_cf (decide_eq_false (by omega)) ?_
        have hsum : sumG CD.bys (T.cs.take (j + 1)) = sumG CD.bys (T.cs.take j) + p.2.bys.length := by
          rw [List.take_succ_eq_append_getElem hlt, hpp, sumG_app]; simp [sumG]
        have hst : sumG CD.bys (T.cs.take (j + 1)) ≤ T.n := by
          have h1 : sumG CD.bys (T.cs.take (j + 1)) + sumG CD.bys (T.cs.drop (j + 1)) = sumG CD.bys T.cs := by rw [← sumG_app, List.take_append_drop]
          rw [I.w.sum]; omega
        repeat first | (with_reducible first | refine z_nil ?_ | refine z_fadr ?_ | refine z_some ?_ | refine z_ext0 ?_ | refine z_ext1 ?_ | refine z_notT ?_ | refine z_notF ?_ | refine z_cT ?_ | refine z_cF ?_ | refine z_gtt ?_ | refine z_gff ?_ | refine z_gtf ?_ | refine z_gft ?_ | refine z_ptt ?_ | refine z_pff ?_ | refine z_ptf ?_ | refine z_pft ?_ | refine z_rtt ?_ | refine z_rff ?_ | refine z_rtf ?_ | refine z_rft ?_ | refine z_kt ?_ | refine z_kf ?_ | refine z_lss ?_ | refine z_gtr ?_ | refine z_leq ?_ | refine z_geq ?_ | refine z_eql ?_ | refine z_neq ?_ | refine z_seq ?_ | refine z_sne ?_ | refine z_slen ?_ | refine z_eqp ?_ | refine z_eqn ?_ | refine z_cv ?_) | refine z_of (nat64 (a := sumG CD.bys (T.cs.take j)) (b := p.2.bys.length) (by omega)) ?_ | refine z_of (inc64 (i := j) (by omega)) ?_
        rw [← hsum]
        exact ih (j + 1) h' (by omega) (by omega) (ext_two e e') o'
    · refine z_cf (decide_eq_false (by omega)) ?_
      rw [List.take_of_length_le (by omega), ← I.w.sum]
      exact p68 k0 I' hi hB hN hL kk
theorem p39 (k0 : h0.Ok) (I : CI B h0 h τ T i) (hi : i < 1000) (hB : B < 100000000) (hN : 2 * B + 2000 ≤ N) (hL : N < 1000000000) (kk : ∀ h, K (.bool true) h = true) :
    p5_39 (callN E (N + 20)) (N + 20) (.ptr T.p 0 0 0) h K = true := by
  have hle := I.le
  unfold p5_39
  refine contents_ok I hi hB hN hL fun h1 out vs b hb e1 o1 Ou => ?_
  exact l47 k0 (I.ext e1 o1) hi hB hN hL kk Ou (N + 20) 0 h1 (by omega) (Nat.zero_le _) (Ext.refl _) o1
theorem l24 {a : Nat} {lv : AV} {l : List Stp} (k0 : h0.Ok) (VA : Var h0 a [lv]) (SL : SV h0 lv l) (hsz : szL szSt l ≤ B) (hB : B < 100000000) (hN : 2 * B + 2000 ≤ N) (hL : N < 1000000000) (kk : ∀ h, K (.bool true) h = true) :
    ∀ m i h τ T, 60 - i < m → i ≤ 60 → CI B h0 h τ T i → l5_24 (callN E (N + 20)) (N + 20) m (.ptr a 0 0 0) (.ptr T.p 0 0 0) (.int .i64 (i : Int)) h K = true := by
  have hlm : lim = 4611686018427387904 := rfl
  intro m
  induction m with
  | zero => intro i h τ T hm; omega
  | succ m ih =>
    intro i h τ T hm hi I
    unfold l5_24 b5_24
    have L0 : loadA h false 1 (.ptr a 0 0 0) = some lv := (VA.ext I.e).get rfl
    repeat first | (with_reducible first | refine z_nil ?_ | refine z_fadr ?_ | refine z_some ?_ | refine z_ext0 ?_ | refine z_ext1 ?_ | refine z_notT ?_ | refine z_notF ?_ | refine z_cT ?_ | refine z_cF ?_ | refine z_gtt ?_ | refine z_gff ?_ | refine z_gtf ?_ | refine z_gft ?_ | refine z_ptt ?_ | refine z_pff ?_ | refine z_ptf ?_ | refine z_pft ?_ | refine z_rtt ?_ | refine z_rff ?_ | refine z_rtf ?_ | refine z_rft ?_ | refine z_kt ?_ | refine z_kf ?_ | refine z_lss ?_ | refine z_gtr ?_ | refine z_leq ?_ | refine z_geq ?_ | refine z_eql ?_ | refine z_neq ?_ | refine z_seq ?_ | refine z_sne ?_ | refine z_slen ?_ | refine z_eqp ?_ | refine z_eqn ?_ | refine z_cv ?_) | refine z_of L0 ?_ | refine z_of (SL.ext I.e).len ?_
    by_cases hlt : i < l.length
    · have e1 : decide ((i : Int) < (l.length : Int)) = true := decide_eq_true (by omega)
      rw [e1]
      repeat first | (with_reducible first | refine z_nil ?_ | refine z_fadr ?_ | refine z_some ?_ | refine z_ext0 ?_ | refine z_ext1 ?_ | refine z_notT ?_ | refine z_notF ?_ | refine z_cT ?_ | refine z_cF ?_ | refine z_gtt ?_ | refine z_gff ?_ | refine z_gtf ?_ | refine z_gft ?_ | refine z_ptt ?_ | refine z_pff ?_ | refine z_ptf ?_ | refine z_pft ?_ | refine z_rtt ?_ | refine z_rff ?_ | refine z_rtf ?_ | refine z_rft ?_ | refine z_kt ?_ | refine z_kf ?_ | refine z_lss ?_ | refine z_gtr ?_ | refine z_leq ?_ | refine z_geq ?_ | refine z_eql ?_ | refine z_neq ?_ | refine z_seq ?_ | refine z_sne ?_ | refine z_slen ?_ | refine z_eqp ?_ | refine z_eqn ?_ | refine z_cv ?_) | refine z_of rfl ?_
      by_cases h60 : i < 60
      · have e2 : decide ((i : Int) < 60) = true := decide_eq_true (by omega)
        rw [e2]
        repeat first | (with_reducible first | refine z_nil ?_ | refine z_fadr ?_ | refine z_some ?_ | refine z_ext0 ?_ | refine z_ext1 ?_ | refine z_notT ?_ | refine z_notF ?_ | refine z_cT ?_ | refine z_cF ?_ | refine z_gtt ?_ | refine z_gff ?_ | refine z_gtf ?_ | refine z_gft ?_ | refine z_ptt ?_ | refine z_pff ?_ | refine z_ptf ?_ | refine z_pft ?_ | refine z_rtt ?_ | refine z_rff ?_ | refine z_rtf ?_ | refine z_rft ?_ | refine z_kt ?_ | refine z_kf ?_ | refine z_lss ?_ | refine z_gtr ?_ | refine z_leq ?_ | refine z_geq ?_ | refine z_eql ?_ | refine z_neq ?_ | refine z_seq ?_ | refine z_sne ?_ | refine z_slen ?_ | refine z_eqp ?_ | refine z_eqn ?_ | refine z_cv ?_)
        have hci := List.getElem?_eq_getElem hlt
        obtain ⟨id0, g0, j0, e0', hh⟩ : ∃ id g j e, (∀ h', Ext h0 h' → (∀ k, iadrA h' 7 lv (.int k (i : Int)) = some (.ptr id g j 0)) ∧ ∀ ag off m, loadA h' ag m (.ptr id g j off) = partA ag off m e) ∧ RSt h0 e l[i] := by
          obtain ⟨es, v1, v2⟩ := SL
          obtain ⟨e0', he0, hr0⟩ := v2.get hci
          obtain ⟨id', g', j', u⟩ := v1.atE he0
          exact ⟨id', g', j', e0', u, hr0⟩
        obtain ⟨u, vv, ev, nv, lv', rfl, r1, r2, r3, r4, _⟩ := hh
        have hm2 := szL_mem (sz := szSt) (List.getElem_mem hlt)
        have hse : szSt l[i] = (l[i]).cls.length + szVs (l[i]).vs + szL szEl (l[i]).m.els + szL szPr (l[i]).m.env + (l[i]).live.length + 1 := rfl
        have AA : Arg B h0 l[i] vv ev nv := ⟨r1, r2, r3, by omega⟩
        have P1 := (u h I.e).1 .i64
        have P2 := (u h I.e).2
        have q0 : loadA h false 1 (.ptr id0 g0 j0 0) = some (.int .i64 (l[i]).op) := by rw [P2]; rfl
        have q1 : loadA h false 1 (.ptr id0 g0 j0 1) = some (.str (l[i]).cls) := by rw [P2]; rfl
        have q2 : loadA h false 1 (.ptr id0 g0 j0 2) = some vv := by rw [P2]; rfl
        have q3 : loadA h true 3 (.ptr id0 g0 j0 3) = some (.agg [.int .i64 (l[i]).m.core, ev, nv]) := by rw [P2]; rfl
        repeat first | (with_reducible first | refine z_nil ?_ | refine z_fadr ?_ | refine z_some ?_ | refine z_ext0 ?_ | refine z_ext1 ?_ | refine z_notT ?_ | refine z_notF ?_ | refine z_cT ?_ | refine z_cF ?_ | refine z_gtt ?_ | refine z_gff ?_ | refine z_gtf ?_ | refine z_gft ?_ | refine z_ptt ?_ | refine z_pff ?_ | refine z_ptf ?_ | refine z_pft ?_ | refine z_rtt ?_ | refine z_rff ?_ | refine z_rtf ?_ | refine z_rft ?_ | refine z_kt ?_ | refine z_kf ?_ | refine z_lss ?_ | refine z_gtr ?_ | refine z_leq ?_ | refine z_geq ?_ | refine z_eql ?_ | refine z_neq ?_ | refine z_seq ?_ | refine z_sne ?_ | refine z_slen ?_ | refine z_eqp ?_ | refine z_eqn ?_ | refine z_cv ?_) | refine z_of L0 ?_ | refine z_of P1 ?_ | refine z_of q0 ?_
        by_cases hop : (l[i]).op = 2
        · refine z_ct (decide_eq_true hop) ?_
          repeat first | (with_reducible first | refine z_nil ?_ | refine z_fadr ?_ | refine z_some ?_ | refine z_ext0 ?_ | refine z_ext1 ?_ | refine z_notT ?_ | refine z_notF ?_ | refine z_cT ?_ | refine z_cF ?_ | refine z_gtt ?_ | refine z_gff ?_ | refine z_gtf ?_ | refine z_gft ?_ | refine z_ptt ?_ | refine z_pff ?_ | refine z_ptf ?_ | refine z_pft ?_ | refine z_rtt ?_ | refine z_rff ?_ | refine z_rtf ?_ | refine z_rft ?_ | refine z_kt ?_ | refine z_kf ?_ | refine z_lss ?_ | refine z_gtr ?_ | refine z_leq ?_ | refine z_geq ?_ | refine z_eql ?_ | refine z_neq ?_ | refine z_seq ?_ | refine z_sne ?_ | refine z_slen ?_ | refine z_eqp ?_ | refine z_eqn ?_ | refine z_cv ?_) | refine z_of L0 ?_ | refine z_of P1 ?_ | refine z_of q1 ?_ | refine z_of q2 ?_ | refine z_of (build2 rfl r1.leaf) ?_
          refine forget_ok k0 I AA (by omega) hB hN hL fun h' T' z I' hp => ?_
          unfold p5_38
          repeat first | (with_reducible first | refine z_nil ?_ | refine z_fadr ?_ | refine z_some ?_ | refine z_ext0 ?_ | refine z_ext1 ?_ | refine z_notT ?_ | refine z_notF ?_ | refine z_cT ?_ | refine z_cF ?_ | refine z_gtt ?_ | refine z_gff ?_ | refine z_gtf ?_ | refine z_gft ?_ | refine z_ptt ?_ | refine z_pff ?_ | refine z_ptf ?_ | refine z_pft ?_ | refine z_rtt ?_ | refine z_rff ?_ | refine z_rtf ?_ | refine z_rft ?_ | refine z_kt ?_ | refine z_kf ?_ | refine z_lss ?_ | refine z_gtr ?_ | refine z_leq ?_ | refine z_geq ?_ | refine z_eql ?_ | refine z_neq ?_ | refine z_seq ?_ | refine z_sne ?_ | refine z_slen ?_ | refine z_eqp ?_ | refine z_eqn ?_ | refine z_cv ?_) | refine z_of (inc64 (i := i) (by omega)) ?_
          rw [← hp]
          exact ih (i + 1) h' τ T' (by omega) (by omega) ⟨I'.o, I'.w, I'.e, I'.t0, I'.d, by have := I'.cn; omega, by have := I'.ca; omega⟩
        · refine z_cf (decide_eq_false hop) ?_
          repeat first | (with_reducible first | refine z_nil ?_ | refine z_fadr ?_ | refine z_some ?_ | refine z_ext0 ?_ | refine z_ext1 ?_ | refine z_notT ?_ | refine z_notF ?_ | refine z_cT ?_ | refine z_cF ?_ | refine z_gtt ?_ | refine z_gff ?_ | refine z_gtf ?_ | refine z_gft ?_ | refine z_ptt ?_ | refine z_pff ?_ | refine z_ptf ?_ | refine z_pft ?_ | refine z_rtt ?_ | refine z_rff ?_ | refine z_rtf ?_ | refine z_rft ?_ | refine z_kt ?_ | refine z_kf ?_ | refine z_lss ?_ | refine z_gtr ?_ | refine z_leq ?_ | refine z_geq ?_ | refine z_eql ?_ | refine z_neq ?_ | refine z_seq ?_ | refine z_sne ?_ | refine z_slen ?_ | refine z_eqp ?_ | refine z_eqn ?_ | refine z_cv ?_) | refine z_of L0 ?_ | refine z_of P1 ?_ | refine z_of q1 ?_ | refine z_of q2 ?_ | refine z_of (build2 rfl r1.leaf) ?_ | refine z_of q3 ?_
          refine justify_ok k0 I AA (by omega) hB hN hL fun h' τ' T' z I' hp => ?_
          unfold p5_38
          repeat first | (with_reducible first | refine z_nil ?_ | refine z_fadr ?_ | refine z_some ?_ | refine z_ext0 ?_ | refine z_ext1 ?_ | refine z_notT ?_ | refine z_notF ?_ | refine z_cT ?_ | refine z_cF ?_ | refine z_gtt ?_ | refine z_gff ?_ | refine z_gtf ?_ | refine z_gft ?_ | refine z_ptt ?_ | refine z_pff ?_ | refine z_ptf ?_ | refine z_pft ?_ | refine z_rtt ?_ | refine z_rff ?_ | refine z_rtf ?_ | refine z_rft ?_ | refine z_kt ?_ | refine z_kf ?_ | refine z_lss ?_ | refine z_gtr ?_ | refine z_leq ?_ | refine z_geq ?_ | refine z_eql ?_ | refine z_neq ?_ | refine z_seq ?_ | refine z_sne ?_ | refine z_slen ?_ | refine z_eqp ?_ | refine z_eqn ?_ | refine z_cv ?_) | refine z_of (inc64 (i := i) (by omega)) ?_
          rw [← hp]
          exact ih (i + 1) h' τ' T' (by omega) (by omega) I'
      · have e2 : decide ((i : Int) < 60) = false := decide_eq_false (by omega)
        rw [e2]
        repeat first | (with_reducible first | refine z_nil ?_ | refine z_fadr ?_ | refine z_some ?_ | refine z_ext0 ?_ | refine z_ext1 ?_ | refine z_notT ?_ | refine z_notF ?_ | refine z_cT ?_ | refine z_cF ?_ | refine z_gtt ?_ | refine z_gff ?_ | refine z_gtf ?_ | refine z_gft ?_ | refine z_ptt ?_ | refine z_pff ?_ | refine z_ptf ?_ | refine z_pft ?_ | refine z_rtt ?_ | refine z_rff ?_ | refine z_rtf ?_ | refine z_rft ?_ | refine z_kt ?_ | refine z_kf ?_ | refine z_lss ?_ | refine z_gtr ?_ | refine z_leq ?_ | refine z_geq ?_ | refine z_eql ?_ | refine z_neq ?_ | refine z_seq ?_ | refine z_sne ?_ | refine z_slen ?_ | refine z_eqp ?_ | refine z_eqn ?_ | refine z_cv ?_)
        exact p39 k0 I (by omega) hB hN hL kk
    · have e1 : decide ((i : Int) < (l.length : Int)) = false := decide_eq_false (by omega)
      rw [e1]
      repeat first | (with_reducible first | refine z_nil ?_ | refine z_fadr ?_ | refine z_some ?_ | refine z_ext0 ?_ | refine z_ext1 ?_ | refine z_notT ?_ | refine z_notF ?_ | refine z_cT ?_ | refine z_cF ?_ | refine z_gtt ?_ | refine z_gff ?_ | refine z_gtf ?_ | refine z_gft ?_ | refine z_ptt ?_ | refine z_pff ?_ | refine z_ptf ?_ | refine z_pft ?_ | refine z_rtt ?_ | refine z_rff ?_ | refine z_rtf ?_ | refine z_rft ?_ | refine z_kt ?_ | refine z_kf ?_ | refine z_lss ?_ | refine z_gtr ?_ | refine z_leq ?_ | refine z_geq ?_ | refine z_eql ?_ | refine z_neq ?_ | refine z_seq ?_ | refine z_sne ?_ | refine z_slen ?_ | refine z_eqp ?_ | refine z_eqn ?_ | refine z_cv ?_)
      exact p39 k0 I (by omega) hB hN hL kk
theorem c5 {lv : AV} {l : List Stp} (o : h.Ok) (SL : SV h lv l) (hlf : lv.leaf = true) (hsz : szL szSt l ≤ B) (hB : B < 100000000) (hN : 2 * B + 2000 ≤ N) (hL : N < 1000000000) (kk : ∀ h, K (.bool true) h = true) :
    callN E (N + 21) (.func 5) [.agg [lv]] h K = true := by
  have hlm : lim = 4611686018427387904 := rfl
  apply d5
  unfold s5
  obtain ⟨h1, q1, V1, e1, o1, z1⟩ := box_v (n := 1) (v := .agg [lv]) o rfl (by decide) (by simp [AV.cells, allLeaf, hlf])
  have V1 : Var h1 h.sz [lv] := V1
  refine z_p q1 ?_
  have A1 : loadA h1 true 1 (.ptr h.sz 0 0 0) = some (.agg [lv]) := V1.all rfl
  repeat first | (with_reducible first | refine z_nil ?_ | refine z_fadr ?_ | refine z_some ?_ | refine z_ext0 ?_ | refine z_ext1 ?_ | refine z_notT ?_ | refine z_notF ?_ | refine z_cT ?_ | refine z_cF ?_ | refine z_gtt ?_ | refine z_gff ?_ | refine z_gtf ?_ | refine z_gft ?_ | refine z_ptt ?_ | refine z_pff ?_ | refine z_ptf ?_ | refine z_pft ?_ | refine z_rtt ?_ | refine z_rff ?_ | refine z_rtf ?_ | refine z_rft ?_ | refine z_kt ?_ | refine z_kf ?_ | refine z_lss ?_ | refine z_gtr ?_ | refine z_leq ?_ | refine z_geq ?_ | refine z_eql ?_ | refine z_neq ?_ | refine z_seq ?_ | refine z_sne ?_ | refine z_slen ?_ | refine z_eqp ?_ | refine z_eqn ?_ | refine z_cv ?_) | refine z_of A1 ?_
  refine c6 (n := N + 17) o1 (SL.ext e1) (by omega) (by omega) hlf fun b h2 e2 o2 => ?_
  cases b with
  | false =>
    repeat first | (with_reducible first | refine z_nil ?_ | refine z_fadr ?_ | refine z_some ?_ | refine z_ext0 ?_ | refine z_ext1 ?_ | refine z_notT ?_ | refine z_notF ?_ | refine z_cT ?_ | refine z_cF ?_ | refine z_gtt ?_ | refine z_gff ?_ | refine z_gtf ?_ | refine z_gft ?_ | refine z_ptt ?_ | refine z_pff ?_ | refine z_ptf ?_ | refine z_pft ?_ | refine z_rtt ?_ | refine z_rff ?_ | refine z_rtf ?_ | refine z_rft ?_ | refine z_kt ?_ | refine z_kf ?_ | refine z_lss ?_ | refine z_gtr ?_ | refine z_leq ?_ | refine z_geq ?_ | refine z_eql ?_ | refine z_neq ?_ | refine z_seq ?_ | refine z_sne ?_ | refine z_slen ?_ | refine z_eqp ?_ | refine z_eqn ?_ | refine z_cv ?_) | refine z_some ?_
    exact c7' (kk h2)
  | true =>
    repeat first | (with_reducible first | refine z_nil ?_ | refine z_fadr ?_ | refine z_some ?_ | refine z_ext0 ?_ | refine z_ext1 ?_ | refine z_notT ?_ | refine z_notF ?_ | refine z_cT ?_ | refine z_cF ?_ | refine z_gtt ?_ | refine z_gff ?_ | refine z_gtf ?_ | refine z_gft ?_ | refine z_ptt ?_ | refine z_pff ?_ | refine z_ptf ?_ | refine z_pft ?_ | refine z_rtt ?_ | refine z_rff ?_ | refine z_rtf ?_ | refine z_rft ?_ | refine z_kt ?_ | refine z_kf ?_ | refine z_lss ?_ | refine z_gtr ?_ | refine z_leq ?_ | refine z_geq ?_ | refine z_eql ?_ | refine z_neq ?_ | refine z_seq ?_ | refine z_sne ?_ | refine z_slen ?_ | refine z_eqp ?_ | refine z_eqn ?_ | refine z_cv ?_) | refine z_some ?_
    unfold p5_10
    refine c8 (n := N + 19) o2 fun h3 T τ O W e3 hcs hrs hca hn ht hp => ?_
    repeat first | (with_reducible first | refine z_nil ?_ | refine z_fadr ?_ | refine z_some ?_ | refine z_ext0 ?_ | refine z_ext1 ?_ | refine z_notT ?_ | refine z_notF ?_ | refine z_cT ?_ | refine z_cF ?_ | refine z_gtt ?_ | refine z_gff ?_ | refine z_gtf ?_ | refine z_gft ?_ | refine z_ptt ?_ | refine z_pff ?_ | refine z_ptf ?_ | refine z_pft ?_ | refine z_rtt ?_ | refine z_rff ?_ | refine z_rtf ?_ | refine z_rft ?_ | refine z_kt ?_ | refine z_kf ?_ | refine z_lss ?_ | refine z_gtr ?_ | refine z_leq ?_ | refine z_geq ?_ | refine z_eql ?_ | refine z_neq ?_ | refine z_seq ?_ | refine z_sne ?_ | refine z_slen ?_ | refine z_eqp ?_ | refine z_eqn ?_ | refine z_cv ?_)
    unfold p5_20
    refine l24 o2 (V1.ext e2) ((SL.ext e1).ext e2) hsz hB hN hL kk (N + 20) 0 h3 τ T (by omega) (Nat.zero_le _) ⟨O, W, e3, ht, ⟨fun k x hx => (by rw [hcs] at hx; cases hx), fun r y hy => (by rw [hrs] at hy; cases hy)⟩, by omega, by omega⟩
end
end Go.Proofs.Ytbamgdknkhhikaa
namespace Go.Proofs.Ytbamgdknkhhikaa
open Go.Ab
set_option linter.unusedSimpArgs false
set_option linter.unusedVariables false
mutual
theorem bulk_eq {H : Type} : ∀ (d : DataW H), Rows.uptoBulk d = bulk d
  | .lit l => by cases l <;> simp [Rows.uptoBulk, bulk]
  | .nil => by simp [Rows.uptoBulk, bulk]
  | .ptr d => by simp [Rows.uptoBulk, bulk, bulk_eq d]
  | .slice a b => by simp [Rows.uptoBulk, bulk, bulkAll_eq a, bulkAll_eq b]
  | .agg a => by simp [Rows.uptoBulk, bulk, bulkAll_eq a]
  | .iface _ d => by simp [Rows.uptoBulk, bulk, bulk_eq d]
  | .map es => by simp [Rows.uptoBulk, bulk, bulkEntries_eq es]
  | .held _ => by simp [Rows.uptoBulk, bulk]
theorem bulkAll_eq {H : Type} : ∀ (l : List (DataW H)), Rows.uptoBulkAll l = bulkAll l
  | [] => rfl
  | d :: l => by simp [Rows.uptoBulkAll, bulkAll, bulk_eq d, bulkAll_eq l]
theorem bulkEntries_eq {H : Type} : ∀ (l : List (Lit × DataW H)), Rows.uptoBulkEntries l = bulkEntries l
  | [] => rfl
  | (k, d) :: l => by
    have h1 := bulk_eq d
    have h2 := bulkEntries_eq l
    cases k <;> simp [Rows.uptoBulkEntries, bulkEntries, Rows.uptoBulkEntry, bulkEntry, h1, h2]
end
section
variable {H : Type} {enc : TypeId × Value → H} {W : World} {held : Bool}
theorem inV : In enc Try.prog W held 70 5 szV RV :=
  inVal (t0 := 3) (t1 := 4) (t2 := 2) (t3 := 9) (tl := 34) Try.underlying70 rfl (by kernel_rfl) Try.underlying3 (by kernel_rfl) Try.underlying4 (by kernel_rfl) Try.underlying2 (by kernel_rfl) Try.underlying9 (by kernel_rfl) Try.underlying34 (by kernel_rfl)
theorem inVs : In enc Try.prog W held 34 1 (fun l => szL szV l + 1) (RSl 5 RV) := inVals inV Try.underlying34 (by kernel_rfl)
theorem REl.mono : Mono REl := fun _ _ _ _ e H => REl.ext H e
theorem RPr.mono : Mono RPr := fun _ _ _ _ e H => RPr.ext H e
theorem RSt.mono : Mono RSt := fun _ _ _ _ e H => RSt.ext H e
theorem inEl : In enc Try.prog W held 68 3 szEl REl := by
  have I := In.struct (enc := enc) (W := W) (held := held) (P := Try.prog) (t := 68) (tot := 3) Try.underlying68 rfl (by kernel_rfl)
    (InF.cons (off := 0) (n := 1) (by kernel_rfl) RInt.mono (In.int Try.underlying3) (InF.cons (off := 1) (n := 1) (by kernel_rfl) RInt.mono (In.int Try.underlying3) (InF.cons (off := 2) (n := 1) (by kernel_rfl) (RSl.mono RV.mono) inVs InF.nil)))
  refine I.conv ?_
  rintro h a ⟨x, y, vs, u⟩ ⟨b1, c1, rfl, _, ⟨rfl, x1, x2⟩, b2, c2, rfl, _, ⟨rfl, y1, y2⟩, b3, c3, rfl, _, hvs, rfl⟩
  obtain ⟨v3, e3, rfl, v1, v2⟩ := hvs.view
  exact ⟨⟨x, y, vs⟩, ⟨v3, rfl, ⟨e3, v1, v2⟩, ⟨x1, x2⟩, ⟨y1, y2⟩⟩, by simp only [szEl, szVs_eq]; omega⟩
theorem inEls : In enc Try.prog W held 35 1 (fun l => szL szEl l + 1) (RSl 3 REl) := In.slice Try.underlying35 (by kernel_rfl) (by decide) REl.mono inEl
theorem inPr : In enc Try.prog W held 117 6 szPr RPr := by
  have I := In.struct (enc := enc) (W := W) (held := held) (P := Try.prog) (t := 117) (tot := 6) Try.underlying117 rfl (by kernel_rfl)
    (InF.cons (off := 0) (n := 1) (by kernel_rfl) RStr.mono (In.str Try.underlying9) (InF.cons (off := 1) (n := 5) (by kernel_rfl) RV.mono inV InF.nil))
  refine I.conv ?_
  rintro h a ⟨s, v, u⟩ ⟨b1, c1, rfl, _, ⟨rfl, hs⟩, b2, c2, rfl, _, hv, rfl⟩
  exact ⟨(s, v), ⟨b2, by simp, hv, hs⟩, by simp only [szPr]; omega⟩
theorem inPrs : In enc Try.prog W held 36 1 (fun l => szL szPr l + 1) (RSl 6 RPr) := In.slice Try.underlying36 (by kernel_rfl) (by decide) RPr.mono inPr
theorem inInts : In enc Try.prog W held 39 1 (fun l => szL (fun _ : Int => 1) l + 1) (RSl 1 (RInt .i64)) := In.slice Try.underlying39 (by kernel_rfl) (by decide) RInt.mono (In.int Try.underlying3)
def RMt : Rd Mch := fun h a m => ∃ ev nv, a = [.int .i64 m.core, ev, nv] ∧ EV h ev m.els ∧ PV h nv m.env ∧ rng m.core
theorem RMt.mono : Mono RMt := fun _ _ _ _ e H => let ⟨ev, nv, h1, h2, h3, h4⟩ := H; ⟨ev, nv, h1, h2.ext e, h3.ext e, h4⟩
def szMt (m : Mch) : Nat := szL szEl m.els + szL szPr m.env
theorem inMt : In enc Try.prog W held 38 3 szMt RMt := by
  have I := In.struct (enc := enc) (W := W) (held := held) (P := Try.prog) (t := 38) (tot := 3) Try.underlying38 rfl (by kernel_rfl)
    (InF.cons (off := 0) (n := 1) (by kernel_rfl) RInt.mono (In.int Try.underlying3) (InF.cons (off := 1) (n := 1) (by kernel_rfl) (RSl.mono REl.mono) inEls (InF.cons (off := 2) (n := 1) (by kernel_rfl) (RSl.mono RPr.mono) inPrs InF.nil)))
  refine I.conv ?_
  rintro h a ⟨x, es, ns, u⟩ ⟨b1, c1, rfl, _, ⟨rfl, x1, x2⟩, b2, c2, rfl, _, he, b3, c3, rfl, _, hn, rfl⟩
  obtain ⟨v2, e2, rfl, v21, v22⟩ := he.view
  obtain ⟨v3, e3, rfl, v31, v32⟩ := hn.view
  exact ⟨⟨x, es, ns⟩, ⟨v2, v3, rfl, ⟨e2, v21, v22⟩, ⟨e3, v31, v32⟩, x1, x2⟩, by simp only [szMt]; omega⟩
theorem all2_int {h : AHeap} : ∀ {es : List (List AV)} {l : List Int}, All2 (RInt .i64 h) es l → es = ints l ∧ ∀ x ∈ l, rng x
  | _, _, .nil => ⟨rfl, by simp⟩
  | _, _, .cons ⟨e, a, b⟩ t => by
    obtain ⟨h1, h2⟩ := all2_int t
    subst e; subst h1
    refine ⟨rfl, fun x hx => ?_⟩
    rcases List.mem_cons.1 hx with rfl | hx
    · exact ⟨a, b⟩
    · exact h2 x hx
theorem szInts : ∀ (l : List Int), szL (fun _ : Int => 1) l = l.length
  | [] => rfl
  | x :: l => by simp only [szL, szInts l, List.length_cons]; omega
theorem inSt : In enc Try.prog W held 41 7 szSt RSt := by
  have I := In.struct (enc := enc) (W := W) (held := held) (P := Try.prog) (t := 41) (tot := 7) Try.underlying41 rfl (by kernel_rfl)
    (InF.cons (off := 0) (n := 1) (by kernel_rfl) RInt.mono (In.int Try.underlying3) (InF.cons (off := 1) (n := 1) (by kernel_rfl) RStr.mono (In.str Try.underlying9) (InF.cons (off := 2) (n := 1) (by kernel_rfl) (RSl.mono RV.mono) inVs
      (InF.cons (off := 3) (n := 3) (by kernel_rfl) RMt.mono inMt (InF.cons (off := 6) (n := 1) (by kernel_rfl) (RSl.mono RInt.mono) inInts InF.nil)))))
  refine I.conv ?_
  rintro h a ⟨x, s, vs, m, li, u⟩ ⟨b1, c1, rfl, _, ⟨rfl, _⟩, b2, c2, rfl, _, ⟨rfl, hs⟩, b3, c3, rfl, _, hvs, b4, c4, rfl, _, ⟨ev, nv, rfl, he, hn, hc⟩, b5, c5, rfl, _, hli, rfl⟩
  obtain ⟨v3, e3, rfl, v31, v32⟩ := hvs.view
  obtain ⟨v5, e5, rfl, v51, v52⟩ := hli.view
  obtain ⟨rfl, hr⟩ := all2_int v52
  exact ⟨⟨x, s, vs, m, li⟩, ⟨v3, ev, nv, v5, rfl, ⟨e3, v31, v32⟩, he, hn, v51, hc, hs, hr⟩, by simp only [szSt, szMt, szVs_eq, szInts]; omega⟩
theorem inSts : In enc Try.prog W held 22 1 (fun l => szL szSt l + 1) (RSl 7 RSt) := In.slice Try.underlying22 (by kernel_rfl) (by decide) RSt.mono inSt
def RSc : Rd (List Stp) := fun h a l => ∃ lv, a = [lv] ∧ SV h lv l ∧ lv.leaf = true
theorem inSc : In enc Try.prog W held 24 1 (szL szSt) RSc := by
  have I := In.struct (enc := enc) (W := W) (held := held) (P := Try.prog) (t := 24) (tot := 1) Try.underlying24 rfl (by kernel_rfl)
    (InF.cons (off := 0) (n := 1) (by kernel_rfl) (RSl.mono RSt.mono) inSts InF.nil)
  refine I.conv ?_
  rintro h a ⟨l, u⟩ ⟨b1, c1, rfl, _, hl, rfl⟩
  obtain ⟨v, e, rfl, v1, v2⟩ := hl.view
  exact ⟨l, ⟨v, rfl, ⟨e, v1, v2⟩, v1.leaf⟩, by dsimp only; omega⟩
end
end Go.Proofs.Ytbamgdknkhhikaa
namespace Go.Proofs
open Go.Shelf
def Ytbamgdknkhhikaa.sortL_ren : Go.Shelf.Ren := ⟨fun | 6 => 51 | 15 => 64 | 14 => 65 | 28 => 78 | 29 => 79 | 20 => 80 | 21 => 81 | 22 => 82 | 23 => 83 | 24 => 84 | 25 => 85 | 26 => 86 | 27 => 87 | 46 => 95 | 47 => 91 | 48 => 92 | 49 => 96 | 50 => 97 | 57 => 99 | n => n, fun | 22 => 105 | 24 => 85 | 25 => 107 | 3 => 3 | 39 => 121 | 0 => 0 | 53 => 135 | 55 => 137 | 4 => 4 | 46 => 128 | 45 => 127 | 50 => 132 | 5 => 5 | 9 => 9 | 66 => 145 | 70 => 149 | 76 => 153 | 77 => 154 | n => n, fun | n => n⟩
theorem Ytbamgdknkhhikaa.sortL : Go.Proofs.SlLaysF.n6 Try.prog Ytbamgdknkhhikaa.sortL_ren := {
  mixed := by kernel_rfl
  f6 := ⟨Try.f51.name, by decide, Try.func51.trans (congrArg some (by kernel_rfl))⟩
  f14 := ⟨Try.f65.name, by decide, Try.func65.trans (congrArg some (by kernel_rfl))⟩
  f15 := Try.func64.trans (congrArg some (by kernel_rfl))
  f20 := ⟨Try.f80.name, by decide, Try.func80.trans (congrArg some (by kernel_rfl))⟩
  f21 := ⟨Try.f81.name, by decide, Try.func81.trans (congrArg some (by kernel_rfl))⟩
  f22 := ⟨Try.f82.name, by decide, Try.func82.trans (congrArg some (by kernel_rfl))⟩
  f23 := ⟨Try.f83.name, by decide, Try.func83.trans (congrArg some (by kernel_rfl))⟩
  f24 := ⟨Try.f84.name, by decide, Try.func84.trans (congrArg some (by kernel_rfl))⟩
  f25 := ⟨Try.f85.name, by decide, Try.func85.trans (congrArg some (by kernel_rfl))⟩
  f26 := ⟨Try.f86.name, by decide, Try.func86.trans (congrArg some (by kernel_rfl))⟩
  f27 := ⟨Try.f87.name, by decide, Try.func87.trans (congrArg some (by kernel_rfl))⟩
  f28 := Try.func78.trans (congrArg some (by kernel_rfl))
  f29 := Try.func79.trans (congrArg some (by kernel_rfl))
  f46 := ⟨Try.f95.name, by decide, Try.func95.trans (congrArg some (by kernel_rfl))⟩
  f47 := Try.func91.trans (congrArg some (by kernel_rfl))
  f48 := Try.func92.trans (congrArg some (by kernel_rfl))
  f49 := ⟨Try.f96.name, by decide, Try.func96.trans (congrArg some (by kernel_rfl))⟩
  f50 := ⟨Try.f97.name, by decide, Try.func97.trans (congrArg some (by kernel_rfl))⟩
  f57 := ⟨Try.f99.name, by decide, Try.func99.trans (congrArg some (by kernel_rfl))⟩
  t0 := Try.underlying0
  a0 := Try.isAgg0
  z0 := Try.sizeOf0
  v0 := Try.zeroValue0
  t3 := Try.underlying3
  a3 := Try.isAgg3
  z3 := Try.sizeOf3
  v3 := Try.zeroValue3
  t4 := Try.underlying4
  a4 := Try.isAgg4
  z4 := Try.sizeOf4
  v4 := Try.zeroValue4
  t5 := Try.underlying5
  a5 := Try.isAgg5
  z5 := Try.sizeOf5
  v5 := Try.zeroValue5
  t9 := Try.underlying9
  a9 := Try.isAgg9
  z9 := Try.sizeOf9
  v9 := Try.zeroValue9
  t22 := Try.underlying105
  a22 := Try.isAgg105
  z22 := Try.sizeOf105
  v22 := Try.zeroValue105
  a24 := Try.isAgg85
  z24 := Try.sizeOf85
  t25 := Try.underlying107
  a25 := Try.isAgg107
  z25 := Try.sizeOf107
  v25 := Try.zeroValue107
  t39 := Try.underlying121
  a39 := Try.isAgg121
  z39 := Try.sizeOf121
  v39 := Try.zeroValue121
  t45 := Try.underlying127
  a45 := Try.isAgg127
  z45 := Try.sizeOf127
  v45 := Try.zeroValue127
  t46 := Try.underlying128
  a46 := Try.isAgg128
  z46 := Try.sizeOf128
  v46 := Try.zeroValue128
  t50 := Try.underlying132
  a50 := Try.isAgg132
  z50 := Try.sizeOf132
  v50 := Try.zeroValue132
  t53 := Try.underlying135
  a53 := Try.isAgg135
  z53 := Try.sizeOf135
  v53 := Try.zeroValue135
  t55 := Try.underlying137
  a55 := Try.isAgg137
  z55 := Try.sizeOf137
  v55 := Try.zeroValue137
  t66 := Try.underlying145
  a66 := Try.isAgg145
  z66 := Try.sizeOf145
  v66 := Try.zeroValue145
  t70 := Try.underlying149
  a70 := Try.isAgg149
  z70 := Try.sizeOf149
  v70 := Try.zeroValue149
  t76 := Try.underlying153
  a76 := Try.isAgg153
  z76 := Try.sizeOf153
  v76 := Try.zeroValue153
  t77 := Try.underlying154
  a77 := Try.isAgg154
  z77 := Try.sizeOf154
  v77 := Try.zeroValue154 }
def Ytbamgdknkhhikaa.sortK_ren : Go.Shelf.Ren := ⟨fun | 6 => 46 | 15 => 64 | 14 => 63 | 28 => 78 | 29 => 79 | 20 => 70 | 21 => 71 | 22 => 72 | 23 => 73 | 24 => 74 | 25 => 75 | 26 => 76 | 27 => 77 | 46 => 90 | 47 => 91 | 48 => 92 | 49 => 93 | 50 => 94 | 57 => 98 | n => n, fun | 22 => 100 | 24 => 84 | 25 => 102 | 3 => 3 | 39 => 121 | 0 => 0 | 53 => 135 | 55 => 137 | 4 => 4 | 46 => 128 | 45 => 127 | 50 => 132 | 5 => 5 | 9 => 9 | 66 => 145 | 70 => 149 | 76 => 153 | 77 => 154 | n => n, fun | n => n⟩
theorem Ytbamgdknkhhikaa.sortK : Go.Proofs.SlLaysF0.n6 Try.prog Ytbamgdknkhhikaa.sortK_ren := {
  mixed := by kernel_rfl
  f6 := ⟨Try.f46.name, by decide, Try.func46.trans (congrArg some (by kernel_rfl))⟩
  f14 := ⟨Try.f63.name, by decide, Try.func63.trans (congrArg some (by kernel_rfl))⟩
  f15 := Try.func64.trans (congrArg some (by kernel_rfl))
  f20 := ⟨Try.f70.name, by decide, Try.func70.trans (congrArg some (by kernel_rfl))⟩
  f21 := ⟨Try.f71.name, by decide, Try.func71.trans (congrArg some (by kernel_rfl))⟩
  f22 := ⟨Try.f72.name, by decide, Try.func72.trans (congrArg some (by kernel_rfl))⟩
  f23 := ⟨Try.f73.name, by decide, Try.func73.trans (congrArg some (by kernel_rfl))⟩
  f24 := ⟨Try.f74.name, by decide, Try.func74.trans (congrArg some (by kernel_rfl))⟩
  f25 := ⟨Try.f75.name, by decide, Try.func75.trans (congrArg some (by kernel_rfl))⟩
  f26 := ⟨Try.f76.name, by decide, Try.func76.trans (congrArg some (by kernel_rfl))⟩
  f27 := ⟨Try.f77.name, by decide, Try.func77.trans (congrArg some (by kernel_rfl))⟩
  f28 := Try.func78.trans (congrArg some (by kernel_rfl))
  f29 := Try.func79.trans (congrArg some (by kernel_rfl))
  f46 := ⟨Try.f90.name, by decide, Try.func90.trans (congrArg some (by kernel_rfl))⟩
  f47 := Try.func91.trans (congrArg some (by kernel_rfl))
  f48 := Try.func92.trans (congrArg some (by kernel_rfl))
  f49 := ⟨Try.f93.name, by decide, Try.func93.trans (congrArg some (by kernel_rfl))⟩
  f50 := ⟨Try.f94.name, by decide, Try.func94.trans (congrArg some (by kernel_rfl))⟩
  f57 := ⟨Try.f98.name, by decide, Try.func98.trans (congrArg some (by kernel_rfl))⟩
  t0 := Try.underlying0
  a0 := Try.isAgg0
  z0 := Try.sizeOf0
  v0 := Try.zeroValue0
  t3 := Try.underlying3
  a3 := Try.isAgg3
  z3 := Try.sizeOf3
  v3 := Try.zeroValue3
  t4 := Try.underlying4
  a4 := Try.isAgg4
  z4 := Try.sizeOf4
  v4 := Try.zeroValue4
  t5 := Try.underlying5
  a5 := Try.isAgg5
  z5 := Try.sizeOf5
  v5 := Try.zeroValue5
  t9 := Try.underlying9
  a9 := Try.isAgg9
  z9 := Try.sizeOf9
  v9 := Try.zeroValue9
  t22 := Try.underlying100
  a22 := Try.isAgg100
  z22 := Try.sizeOf100
  v22 := Try.zeroValue100
  t25 := Try.underlying102
  a25 := Try.isAgg102
  z25 := Try.sizeOf102
  v25 := Try.zeroValue102
  t39 := Try.underlying121
  a39 := Try.isAgg121
  z39 := Try.sizeOf121
  v39 := Try.zeroValue121
  t45 := Try.underlying127
  a45 := Try.isAgg127
  z45 := Try.sizeOf127
  v45 := Try.zeroValue127
  t46 := Try.underlying128
  a46 := Try.isAgg128
  z46 := Try.sizeOf128
  v46 := Try.zeroValue128
  t50 := Try.underlying132
  a50 := Try.isAgg132
  z50 := Try.sizeOf132
  v50 := Try.zeroValue132
  t53 := Try.underlying135
  a53 := Try.isAgg135
  z53 := Try.sizeOf135
  v53 := Try.zeroValue135
  t55 := Try.underlying137
  a55 := Try.isAgg137
  z55 := Try.sizeOf137
  v55 := Try.zeroValue137
  t66 := Try.underlying145
  a66 := Try.isAgg145
  z66 := Try.sizeOf145
  v66 := Try.zeroValue145
  t70 := Try.underlying149
  a70 := Try.isAgg149
  z70 := Try.sizeOf149
  v70 := Try.zeroValue149
  t76 := Try.underlying153
  a76 := Try.isAgg153
  z76 := Try.sizeOf153
  v76 := Try.zeroValue153
  t77 := Try.underlying154
  a77 := Try.isAgg154
  z77 := Try.sizeOf154
  v77 := Try.zeroValue154 }
end Go.Proofs
namespace Go.Proofs.Ytbamgdknkhhikaa
open Go.Ab
set_option linter.unusedVariables false
set_option maxRecDepth 100000 in
def c7_21 : ACode := .reg [gm 22 3, ⟨some 23, .bin .eql (.t 22) (.c (.int .i64 0)), none⟩, gm 24 23, ⟨some 25, .mv (.t 4), some (24, true)⟩, ⟨some 26, .bin .eql (.t 25) (.c (.int .i64 0)), some (24, true)⟩, ⟨some 27, .pick (.t 24) (.t 26) (.c (.bool false)), none⟩, gm 28 27, ⟨some 29, .mv (.t 5), some (28, true)⟩, ⟨some 30, .bin .eql (.t 29) (.c (.int .i64 1)), some (28, true)⟩, ⟨some 31, .pick (.t 28) (.t 30) (.c (.bool false)), none⟩, gm 32 31, ⟨some 33, .mv (.t 1), some (32, true)⟩, ⟨some 34, .load true 2 (.t 2), some (32, true)⟩, ⟨some 35, .call (.c (.fn (.func 24) [] [])) [.t 33, .t 34], some (32, true)⟩, ⟨some 36, .bin .eql (.t 35) (.c (.int .i64 1)), some (32, true)⟩, ⟨some 37, .pick (.t 32) (.t 36) (.c (.bool false)), none⟩, gm 38 37, ⟨some 39, .mv (.t 1), some (38, true)⟩, ⟨some 40, .call (.c (.fn (.func 23) [] [])) [.t 39], some (38, true)⟩, ⟨some 41, .bin .eql (.t 40) (.c (.int .i64 1)), some (38, true)⟩, ⟨some 42, .pick (.t 38) (.t 41) (.c (.bool false)), none⟩, gm 43 42, ⟨some 44, .mv (.t 1), some (43, true)⟩, ⟨some 45, .call (.c (.fn (.func 21) [] [])) [.t 44], some (43, true)⟩, ⟨some 46, .len 1 (.t 45), some (43, true)⟩, ⟨some 47, .bin .eql (.t 46) (.c (.int .i64 1)), some (43, true)⟩, ⟨some 48, .pick (.t 43) (.t 47) (.c (.bool false)), none⟩, gm 49 48, ⟨some 50, .mv (.t 1), some (49, true)⟩, ⟨some 51, .load true 2 (.t 2), some (49, true)⟩, ⟨some 52, .call (.c (.fn (.func 19) [] [])) [.t 50, .t 51], some (49, true)⟩, ⟨some 53, .bin .eql (.t 52) (.c (.int .i64 1)), some (49, true)⟩, ⟨some 54, .pick (.t 49) (.t 53) (.c (.bool false)), none⟩, gm 55 54, ⟨some 56, .mv (.t 1), some (55, true)⟩, ⟨some 57, .call (.c (.fn (.func 21) [] [])) [.t 56], some (55, true)⟩, ⟨some 58, .len 1 (.t 57), some (55, true)⟩, ⟨some 59, .bin .eql (.t 58) (.c (.int .i64 0)), some (55, true)⟩, ⟨some 60, .pick (.t 55) (.t 59) (.c (.bool false)), none⟩, gm 0 60]
def c7_0 : ACode := .seq (.reg [⟨some 0, .mv (.c (.bool false)), none⟩]) (.seq (.reg [⟨some 6, .call (.c (.fn (.func 8) [] [])) [], none⟩, gm 1 6]) (.seq (.seq (.reg [gm 7 1, ⟨some 8, .eq false .ptr (.t 7) (.c .nilPtr), none⟩]) (.cond (.t 8) (.seq (.reg [⟨some 0, .mv (.c (.bool false)), none⟩]) .ret) .skip)) (.seq (.reg [⟨some 9, .build [.int .i64 0, .bool false, .int .i64 0, .str [], .nilSlc] [(0, 1, .c (.int .i64 2)), (2, 1, .c (.int .i64 1))], none⟩, ⟨some 10, .bslice 1 5 [.int .i64 0, .bool false, .int .i64 0, .str [], .nilSlc] [(0, .t 9)], none⟩, ⟨some 11, .build [.str [], .nilSlc] [(0, 1, .c (.str [65])), (1, 1, .t 10)], none⟩, ⟨some 2, .alloc [.str [], .nilSlc], none⟩, ⟨none, .store 2 (.t 2) (.t 11), none⟩]) (.seq (.reg [gm 12 1, ⟨some 13, .load true 2 (.t 2), none⟩, ⟨some 14, .build [.int .i64 0, .nilSlc, .nilSlc] [(0, 1, .c (.int .i64 1))], none⟩, ⟨some 15, .call (.c (.fn (.func 10) [] [])) [.t 12, .t 13, .t 14], none⟩, gm 3 15]) (.seq (.reg [gm 16 1, ⟨some 17, .load true 2 (.t 2), none⟩, ⟨some 18, .build [.int .i64 0, .nilSlc, .nilSlc] [(0, 1, .c (.int .i64 2))], none⟩, ⟨some 19, .call (.c (.fn (.func 10) [] [])) [.t 16, .t 17, .t 18], none⟩, gm 4 19]) (.seq (.reg [gm 20 1, ⟨some 21, .call (.c (.fn (.func 13) [] [])) [.t 20, .c (.fn (.func 33) [] [])], none⟩, gm 5 21]) (.seq c7_21 .ret)))))))
def A7 : AFun := { np := 0, res := [(0, none)], body := c7_0 }
def c33_0 : ACode := .seq (.reg [⟨some 1, .box 3 (.t 0), none⟩, ⟨some 2, .mv (.c (.bool false)), none⟩]) (.seq (.reg [⟨some 3, .fadr 0 (.t 1), none⟩, ⟨some 4, .load false 1 (.t 3), none⟩, ⟨some 5, .bin .eql (.t 4) (.c (.int .i64 2)), none⟩, gm 2 5]) .ret)
def A33 : AFun := { np := 1, res := [(2, none)], body := c33_0 }
def c46_0 : ACode := .seq (.reg [gm 5 0, ⟨some 6, .len 1 (.t 5), none⟩, gm 4 6]) (.reg [gm 7 0, gm 8 4, gm 9 4, ⟨some 10, .conv .u64 (.t 9), none⟩, ⟨some 11, .call (.c (.fn (.func 64) [] [])) [.t 10], none⟩, gm 12 1, ⟨some 13, .call (.c (.fn (.func 63) [] [])) [.t 7, .c (.int .i64 0), .t 8, .t 11, .t 12], none⟩])
def A46 : AFun := { np := 2, res := [], body := c46_0 }
def c51_0 : ACode := .seq (.reg [gm 5 0, ⟨some 6, .len 1 (.t 5), none⟩, gm 4 6]) (.reg [gm 7 0, gm 8 4, gm 9 4, ⟨some 10, .conv .u64 (.t 9), none⟩, ⟨some 11, .call (.c (.fn (.func 64) [] [])) [.t 10], none⟩, gm 12 1, ⟨some 13, .call (.c (.fn (.func 65) [] [])) [.t 7, .c (.int .i64 0), .t 8, .t 11, .t 12], none⟩])
def A51 : AFun := { np := 2, res := [], body := c51_0 }
def c63_67 : ACode := .seq (.reg [gm 114 17, gm 11 114]) (.seq (.reg [gm 115 16, gm 116 1, ⟨some 117, .bin .sub (.t 115) (.t 116), none⟩, gm 118 2, gm 119 16, ⟨some 120, .bin .sub (.t 118) (.t 119), none⟩, gm 18 117, gm 19 120]) (.seq (.reg [gm 121 12, ⟨some 122, .bin .quo (.t 121) (.c (.int .i64 8)), none⟩, gm 20 122]) (.seq (.reg [gm 123 18, gm 124 19, ⟨some 125, .bin .lss (.t 123) (.t 124), none⟩]) (.cond (.t 125) (.seq (.reg [gm 126 18, gm 127 20, ⟨some 128, .bin .geq (.t 126) (.t 127), none⟩, gm 10 128]) (.seq (.reg [gm 129 0, gm 130 1, gm 131 16, gm 132 3, gm 133 4, ⟨some 134, .call (.c (.fn (.func 63) [] [])) [.t 129, .t 130, .t 131, .t 132, .t 133], none⟩]) (.reg [gm 135 16, ⟨some 136, .bin .add (.t 135) (.c (.int .i64 1)), none⟩, gm 1 136]))) (.seq (.reg [gm 137 19, gm 138 20, ⟨some 139, .bin .geq (.t 137) (.t 138), none⟩, gm 10 139]) (.seq (.reg [gm 140 0, gm 141 16, ⟨some 142, .bin .add (.t 141) (.c (.int .i64 1)), none⟩, gm 143 2, gm 144 3, gm 145 4, ⟨some 146, .call (.c (.fn (.func 63) [] [])) [.t 140, .t 142, .t 143, .t 144, .t 145], none⟩]) (.reg [gm 147 16, gm 2 147])))))))
def c63_55 : ACode := .seq (.seq (.dreg [gm 81 1, ⟨some 82, .bin .gtr (.t 81) (.c (.int .i64 0)), none⟩, gm 83 82, ⟨some 84, .mv (.t 4), some (83, true)⟩, ⟨some 85, .mv (.t 0), some (83, true)⟩, ⟨some 86, .mv (.t 1), some (83, true)⟩, ⟨some 87, .bin .sub (.t 86) (.c (.int .i64 1)), some (83, true)⟩, ⟨some 88, .iadr 2 (.t 85) (.t 87), some (83, true)⟩, ⟨some 89, .load true 2 (.t 88), some (83, true)⟩, ⟨some 90, .mv (.t 0), some (83, true)⟩, ⟨some 91, .mv (.t 13), some (83, true)⟩, ⟨some 92, .iadr 2 (.t 90) (.t 91), some (83, true)⟩, ⟨some 93, .load true 2 (.t 92), some (83, true)⟩] [(⟨some 94, .call (.t 84) [.t 89, .t 93], some (83, true)⟩, [], [⟨some 95, .bin .lss (.t 94) (.c (.int .i64 0)), some (83, true)⟩, ⟨some 96, .not (.t 95), some (83, true)⟩, ⟨some 97, .pick (.t 83) (.t 96) (.c (.bool false)), none⟩])]) (.cond (.t 97) (.seq (.reg [gm 98 0, gm 99 1, gm 100 2, gm 101 13, gm 102 4, ⟨some 103, .call (.c (.fn (.func 76) [] [])) [.t 98, .t 99, .t 100, .t 101, .t 102], none⟩, gm 15 103]) (.seq (.reg [gm 104 15, gm 1 104]) (.exit 1))) .skip)) (.seq (.reg [gm 106 0, gm 107 1, gm 108 2, gm 109 13, gm 110 4, ⟨some 111, .call (.c (.fn (.func 77) [] [])) [.t 106, .t 107, .t 108, .t 109, .t 110], none⟩, gm 105 111, ⟨some 112, .ext (.t 105) 0, none⟩, ⟨some 113, .ext (.t 105) 1, none⟩, gm 16 112, gm 17 113]) c63_67)
def c63_45 : ACode := .seq (.seq (.reg [gm 68 10, gm 69 68, ⟨some 70, .mv (.t 11), some (69, true)⟩, ⟨some 71, .pick (.t 69) (.t 70) (.c (.bool false)), none⟩, gm 72 71, ⟨some 73, .mv (.t 14), some (72, true)⟩, ⟨some 74, .bin .eql (.t 73) (.c (.int .i64 1)), some (72, true)⟩, ⟨some 75, .pick (.t 72) (.t 74) (.c (.bool false)), none⟩]) (.cond (.t 75) (.seq (.reg [gm 76 0, gm 77 1, gm 78 2, gm 79 4, ⟨some 80, .call (.c (.fn (.func 75) [] [])) [.t 76, .t 77, .t 78, .t 79], none⟩]) (.cond (.t 80) .ret .skip)) .skip)) c63_55
def c63_33 : ACode := .seq (.reg [gm 48 0, gm 49 1, gm 50 2, gm 51 4, ⟨some 52, .call (.c (.fn (.func 73) [] [])) [.t 48, .t 49, .t 50, .t 51], none⟩, gm 47 52, ⟨some 53, .ext (.t 47) 0, none⟩, ⟨some 54, .ext (.t 47) 1, none⟩, gm 13 53, gm 14 54]) (.seq (.seq (.reg [gm 55 14, ⟨some 56, .bin .eql (.t 55) (.c (.int .i64 2)), none⟩]) (.cond (.t 56) (.seq (.reg [gm 57 0, gm 58 1, gm 59 2, gm 60 4, ⟨some 61, .call (.c (.fn (.func 74) [] [])) [.t 57, .t 58, .t 59, .t 60], none⟩]) (.seq (.reg [gm 62 2, ⟨some 63, .bin .sub (.t 62) (.c (.int .i64 1)), none⟩, gm 64 13, gm 65 1, ⟨some 66, .bin .sub (.t 64) (.t 65), none⟩, ⟨some 67, .bin .sub (.t 63) (.t 66), none⟩, gm 13 67]) (.reg [⟨some 14, .mv (.c (.int .i64 1)), none⟩]))) .skip)) c63_45)
def c63_6 : ACode := .block 1 (.seq (.reg [gm 21 2, gm 22 1, ⟨some 23, .bin .sub (.t 21) (.t 22), none⟩, gm 12 23]) (.seq (.seq (.reg [gm 24 12, ⟨some 25, .bin .leq (.t 24) (.c (.int .i64 12)), none⟩]) (.cond (.t 25) (.seq (.reg [gm 26 0, gm 27 1, gm 28 2, gm 29 4, ⟨some 30, .call (.c (.fn (.func 70) [] [])) [.t 26, .t 27, .t 28, .t 29], none⟩]) .ret) .skip)) (.seq (.seq (.reg [gm 31 3, ⟨some 32, .bin .eql (.t 31) (.c (.int .i64 0)), none⟩]) (.cond (.t 32) (.seq (.reg [gm 33 0, gm 34 1, gm 35 2, gm 36 4, ⟨some 37, .call (.c (.fn (.func 71) [] [])) [.t 33, .t 34, .t 35, .t 36], none⟩]) .ret) .skip)) (.seq (.seq (.reg [gm 38 10, ⟨some 39, .not (.t 38), none⟩]) (.cond (.t 39) (.seq (.reg [gm 40 0, gm 41 1, gm 42 2, gm 43 4, ⟨some 44, .call (.c (.fn (.func 72) [] [])) [.t 40, .t 41, .t 42, .t 43], none⟩]) (.reg [gm 45 3, ⟨some 46, .bin .sub (.t 45) (.c (.int .i64 1)), none⟩, gm 3 46])) .skip)) c63_33))))
def c63_0 : ACode := .seq (.reg [⟨some 10, .mv (.c (.bool true)), none⟩]) (.seq (.reg [⟨some 11, .mv (.c (.bool true)), none⟩]) (.block 0 (.loop c63_6)))
def A63 : AFun := { np := 5, res := [], body := c63_0 }
def c64_0 : ACode := .seq (.reg [⟨some 2, .mv (.c (.int .i64 0)), none⟩]) (.seq (.cond (.c (.bool false)) (.seq (.reg [gm 3 0, ⟨some 4, .conv .u32 (.t 3), none⟩, ⟨some 5, .call (.c (.fn (.func 78) [] [])) [.t 4], none⟩, gm 2 5]) .ret) .skip) (.seq (.reg [gm 6 0, ⟨some 7, .call (.c (.fn (.func 79) [] [])) [.t 6], none⟩, gm 2 7]) .ret))
def A64 : AFun := { np := 1, res := [(2, none)], body := c64_0 }
def c65_67 : ACode := .seq (.reg [gm 114 17, gm 11 114]) (.seq (.reg [gm 115 16, gm 116 1, ⟨some 117, .bin .sub (.t 115) (.t 116), none⟩, gm 118 2, gm 119 16, ⟨some 120, .bin .sub (.t 118) (.t 119), none⟩, gm 18 117, gm 19 120]) (.seq (.reg [gm 121 12, ⟨some 122, .bin .quo (.t 121) (.c (.int .i64 8)), none⟩, gm 20 122]) (.seq (.reg [gm 123 18, gm 124 19, ⟨some 125, .bin .lss (.t 123) (.t 124), none⟩]) (.cond (.t 125) (.seq (.reg [gm 126 18, gm 127 20, ⟨some 128, .bin .geq (.t 126) (.t 127), none⟩, gm 10 128]) (.seq (.reg [gm 129 0, gm 130 1, gm 131 16, gm 132 3, gm 133 4, ⟨some 134, .call (.c (.fn (.func 65) [] [])) [.t 129, .t 130, .t 131, .t 132, .t 133], none⟩]) (.reg [gm 135 16, ⟨some 136, .bin .add (.t 135) (.c (.int .i64 1)), none⟩, gm 1 136]))) (.seq (.reg [gm 137 19, gm 138 20, ⟨some 139, .bin .geq (.t 137) (.t 138), none⟩, gm 10 139]) (.seq (.reg [gm 140 0, gm 141 16, ⟨some 142, .bin .add (.t 141) (.c (.int .i64 1)), none⟩, gm 143 2, gm 144 3, gm 145 4, ⟨some 146, .call (.c (.fn (.func 65) [] [])) [.t 140, .t 142, .t 143, .t 144, .t 145], none⟩]) (.reg [gm 147 16, gm 2 147])))))))
def c65_55 : ACode := .seq (.seq (.dreg [gm 81 1, ⟨some 82, .bin .gtr (.t 81) (.c (.int .i64 0)), none⟩, gm 83 82, ⟨some 84, .mv (.t 4), some (83, true)⟩, ⟨some 85, .mv (.t 0), some (83, true)⟩, ⟨some 86, .mv (.t 1), some (83, true)⟩, ⟨some 87, .bin .sub (.t 86) (.c (.int .i64 1)), some (83, true)⟩, ⟨some 88, .iadr 1 (.t 85) (.t 87), some (83, true)⟩, ⟨some 89, .load false 1 (.t 88), some (83, true)⟩, ⟨some 90, .mv (.t 0), some (83, true)⟩, ⟨some 91, .mv (.t 13), some (83, true)⟩, ⟨some 92, .iadr 1 (.t 90) (.t 91), some (83, true)⟩, ⟨some 93, .load false 1 (.t 92), some (83, true)⟩] [(⟨some 94, .call (.t 84) [.t 89, .t 93], some (83, true)⟩, [], [⟨some 95, .bin .lss (.t 94) (.c (.int .i64 0)), some (83, true)⟩, ⟨some 96, .not (.t 95), some (83, true)⟩, ⟨some 97, .pick (.t 83) (.t 96) (.c (.bool false)), none⟩])]) (.cond (.t 97) (.seq (.reg [gm 98 0, gm 99 1, gm 100 2, gm 101 13, gm 102 4, ⟨some 103, .call (.c (.fn (.func 86) [] [])) [.t 98, .t 99, .t 100, .t 101, .t 102], none⟩, gm 15 103]) (.seq (.reg [gm 104 15, gm 1 104]) (.exit 1))) .skip)) (.seq (.reg [gm 106 0, gm 107 1, gm 108 2, gm 109 13, gm 110 4, ⟨some 111, .call (.c (.fn (.func 87) [] [])) [.t 106, .t 107, .t 108, .t 109, .t 110], none⟩, gm 105 111, ⟨some 112, .ext (.t 105) 0, none⟩, ⟨some 113, .ext (.t 105) 1, none⟩, gm 16 112, gm 17 113]) c65_67)
def c65_45 : ACode := .seq (.seq (.reg [gm 68 10, gm 69 68, ⟨some 70, .mv (.t 11), some (69, true)⟩, ⟨some 71, .pick (.t 69) (.t 70) (.c (.bool false)), none⟩, gm 72 71, ⟨some 73, .mv (.t 14), some (72, true)⟩, ⟨some 74, .bin .eql (.t 73) (.c (.int .i64 1)), some (72, true)⟩, ⟨some 75, .pick (.t 72) (.t 74) (.c (.bool false)), none⟩]) (.cond (.t 75) (.seq (.reg [gm 76 0, gm 77 1, gm 78 2, gm 79 4, ⟨some 80, .call (.c (.fn (.func 85) [] [])) [.t 76, .t 77, .t 78, .t 79], none⟩]) (.cond (.t 80) .ret .skip)) .skip)) c65_55
def c65_33 : ACode := .seq (.reg [gm 48 0, gm 49 1, gm 50 2, gm 51 4, ⟨some 52, .call (.c (.fn (.func 83) [] [])) [.t 48, .t 49, .t 50, .t 51], none⟩, gm 47 52, ⟨some 53, .ext (.t 47) 0, none⟩, ⟨some 54, .ext (.t 47) 1, none⟩, gm 13 53, gm 14 54]) (.seq (.seq (.reg [gm 55 14, ⟨some 56, .bin .eql (.t 55) (.c (.int .i64 2)), none⟩]) (.cond (.t 56) (.seq (.reg [gm 57 0, gm 58 1, gm 59 2, gm 60 4, ⟨some 61, .call (.c (.fn (.func 84) [] [])) [.t 57, .t 58, .t 59, .t 60], none⟩]) (.seq (.reg [gm 62 2, ⟨some 63, .bin .sub (.t 62) (.c (.int .i64 1)), none⟩, gm 64 13, gm 65 1, ⟨some 66, .bin .sub (.t 64) (.t 65), none⟩, ⟨some 67, .bin .sub (.t 63) (.t 66), none⟩, gm 13 67]) (.reg [⟨some 14, .mv (.c (.int .i64 1)), none⟩]))) .skip)) c65_45)
def c65_6 : ACode := .block 1 (.seq (.reg [gm 21 2, gm 22 1, ⟨some 23, .bin .sub (.t 21) (.t 22), none⟩, gm 12 23]) (.seq (.seq (.reg [gm 24 12, ⟨some 25, .bin .leq (.t 24) (.c (.int .i64 12)), none⟩]) (.cond (.t 25) (.seq (.reg [gm 26 0, gm 27 1, gm 28 2, gm 29 4, ⟨some 30, .call (.c (.fn (.func 80) [] [])) [.t 26, .t 27, .t 28, .t 29], none⟩]) .ret) .skip)) (.seq (.seq (.reg [gm 31 3, ⟨some 32, .bin .eql (.t 31) (.c (.int .i64 0)), none⟩]) (.cond (.t 32) (.seq (.reg [gm 33 0, gm 34 1, gm 35 2, gm 36 4, ⟨some 37, .call (.c (.fn (.func 81) [] [])) [.t 33, .t 34, .t 35, .t 36], none⟩]) .ret) .skip)) (.seq (.seq (.reg [gm 38 10, ⟨some 39, .not (.t 38), none⟩]) (.cond (.t 39) (.seq (.reg [gm 40 0, gm 41 1, gm 42 2, gm 43 4, ⟨some 44, .call (.c (.fn (.func 82) [] [])) [.t 40, .t 41, .t 42, .t 43], none⟩]) (.reg [gm 45 3, ⟨some 46, .bin .sub (.t 45) (.c (.int .i64 1)), none⟩, gm 3 46])) .skip)) c65_33))))
def c65_0 : ACode := .seq (.reg [⟨some 10, .mv (.c (.bool true)), none⟩]) (.seq (.reg [⟨some 11, .mv (.c (.bool true)), none⟩]) (.block 0 (.loop c65_6)))
def A65 : AFun := { np := 5, res := [], body := c65_0 }
def c70_26 : ACode := .reg [gm 15 8, ⟨some 16, .bin .add (.t 15) (.c (.int .i64 1)), none⟩, gm 8 16]
def c70_16 : ACode := .seq (.seq (.dreg [gm 18 9, gm 19 1, ⟨some 20, .bin .gtr (.t 18) (.t 19), none⟩, gm 21 20, ⟨some 22, .mv (.t 3), some (21, true)⟩, ⟨some 23, .mv (.t 0), some (21, true)⟩, ⟨some 24, .mv (.t 9), some (21, true)⟩, ⟨some 25, .iadr 2 (.t 23) (.t 24), some (21, true)⟩, ⟨some 26, .load true 2 (.t 25), some (21, true)⟩, ⟨some 27, .mv (.t 0), some (21, true)⟩, ⟨some 28, .mv (.t 9), some (21, true)⟩, ⟨some 29, .bin .sub (.t 28) (.c (.int .i64 1)), some (21, true)⟩, ⟨some 30, .iadr 2 (.t 27) (.t 29), some (21, true)⟩, ⟨some 31, .load true 2 (.t 30), some (21, true)⟩] [(⟨some 32, .call (.t 22) [.t 26, .t 31], some (21, true)⟩, [], [⟨some 33, .bin .lss (.t 32) (.c (.int .i64 0)), some (21, true)⟩, ⟨some 34, .pick (.t 21) (.t 33) (.c (.bool false)), none⟩])]) (.cond (.t 34) .skip (.exit 2))) (.seq (.block 3 (.dreg [gm 37 0, gm 38 9, gm 39 0, gm 40 9, ⟨some 41, .bin .sub (.t 40) (.c (.int .i64 1)), none⟩, gm 42 0, gm 43 9, ⟨some 44, .bin .sub (.t 43) (.c (.int .i64 1)), none⟩, ⟨some 45, .iadr 2 (.t 42) (.t 44), none⟩, ⟨some 46, .load true 2 (.t 45), none⟩, gm 47 0, gm 48 9, ⟨some 49, .iadr 2 (.t 47) (.t 48), none⟩, ⟨some 50, .load true 2 (.t 49), none⟩, ⟨some 51, .iadr 2 (.t 37) (.t 38), none⟩] [(⟨none, .store 2 (.t 51) (.t 46), none⟩, [], [⟨some 52, .iadr 2 (.t 39) (.t 41), none⟩]), (⟨none, .store 2 (.t 52) (.t 50), none⟩, [], [])])) (.reg [gm 35 9, ⟨some 36, .bin .sub (.t 35) (.c (.int .i64 1)), none⟩, gm 9 36]))
def c70_10 : ACode := .seq (.block 1 (.seq (.reg [gm 17 8, gm 9 17]) (.block 2 (.loop c70_16)))) c70_26
def c70_4 : ACode := .seq (.seq (.reg [gm 12 8, gm 13 2, ⟨some 14, .bin .lss (.t 12) (.t 13), none⟩]) (.cond (.t 14) .skip (.exit 0))) c70_10
def c70_0 : ACode := .seq (.reg [gm 10 1, ⟨some 11, .bin .add (.t 10) (.c (.int .i64 1)), none⟩, gm 8 11]) (.block 0 (.loop c70_4))
def A70 : AFun := { np := 4, res := [], body := c70_0 }
def c78_18 : ACode := .seq (.reg [gm 13 2, gm 14 0, ⟨some 15, .conv .u8 (.t 14), none⟩, ⟨some 16, .idxs (.c (.str [0, 1, 2, 2, 3, 3, 3, 3, 4, 4, 4, 4, 4, 4, 4, 4, 5, 5, 5, 5, 5, 5, 5, 5, 5, 5, 5, 5, 5, 5, 5, 5, 6, 6, 6, 6, 6, 6, 6, 6, 6, 6, 6, 6, 6, 6, 6, 6, 6, 6, 6, 6, 6, 6, 6, 6, 6, 6, 6, 6, 6, 6, 6, 6, 7, 7, 7, 7, 7, 7, 7, 7, 7, 7, 7, 7, 7, 7, 7, 7, 7, 7, 7, 7, 7, 7, 7, 7, 7, 7, 7, 7, 7, 7, 7, 7, 7, 7, 7, 7, 7, 7, 7, 7, 7, 7, 7, 7, 7, 7, 7, 7, 7, 7, 7, 7, 7, 7, 7, 7, 7, 7, 7, 7, 7, 7, 7, 7, 8, 8, 8, 8, 8, 8, 8, 8, 8, 8, 8, 8, 8, 8, 8, 8, 8, 8, 8, 8, 8, 8, 8, 8, 8, 8, 8, 8, 8, 8, 8, 8, 8, 8, 8, 8, 8, 8, 8, 8, 8, 8, 8, 8, 8, 8, 8, 8, 8, 8, 8, 8, 8, 8, 8, 8, 8, 8, 8, 8, 8, 8, 8, 8, 8, 8, 8, 8, 8, 8, 8, 8, 8, 8, 8, 8, 8, 8, 8, 8, 8, 8, 8, 8, 8, 8, 8, 8, 8, 8, 8, 8, 8, 8, 8, 8, 8, 8, 8, 8, 8, 8, 8, 8, 8, 8, 8, 8, 8, 8, 8, 8, 8, 8, 8, 8, 8, 8, 8, 8, 8, 8, 8, 8, 8, 8, 8, 8])) (.t 15), none⟩, ⟨some 17, .conv .i64 (.t 16), none⟩, ⟨some 18, .bin .add (.t 13) (.t 17), none⟩, gm 2 18]) .ret
def c78_10 : ACode := .seq (.seq (.reg [gm 7 0, ⟨some 8, .bin .geq (.t 7) (.c (.int .u32 256)), none⟩]) (.cond (.t 8) (.seq (.reg [gm 9 0, ⟨some 10, .bin .shr (.t 9) (.c (.int .u64 8)), none⟩, gm 0 10]) (.reg [gm 11 2, ⟨some 12, .bin .add (.t 11) (.c (.int .i64 8)), none⟩, gm 2 12])) .skip)) c78_18
def c78_0 : ACode := .seq (.reg [⟨some 2, .mv (.c (.int .i64 0)), none⟩]) (.seq (.seq (.reg [gm 3 0, ⟨some 4, .bin .geq (.t 3) (.c (.int .u32 65536)), none⟩]) (.cond (.t 4) (.seq (.reg [gm 5 0, ⟨some 6, .bin .shr (.t 5) (.c (.int .u64 16)), none⟩, gm 0 6]) (.reg [⟨some 2, .mv (.c (.int .i64 16)), none⟩])) .skip)) c78_10)
def A78 : AFun := { np := 1, res := [(2, none)], body := c78_0 }
def c79_26 : ACode := .seq (.reg [gm 19 2, gm 20 0, ⟨some 21, .conv .u8 (.t 20), none⟩, ⟨some 22, .idxs (.c (.str [0, 1, 2, 2, 3, 3, 3, 3, 4, 4, 4, 4, 4, 4, 4, 4, 5, 5, 5, 5, 5, 5, 5, 5, 5, 5, 5, 5, 5, 5, 5, 5, 6, 6, 6, 6, 6, 6, 6, 6, 6, 6, 6, 6, 6, 6, 6, 6, 6, 6, 6, 6, 6, 6, 6, 6, 6, 6, 6, 6, 6, 6, 6, 6, 7, 7, 7, 7, 7, 7, 7, 7, 7, 7, 7, 7, 7, 7, 7, 7, 7, 7, 7, 7, 7, 7, 7, 7, 7, 7, 7, 7, 7, 7, 7, 7, 7, 7, 7, 7, 7, 7, 7, 7, 7, 7, 7, 7, 7, 7, 7, 7, 7, 7, 7, 7, 7, 7, 7, 7, 7, 7, 7, 7, 7, 7, 7, 7, 8, 8, 8, 8, 8, 8, 8, 8, 8, 8, 8, 8, 8, 8, 8, 8, 8, 8, 8, 8, 8, 8, 8, 8, 8, 8, 8, 8, 8, 8, 8, 8, 8, 8, 8, 8, 8, 8, 8, 8, 8, 8, 8, 8, 8, 8, 8, 8, 8, 8, 8, 8, 8, 8, 8, 8, 8, 8, 8, 8, 8, 8, 8, 8, 8, 8, 8, 8, 8, 8, 8, 8, 8, 8, 8, 8, 8, 8, 8, 8, 8, 8, 8, 8, 8, 8, 8, 8, 8, 8, 8, 8, 8, 8, 8, 8, 8, 8, 8, 8, 8, 8, 8, 8, 8, 8, 8, 8, 8, 8, 8, 8, 8, 8, 8, 8, 8, 8, 8, 8, 8, 8, 8, 8, 8, 8, 8, 8])) (.t 21), none⟩, ⟨some 23, .conv .i64 (.t 22), none⟩, ⟨some 24, .bin .add (.t 19) (.t 23), none⟩, gm 2 24]) .ret
def c79_18 : ACode := .seq (.seq (.reg [gm 13 0, ⟨some 14, .bin .geq (.t 13) (.c (.int .u64 256)), none⟩]) (.cond (.t 14) (.seq (.reg [gm 15 0, ⟨some 16, .bin .shr (.t 15) (.c (.int .u64 8)), none⟩, gm 0 16]) (.reg [gm 17 2, ⟨some 18, .bin .add (.t 17) (.c (.int .i64 8)), none⟩, gm 2 18])) .skip)) c79_26
def c79_10 : ACode := .seq (.seq (.reg [gm 7 0, ⟨some 8, .bin .geq (.t 7) (.c (.int .u64 65536)), none⟩]) (.cond (.t 8) (.seq (.reg [gm 9 0, ⟨some 10, .bin .shr (.t 9) (.c (.int .u64 16)), none⟩, gm 0 10]) (.reg [gm 11 2, ⟨some 12, .bin .add (.t 11) (.c (.int .i64 16)), none⟩, gm 2 12])) .skip)) c79_18
def c79_0 : ACode := .seq (.reg [⟨some 2, .mv (.c (.int .i64 0)), none⟩]) (.seq (.seq (.reg [gm 3 0, ⟨some 4, .bin .geq (.t 3) (.c (.int .u64 4294967296)), none⟩]) (.cond (.t 4) (.seq (.reg [gm 5 0, ⟨some 6, .bin .shr (.t 5) (.c (.int .u64 32)), none⟩, gm 0 6]) (.reg [⟨some 2, .mv (.c (.int .i64 32)), none⟩])) .skip)) c79_10)
def A79 : AFun := { np := 1, res := [(2, none)], body := c79_0 }
def c80_26 : ACode := .reg [gm 15 8, ⟨some 16, .bin .add (.t 15) (.c (.int .i64 1)), none⟩, gm 8 16]
def c80_16 : ACode := .seq (.seq (.dreg [gm 18 9, gm 19 1, ⟨some 20, .bin .gtr (.t 18) (.t 19), none⟩, gm 21 20, ⟨some 22, .mv (.t 3), some (21, true)⟩, ⟨some 23, .mv (.t 0), some (21, true)⟩, ⟨some 24, .mv (.t 9), some (21, true)⟩, ⟨some 25, .iadr 1 (.t 23) (.t 24), some (21, true)⟩, ⟨some 26, .load false 1 (.t 25), some (21, true)⟩, ⟨some 27, .mv (.t 0), some (21, true)⟩, ⟨some 28, .mv (.t 9), some (21, true)⟩, ⟨some 29, .bin .sub (.t 28) (.c (.int .i64 1)), some (21, true)⟩, ⟨some 30, .iadr 1 (.t 27) (.t 29), some (21, true)⟩, ⟨some 31, .load false 1 (.t 30), some (21, true)⟩] [(⟨some 32, .call (.t 22) [.t 26, .t 31], some (21, true)⟩, [], [⟨some 33, .bin .lss (.t 32) (.c (.int .i64 0)), some (21, true)⟩, ⟨some 34, .pick (.t 21) (.t 33) (.c (.bool false)), none⟩])]) (.cond (.t 34) .skip (.exit 2))) (.seq (.block 3 (.dreg [gm 37 0, gm 38 9, gm 39 0, gm 40 9, ⟨some 41, .bin .sub (.t 40) (.c (.int .i64 1)), none⟩, gm 42 0, gm 43 9, ⟨some 44, .bin .sub (.t 43) (.c (.int .i64 1)), none⟩, ⟨some 45, .iadr 1 (.t 42) (.t 44), none⟩, ⟨some 46, .load false 1 (.t 45), none⟩, gm 47 0, gm 48 9, ⟨some 49, .iadr 1 (.t 47) (.t 48), none⟩, ⟨some 50, .load false 1 (.t 49), none⟩, ⟨some 51, .iadr 1 (.t 37) (.t 38), none⟩] [(⟨none, .store 1 (.t 51) (.t 46), none⟩, [], [⟨some 52, .iadr 1 (.t 39) (.t 41), none⟩]), (⟨none, .store 1 (.t 52) (.t 50), none⟩, [], [])])) (.reg [gm 35 9, ⟨some 36, .bin .sub (.t 35) (.c (.int .i64 1)), none⟩, gm 9 36]))
def c80_10 : ACode := .seq (.block 1 (.seq (.reg [gm 17 8, gm 9 17]) (.block 2 (.loop c80_16)))) c80_26
def c80_4 : ACode := .seq (.seq (.reg [gm 12 8, gm 13 2, ⟨some 14, .bin .lss (.t 12) (.t 13), none⟩]) (.cond (.t 14) .skip (.exit 0))) c80_10
def c80_0 : ACode := .seq (.reg [gm 10 1, ⟨some 11, .bin .add (.t 10) (.c (.int .i64 1)), none⟩, gm 8 11]) (.block 0 (.loop c80_4))
def A80 : AFun := { np := 4, res := [], body := c80_0 }
end Go.Proofs.Ytbamgdknkhhikaa
namespace Go.Proofs.Ytbamgdknkhhikaa
open Go.Ab
def tblW : List (Nat × AFun) := [(7, A7), (8, A8), (10, A10), (13, A13), (19, A19), (21, A21), (23, A23), (24, A24), (33, A33), (35, A35), (36, A36), (37, A37), (38, A38), (39, A39), (40, A40), (41, A41), (46, A46), (47, A47), (48, A48), (51, A51), (52, A52), (55, A55), (56, A56), (57, A57), (58, A58), (59, A59), (60, A60), (61, A61), (63, A63), (64, A64), (65, A65), (66, A66), (67, A67), (68, A68), (69, A69), (70, A70), (78, A78), (79, A79), (80, A80), (88, A88), (89, A89)]
set_option maxRecDepth 1000000 in
theorem runW : callN (envT tblW) 300 (.func 7) [] AHeap.empty (fun v _ => isTrue v) = true := by kernel_rfl
end Go.Proofs.Ytbamgdknkhhikaa
namespace Go.Proofs.Ytbamgdknkhhikaa
open Go.Ab
theorem t5 : compFn Try.prog Try.f5 = some (stripF A5) := by kernel_rfl
theorem t6 : compFn Try.prog Try.f6 = some (stripF A6) := by kernel_rfl
theorem t7 : compFn Try.prog Try.f7 = some (stripF A7) := by kernel_rfl
theorem t8 : compFn Try.prog Try.f8 = some (stripF A8) := by kernel_rfl
theorem t10 : compFn Try.prog Try.f10 = some (stripF A10) := by kernel_rfl
theorem t13 : compFn Try.prog Try.f13 = some (stripF A13) := by kernel_rfl
theorem t19 : compFn Try.prog Try.f19 = some (stripF A19) := by kernel_rfl
theorem t21 : compFn Try.prog Try.f21 = some (stripF A21) := by kernel_rfl
theorem t23 : compFn Try.prog Try.f23 = some (stripF A23) := by kernel_rfl
theorem t24 : compFn Try.prog Try.f24 = some (stripF A24) := by kernel_rfl
theorem t30 : compFn Try.prog Try.f30 = some (stripF A30) := by kernel_rfl
theorem t31 : compFn Try.prog Try.f31 = some (stripF A31) := by kernel_rfl
theorem t32 : compFn Try.prog Try.f32 = some (stripF A32) := by kernel_rfl
theorem t33 : compFn Try.prog Try.f33 = some (stripF A33) := by kernel_rfl
theorem t35 : compFn Try.prog Try.f35 = some (stripF A35) := by kernel_rfl
theorem t36 : compFn Try.prog Try.f36 = some (stripF A36) := by kernel_rfl
theorem t37 : compFn Try.prog Try.f37 = some (stripF A37) := by kernel_rfl
theorem t38 : compFn Try.prog Try.f38 = some (stripF A38) := by kernel_rfl
theorem t39 : compFn Try.prog Try.f39 = some (stripF A39) := by kernel_rfl
theorem t40 : compFn Try.prog Try.f40 = some (stripF A40) := by kernel_rfl
theorem t41 : compFn Try.prog Try.f41 = some (stripF A41) := by kernel_rfl
theorem t46 : compFn Try.prog Try.f46 = some (stripF A46) := by kernel_rfl
theorem t47 : compFn Try.prog Try.f47 = some (stripF A47) := by kernel_rfl
theorem t48 : compFn Try.prog Try.f48 = some (stripF A48) := by kernel_rfl
theorem t51 : compFn Try.prog Try.f51 = some (stripF A51) := by kernel_rfl
theorem t52 : compFn Try.prog Try.f52 = some (stripF A52) := by kernel_rfl
theorem t54 : compFn Try.prog Try.f54 = some (stripF A54) := by kernel_rfl
theorem t55 : compFn Try.prog Try.f55 = some (stripF A55) := by kernel_rfl
theorem t56 : compFn Try.prog Try.f56 = some (stripF A56) := by kernel_rfl
theorem t57 : compFn Try.prog Try.f57 = some (stripF A57) := by kernel_rfl
theorem t58 : compFn Try.prog Try.f58 = some (stripF A58) := by kernel_rfl
theorem t59 : compFn Try.prog Try.f59 = some (stripF A59) := by kernel_rfl
theorem t60 : compFn Try.prog Try.f60 = some (stripF A60) := by kernel_rfl
theorem t61 : compFn Try.prog Try.f61 = some (stripF A61) := by kernel_rfl
theorem t63 : compFn Try.prog Try.f63 = some (stripF A63) := by kernel_rfl
theorem t64 : compFn Try.prog Try.f64 = some (stripF A64) := by kernel_rfl
theorem t65 : compFn Try.prog Try.f65 = some (stripF A65) := by kernel_rfl
theorem t66 : compFn Try.prog Try.f66 = some (stripF A66) := by kernel_rfl
theorem t67 : compFn Try.prog Try.f67 = some (stripF A67) := by kernel_rfl
theorem t68 : compFn Try.prog Try.f68 = some (stripF A68) := by kernel_rfl
theorem t69 : compFn Try.prog Try.f69 = some (stripF A69) := by kernel_rfl
theorem t70 : compFn Try.prog Try.f70 = some (stripF A70) := by kernel_rfl
theorem t78 : compFn Try.prog Try.f78 = some (stripF A78) := by kernel_rfl
theorem t79 : compFn Try.prog Try.f79 = some (stripF A79) := by kernel_rfl
theorem t80 : compFn Try.prog Try.f80 = some (stripF A80) := by kernel_rfl
theorem t88 : compFn Try.prog Try.f88 = some (stripF A88) := by kernel_rfl
theorem t89 : compFn Try.prog Try.f89 = some (stripF A89) := by kernel_rfl
theorem tbl_ok : AllOK Try.prog tbl := ⟨⟨_, Try.func5, t5⟩, ⟨_, Try.func6, t6⟩, ⟨_, Try.func8, t8⟩, ⟨_, Try.func10, t10⟩, ⟨_, Try.func13, t13⟩, ⟨_, Try.func19, t19⟩, ⟨_, Try.func21, t21⟩, ⟨_, Try.func23, t23⟩, ⟨_, Try.func24, t24⟩, ⟨_, Try.func30, t30⟩, ⟨_, Try.func31, t31⟩, ⟨_, Try.func32, t32⟩, ⟨_, Try.func35, t35⟩, ⟨_, Try.func36, t36⟩, ⟨_, Try.func37, t37⟩, ⟨_, Try.func38, t38⟩, ⟨_, Try.func39, t39⟩, ⟨_, Try.func40, t40⟩, ⟨_, Try.func41, t41⟩, ⟨_, Try.func47, t47⟩, ⟨_, Try.func48, t48⟩, ⟨_, Try.func52, t52⟩, ⟨_, Try.func54, t54⟩, ⟨_, Try.func55, t55⟩, ⟨_, Try.func56, t56⟩, ⟨_, Try.func57, t57⟩, ⟨_, Try.func58, t58⟩, ⟨_, Try.func59, t59⟩, ⟨_, Try.func60, t60⟩, ⟨_, Try.func61, t61⟩, ⟨_, Try.func66, t66⟩, ⟨_, Try.func67, t67⟩, ⟨_, Try.func68, t68⟩, ⟨_, Try.func69, t69⟩, ⟨_, Try.func88, t88⟩, ⟨_, Try.func89, t89⟩, trivial⟩
theorem tblW_ok : AllOK Try.prog tblW := ⟨⟨_, Try.func7, t7⟩, ⟨_, Try.func8, t8⟩, ⟨_, Try.func10, t10⟩, ⟨_, Try.func13, t13⟩, ⟨_, Try.func19, t19⟩, ⟨_, Try.func21, t21⟩, ⟨_, Try.func23, t23⟩, ⟨_, Try.func24, t24⟩, ⟨_, Try.func33, t33⟩, ⟨_, Try.func35, t35⟩, ⟨_, Try.func36, t36⟩, ⟨_, Try.func37, t37⟩, ⟨_, Try.func38, t38⟩, ⟨_, Try.func39, t39⟩, ⟨_, Try.func40, t40⟩, ⟨_, Try.func41, t41⟩, ⟨_, Try.func46, t46⟩, ⟨_, Try.func47, t47⟩, ⟨_, Try.func48, t48⟩, ⟨_, Try.func51, t51⟩, ⟨_, Try.func52, t52⟩, ⟨_, Try.func55, t55⟩, ⟨_, Try.func56, t56⟩, ⟨_, Try.func57, t57⟩, ⟨_, Try.func58, t58⟩, ⟨_, Try.func59, t59⟩, ⟨_, Try.func60, t60⟩, ⟨_, Try.func61, t61⟩, ⟨_, Try.func63, t63⟩, ⟨_, Try.func64, t64⟩, ⟨_, Try.func65, t65⟩, ⟨_, Try.func66, t66⟩, ⟨_, Try.func67, t67⟩, ⟨_, Try.func68, t68⟩, ⟨_, Try.func69, t69⟩, ⟨_, Try.func70, t70⟩, ⟨_, Try.func78, t78⟩, ⟨_, Try.func79, t79⟩, ⟨_, Try.func80, t80⟩, ⟨_, Try.func88, t88⟩, ⟨_, Try.func89, t89⟩, trivial⟩
theorem body51 : ∃ c, Try.f51.body = some c := by
  have h : Try.f51.body.isSome = true := by kernel_rfl
  cases e : Try.f51.body with
  | none => rw [e] at h; cases h
  | some c => exact ⟨c, rfl⟩
theorem enter51 (args : Array Value) (w : World) : (callFunc 51 args).run Try.prog w = .ok (.enter 51 args) w := by
  obtain ⟨c, h⟩ := body51
  exact _root_.Go.MuLone.run_callFunc_enter Try.func51 (by kernel_rfl) h args w
theorem body52 : ∃ c, Try.f52.body = some c := by
  have h : Try.f52.body.isSome = true := by kernel_rfl
  cases e : Try.f52.body with
  | none => rw [e] at h; cases h
  | some c => exact ⟨c, rfl⟩
theorem enter52 (args : Array Value) (w : World) : (callFunc 52 args).run Try.prog w = .ok (.enter 52 args) w := by
  obtain ⟨c, h⟩ := body52
  exact _root_.Go.MuLone.run_callFunc_enter Try.func52 (by kernel_rfl) h args w
theorem body46 : ∃ c, Try.f46.body = some c := by
  have h : Try.f46.body.isSome = true := by kernel_rfl
  cases e : Try.f46.body with
  | none => rw [e] at h; cases h
  | some c => exact ⟨c, rfl⟩
theorem enter46 (args : Array Value) (w : World) : (callFunc 46 args).run Try.prog w = .ok (.enter 46 args) w := by
  obtain ⟨c, h⟩ := body46
  exact _root_.Go.MuLone.run_callFunc_enter Try.func46 (by kernel_rfl) h args w
theorem body47 : ∃ c, Try.f47.body = some c := by
  have h : Try.f47.body.isSome = true := by kernel_rfl
  cases e : Try.f47.body with
  | none => rw [e] at h; cases h
  | some c => exact ⟨c, rfl⟩
theorem enter47 (args : Array Value) (w : World) : (callFunc 47 args).run Try.prog w = .ok (.enter 47 args) w := by
  obtain ⟨c, h⟩ := body47
  exact _root_.Go.MuLone.run_callFunc_enter Try.func47 (by kernel_rfl) h args w
theorem prims_ok : AllPrim Try.prog prims := ⟨sortP_ok sortL rfl enter51 (fun g hg args w => by
    simp only [List.mem_cons, List.not_mem_nil, or_false] at hg
    subst hg; exact enter52 args w),
  sortPK_ok (by decide) sortK Try.isAgg84 Try.sizeOf84 rfl enter46 (fun g hg args w => by
    simp only [List.mem_cons, List.not_mem_nil, or_false] at hg
    subst hg; exact enter47 args w),
  saysT_ok Try.checked.mixed (envT_ok tblW_ok) (fn := A7) rfl runW, trivial⟩
theorem env_ok : EnvOK Try.prog E := envP_ok tbl_ok prims_ok
end Go.Proofs.Ytbamgdknkhhikaa
