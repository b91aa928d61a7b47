/-
  StagedMerges, walked.
-/
import Derived.Test.YtflpfelalockgaaS8
namespace Go.Proofs.Ytflpfelalockgaa
open Go.Ab
set_option linter.unusedSimpArgs false
set_option linter.unusedVariables false

/-! ### In plain Lean -/
theorem bec0 {d : Nat} (h1 : 1 ≤ d) (h2 : d ≤ 3) : bec 0 d = some d := by
  have : d = 1 ∨ d = 2 ∨ d = 3 := by omega
  rcases this with rfl | rfl | rfl <;> rfl
theorem doR_new {b : Bk} {k : Str} {d : Nat} (h : lkG b k = none) (h1 : 1 ≤ d) (h2 : d ≤ 3) : doR b k d = (0, b ++ [(k, d)]) := by
  unfold doR kindB
  rw [h]
  show doA b k (bec 0 d) = _
  rw [bec0 h1 h2]
  obtain ⟨j, rfl⟩ : ∃ j, d = j + 1 := ⟨d - 1, by omega⟩
  show (0, upG b k (j + 1)) = _
  rw [upG_none h]
theorem foldB_new : ∀ (q b : Bk), nd (b ++ q) → (∀ x ∈ q, 1 ≤ x.2 ∧ x.2 ≤ 3) → foldB b q = b ++ q
  | [], b, _, _ => by simp [foldB]
  | (k, d) :: q, b, hn, hk => by
    have h1 := hk _ List.mem_cons_self
    have hl : lkG b k = none := by
      rw [lkG_none]
      intro hm
      unfold nd at hn
      rw [List.map_append, List.nodup_append] at hn
      exact hn.2.2 k hm k (by simp) rfl
    show foldB (doR b k d).2 q = _
    rw [doR_new hl h1.1 h1.2]
    have e : b ++ [(k, d)] ++ q = b ++ (k, d) :: q := by simp
    rw [foldB_new q (b ++ [(k, d)]) (by rw [e]; exact hn) (fun x hx => hk x (List.mem_cons_of_mem _ hx)), e]
theorem seqs_kinds (b : Bk) : ∀ x ∈ seqs b, 1 ≤ x.2 ∧ x.2 ≤ 3 := fun x hx => by
  unfold seqs at hx
  simp only [List.mem_append, mem_seqOf] at hx
  rcases hx with h | h | h <;> rw [h.2] <;> decide
theorem mergeB_nil {b : Bk} (h : nd b) : mergeB [] b = seqs b := by
  rw [mergeB_fold, foldB_new _ [] (by simpa using seqs_nd h) (seqs_kinds b), List.nil_append]
theorem seqOf_len (b : Bk) (d : Nat) : (seqOf b d).length = (keysOf b d).length := by simp [seqOf]
theorem seqs_len (b : Bk) : (seqs b).length = (keysOf b 1).length + (keysOf b 2).length + (keysOf b 3).length := by
  unfold seqs; simp only [List.length_append, seqOf_len]; omega
theorem foldB_del : ∀ (ks : List Str) (t : Bk), nd (ks.map (fun k => (k, 1)) ++ t) → foldB (ks.map (fun k => (k, 1)) ++ t) (ks.map fun k => (k, 3)) = t
  | [], t, _ => rfl
  | k :: ks, t, hn => by
    show foldB (doR ((k, 1) :: (ks.map (fun k => (k, 1)) ++ t)) k 3).2 (ks.map fun k => (k, 3)) = t
    have h1 : kindB ((k, 1) :: (ks.map (fun k => (k, 1)) ++ t)) k = 1 := by unfold kindB; simp only [lkG, if_pos]; rfl
    have h2 : doR ((k, 1) :: (ks.map (fun k => (k, 1)) ++ t)) k 3 = (0, ks.map (fun k => (k, 1)) ++ t) := by
      unfold doR
      rw [h1]
      show (0, dlG ((k, 1) :: (ks.map (fun k => (k, 1)) ++ t)) k) = _
      simp only [dlG, if_pos]
    rw [h2]
    refine foldB_del ks t ?_
    unfold nd at *
    simp only [List.map_cons, List.cons_append, List.nodup_cons] at hn
    exact hn.2
theorem keys_seqOf (b : Bk) (d e : Nat) : keysOf (seqOf b d) e = if d = e then keysOf b d else [] := by
  have h1 : ∀ (ks : List Str), keysOf (ks.map fun k => (k, d)) e = if d = e then ks else [] := by
    intro ks
    induction ks with
    | nil => simp [keysOf]
    | cons k ks ih =>
      rw [List.map_cons, keys_cons]
      simp only [ih]
      by_cases q : d = e
      · simp [q]
      · simp [q]
  unfold seqOf
  rw [h1]
theorem keys_app (a b : Bk) (d : Nat) : keysOf (a ++ b) d = keysOf a d ++ keysOf b d := by unfold keysOf; rw [List.filter_append, List.map_append]
theorem map3_kinds (ks : List Str) (d : Nat) : seqOf (ks.map fun k => (k, 3)) d = if d = 3 then ks.map (fun k => (k, 3)) else [] := by
  unfold seqOf
  have h1 : keysOf (ks.map fun k => (k, 3)) d = if d = 3 then ks else [] := by
    induction ks with
    | nil => simp [keysOf]
    | cons k ks ih =>
      rw [List.map_cons, keys_cons, ih]
      by_cases q : d = 3
      · simp [q]
      · have : ¬ 3 = d := fun e => q e.symm
        simp [q, this]
  rw [h1]
  by_cases q : d = 3
  · simp [q]
  · simp [q]
theorem merge_del {b : Bk} (h : nd b) : mergeB (seqs b) ((keysOf b 1).map fun k => (k, 3)) = seqOf b 2 ++ seqOf b 3 := by
  rw [mergeB_fold]
  have : seqs ((keysOf b 1).map fun k => (k, 3)) = (keysOf b 1).map fun k => (k, 3) := by
    unfold seqs; rw [map3_kinds, map3_kinds, map3_kinds]; simp
  rw [this]
  exact foldB_del (keysOf b 1) (seqOf b 2 ++ seqOf b 3) (seqs_nd h)
theorem keys_nd {b : Bk} (h : nd b) (d : Nat) : (keysOf b d).Nodup := h.sublist (List.filter_sublist.map _)
theorem mem_keys {b : Bk} {d : Nat} {k : Str} : k ∈ keysOf b d ↔ (k, d) ∈ b := by
  have : k ∈ keysOf b d ↔ (k, d) ∈ seqOf b d := by
    unfold seqOf; simp
  rw [this, mem_seqOf]; simp
theorem kind_seqs {b : Bk} (h : nd b) {k : Str} (hk : k ∈ keysOf b 1) : kindB (seqs b) k = 1 := by
  unfold kindB
  have : (k, 1) ∈ seqs b := by
    unfold seqs; exact List.mem_append_left _ (mem_seqOf.2 ⟨mem_keys.1 hk, rfl⟩)
  rw [lkG_of_mem (seqs_nd h) this]; rfl
theorem nil_ok {b : Bk} (hk : ∀ x ∈ b, 1 ≤ x.2 ∧ x.2 ≤ 3) : mergeOk [] b := fun x hx => by
  have := hk x hx
  show bec 0 x.2 ≠ none
  rw [bec0 this.1 this.2]
  exact fun e => by cases e
theorem del_ok {b : Bk} (h : nd b) : mergeOk (seqs b) ((keysOf b 1).map fun k => (k, 3)) := fun x hx => by
  obtain ⟨k, hk, rfl⟩ := List.mem_map.1 hx
  rw [kind_seqs h hk]
  exact fun e => by cases e

section
variable {n w : Nat} {hb : AHeap} {va vb : AV} {A B : List (Int × Str)} {K : Kont} {pa ma pb mb pc mc : Nat}

theorem m20 (I : Inp hb w va vb A B) (hok : hb.Ok) (z1 : hb.sz ≤ pa) (z2 : hb.sz ≤ ma) (z3 : hb.sz ≤ pc) (z4 : hb.sz ≤ mc) (n1 : pa ≠ pb) (n2 : pa ≠ mb) (n3 : ma ≠ pb) (n4 : ma ≠ mb) (n5 : pc ≠ pb) (n6 : pc ≠ mb) (n7 : mc ≠ pb) (n8 : mc ≠ mb) (n9 : pa ≠ pc) (n10 : pa ≠ mc) (n11 : ma ≠ pc) (n12 : ma ≠ mc)
    (k : ∀ h ca la cc lc, SetO h pa ma ca la → SetO h pb mb 0 [] → SetO h pc mc cc lc → bk la = bk lc → ca ≤ 60 → cc ≤ 60 → Ext hb h → h.Ok → p5_37 (callN E (n + 5)) (n + 5) (.ptr pa 0 0 0) (.ptr pb 0 0 0) (.ptr pc 0 0 0) h K = true) :
    ∀ mm i h ca la cc lc, SetO h pa ma ca la → SetO h pb mb 0 [] → SetO h pc mc cc lc → bk la = bk lc → ca ≤ i → cc ≤ i → Ext hb h → h.Ok → i ≤ 60 → i ≤ A.length → 60 - i < mm →
      l5_20 (callN E (n + 5)) (n + 5) mm (.ptr w 0 0 0) (.ptr pa 0 0 0) (.ptr pb 0 0 0) (.ptr pc 0 0 0) (.int .i64 (i : Int)) h K = true := by
  have hlim : lim = 4611686018427387904 := rfl
  intro mm
  induction mm with
  | zero => intro i h ca la cc lc _ _ _ _ _ _ _ _ _ _ hm; omega
  | succ mm ih =>
    intro i h ca la cc lc SA SB SC he ha hc e o hi hia hm
    unfold l5_20 b5_20
    rw [fa0, o_of (I.l0 e), o_of (I.na e), o_lss]
    by_cases hlt : i < A.length
    · rw [decide_eq_true (show (i : Int) < (A.length : Int) by omega), g_tt, o_some, g_tt, o_lss, k_t]
      by_cases h60 : i < 60
      · rw [condB_t (decide_eq_true (by omega))]
        obtain ⟨z, s, hzs⟩ : ∃ z s, A[i]? = some (z, s) := ⟨_, _, List.getElem?_eq_getElem hlt⟩
        obtain ⟨id, g, j, r1, r2, r3, r4⟩ := op_at I.a hzs
        rw [fa0, o_of (I.l0 e), o_of (r1 h e), o_of (r2 h e), fa0, o_of (I.l0 e), o_of (r1 h e), o_of (r2 h e)]
        refine c8 (n := n + 1) SA o (by omega) fun h1 l1 c1 hc1 S1 F1 o1 b1 => ?_
        have e1 : Ext hb h1 := F1.ext e hok fun j q => by rcases q with q | q <;> omega
        rw [sameB_of (I.l0 e1) (view_same I.a), sameB_of (r1 h1 e1) (same_ptr _ _ _ _), sameB_of (r2 h1 e1) (same_O _ _)]
        have SC1 := SC.fr F1 (fun q => by omega) (fun q => by omega)
        have SB1 := SB.fr F1 (fun q => by omega) (fun q => by omega)
        refine c8 (n := n + 1) SC1 o1 (by omega) fun h2 l2 c2 hc2 S2 F2 o2 b2 => ?_
        rw [← he] at b2 ⊢
        rw [neqI, condB_false, o_of (inc64 (show i < lim by omega))]
        exact ih (i + 1) h2 c1 l1 c2 l2 (S1.fr F2 (fun q => by omega) (fun q => by omega)) (SB1.fr F2 (fun q => by omega) (fun q => by omega)) S2 (b1.trans b2.symm) (by omega) (by omega) (F2.ext e1 hok fun j q => by rcases q with q | q <;> omega) o2 (by omega) (by omega) (by omega)
      · rw [condB_f (decide_eq_false (by omega))]
        exact k h ca la cc lc SA SB SC he (by omega) (by omega) e o
    · rw [decide_eq_false (show ¬ (i : Int) < (A.length : Int) by omega), g_ft, g_ft, k_f, condB_false]
      exact k h ca la cc lc SA SB SC he (by omega) (by omega) e o

theorem m51 {hM : AHeap} {x7 x8 x9 : AV} {b : Bk} {lb : Ls} {cb : Nat} (hbn : nd b) (hM7 : View hM 1 x7 (enc1 (keysOf b 1))) (r7 : ∀ j, inRow x7 j → ¬ ((j = pa ∨ j = ma) ∨ (j = pc ∨ j = mc))) (SB0 : SetO hM pb mb cb lb) (hbk : bk lb = seqs b) (hlen : (keysOf b 1).length ≤ 60)
    (n1 : pa ≠ pb) (n2 : pa ≠ mb) (n3 : ma ≠ pb) (n4 : ma ≠ mb) (n5 : pc ≠ pb) (n6 : pc ≠ mb) (n7 : mc ≠ pb) (n8 : mc ≠ mb) (n9 : pa ≠ pc) (n10 : pa ≠ mc) (n11 : ma ≠ pc) (n12 : ma ≠ mc)
    (k : ∀ h cc lc, SetO h pc mc cc lc → bk lc = (keysOf b 1).map (fun k => (k, 3)) → cc ≤ 200 → Fr (fun j => (j = pa ∨ j = ma) ∨ (j = pc ∨ j = mc)) hM h → h.Ok → p5_68 (callN E (n + 5)) (n + 5) (.ptr pb 0 0 0) (.ptr pc 0 0 0) x8 x9 h K = true) :
    ∀ mm i h ca la cc lc, SetO h pa ma ca la → bk la = [] → SetO h pc mc cc lc → bk lc = ((keysOf b 1).take i).map (fun k => (k, 3)) → ca ≤ 100 + 2 * i → cc ≤ 100 + i → Fr (fun j => (j = pa ∨ j = ma) ∨ (j = pc ∨ j = mc)) hM h → h.Ok → i ≤ (keysOf b 1).length → (keysOf b 1).length - i < mm →
      l5_51 (callN E (n + 5)) (n + 5) mm (.ptr pa 0 0 0) (.ptr pb 0 0 0) (.ptr pc 0 0 0) x7 x8 x9 (.int .i64 (i : Int)) h K = true := by
  have hlim : lim = 4611686018427387904 := rfl
  intro mm
  induction mm with
  | zero => intro i h ca la cc lc _ _ _ _ _ _ _ _ _ hm; omega
  | succ mm ih =>
    intro i h ca la cc lc SA hA SC hC ha hc F o hi hm
    unfold l5_51 b5_51
    have fv : ∀ {h'}, Fr (fun j => (j = pa ∨ j = ma) ∨ (j = pc ∨ j = mc)) hM h' → View h' 1 x7 (enc1 (keysOf b 1)) := fun F => F.view hM7 fun id g s l c ex q => r7 id ⟨_, _, _, _, _, q⟩
    have V := fv F
    rw [o_of V.len, enc1_len, o_lss]
    by_cases hlt : i < (keysOf b 1).length
    · rw [condB_t (decide_eq_true (by omega))]
      have hki := List.getElem?_eq_getElem hlt
      have hmem := List.getElem_mem hlt
      generalize hkk : (keysOf b 1)[i] = key at hki hmem
      obtain ⟨p, p1, p2⟩ := view_read V hki
      rw [o_of p1, o_of p2]
      have SB := SB0.fr F (fun q => by omega) (fun q => by omega)
      refine c13 (n := n + 4) SB ?_
      rw [hbk, kind_seqs hbn hmem]
      have one : ∀ k : AV → Bool, optB (binA .neq (.int .i64 ((1 : Nat) : Int)) (.int .i64 1)) k = k (.bool false) := fun k => rfl
      rw [one, g_ff, o_some, gc_ff]
      refine c19 (n := n + 2) SA o (by omega) fun h1 l1 c1 hc1 S1 F1 o1 b1 => ?_
      have q1 : doR [] [113] 1 = (0, [([113], 1)]) := rfl
      rw [hA, q1] at b1 ⊢
      simp only at b1
      rw [g_ff, ne0, k_f, g_ff, o_some, gc_ff]
      refine c20 (n := n + 2) S1 o1 (by omega) fun h2 l2 c2 hc2 S2 F2 o2 b2 => ?_
      have q2 : doR [([113], 1)] [113] 3 = (0, []) := rfl
      rw [b1, q2] at b2 ⊢
      simp only at b2
      have FF : Fr (fun j => (j = pa ∨ j = ma) ∨ (j = pc ∨ j = mc)) hM h2 := F.trans ((F1.trans F2).mono fun j q => .inl q)
      have V2 := fv FF
      obtain ⟨p', p1', p2'⟩ := view_read V2 hki
      rw [g_ff, ne0, k_f, g_ff, o_some, g_ff, o_some, g_ff, o_some, g_ff, o_of p1', g_ff, o_of p2', gc_ff]
      have SC2 := SC.fr (F1.trans F2) (fun q => by omega) (fun q => by omega)
      refine c20 (n := n + 2) SC2 o2 (by omega) fun h3 l3 c3 hc3 S3 F3 o3 b3 => ?_
      have hnew : lkG (((keysOf b 1).take i).map fun k => (k, 3)) key = none := by
        rw [lkG_none, List.map_map]
        have : ((fun p : Str × Nat => p.1) ∘ fun k => (k, 3)) = id := rfl
        rw [this, List.map_id]
        intro hm
        obtain ⟨j, hj, hjk⟩ := List.mem_iff_getElem.1 hm
        rw [List.length_take] at hj
        rw [List.getElem_take] at hjk
        have hnd := keys_nd hbn 1
        rw [List.nodup_iff_pairwise_ne] at hnd
        exact List.pairwise_iff_getElem.1 hnd j i (by omega) hlt (by omega) (hjk.trans hkk.symm)
      rw [hC, doR_new hnew (by decide) (by decide)] at b3 ⊢
      simp only at b3
      rw [g_ff, ne0, k_f, condB_false, o_of (inc64 (show i < lim by omega))]
      refine ih (i + 1) h3 c2 l2 c3 l3 (S2.fr F3 (fun q => by omega) (fun q => by omega)) b2 S3 ?_ (by omega) (by omega) (FF.trans (F3.mono fun j q => .inr q)) o3 (by omega) (by omega)
      rw [b3, List.take_succ_eq_append_getElem hlt, hkk]
      simp
    · rw [condB_f (decide_eq_false (by omega))]
      rw [List.take_of_length_le (by omega)] at hC
      exact k h cc lc SC hC (by omega) F o
end

theorem c5 {n : Nat} {h : AHeap} {va vb : AV} {A B : List (Int × Str)} {K : Kont} (o : h.Ok) (VA : View h 2 va (A.map encO)) (VB : View h 2 vb (B.map encO)) (hn : 2000 < n) (k : ∀ h', K (.bool true) h' = true) : callN E (n + 6) (.func 5) [.agg [va, vb]] h K = true := by
  have hlim : lim = 4611686018427387904 := rfl
  apply d5
  unfold s5
  have la : va.leaf = true := VA.leaf
  have lb : vb.leaf = true := VB.leaf
  have A1 : boxA h 2 (.agg [va, vb]) = some (.ptr h.sz 0 0 0, Ab.newRow h [[va, vb]] 2) := box_eq (n := 2) rfl (by decide) (by simp only [AV.cells, allLeaf, la, lb, cond_true])
  rw [p_of A1]
  have e1 := ext_newRow o [[va, vb]] 2
  have o1 := ok_newRow o [[va, vb]] 2
  have I : Inp (Ab.newRow h [[va, vb]] 2) h.sz va vb A B := ⟨var_new h _, VA.ext e1, VB.ext e1⟩
  generalize Ab.newRow h [[va, vb]] 2 = hb at *
  refine c6 (n := n + 4) o1 fun h1 pa ma x1 y1 S1 hp hm => ?_
  refine c6 (n := n + 4) y1 fun h2 pb mb x2 y2 S2 hp2 hm2 => ?_
  refine c6 (n := n + 4) y2 fun h3 pc mc x3 y3 S3 hp3 hm3 => ?_
  rw [eqp, g_ff, o_some, g_ff, eqp, k_f, g_ff, o_some, g_ff, eqp, k_f, condB_false]
  unfold p5_16
  have a1 := S1.plt y1
  have a2 := S1.mlt y1
  have a3 := S2.plt y2
  have a4 := S2.mlt y2
  have a5 := S3.plt y3
  have a6 := S3.mlt y3
  have zx1 := x1.1
  have zx2 := x2.1
  have zx3 := x3.1
  refine m20 (n := n) I o1 hp hm (by omega) (by omega) (by omega) (by omega) (by omega) (by omega) (by omega) (by omega) (by omega) (by omega) (by omega) (by omega) (by omega) (by omega) (fun h4 ca la cc lc SA SB SC he hca hcc e4 o4 => ?_) (n + 5) 0 h3 0 [] 0 [] (S1.ext (x2.trans x3)) (S2.ext x3) S3 rfl (by omega) (by omega) ((x1.trans x2).trans x3) y3 (by omega) (Nat.zero_le _) (by omega)
  unfold p5_37
  have ll := SC.len
  have lla := SA.len
  have b4 := SA.plt o4
  have b5 := SA.mlt o4
  have b6 := SB.plt o4
  have b7 := SB.mlt o4
  have b8 := SC.plt o4
  have b9 := SC.mlt o4
  refine c9 (n := n + 1) SC o4 (by omega) (by omega) (by omega) fun h5 f mc' S5 F5 o5 U5 hm5 nr5 => ?_
  rw [o_ext0, o_ext1, o_ext2]
  have SA5 := SA.fr F5 (fun q => by omega) (fun q => by omega)
  have SB5 := SB.fr F5 (fun q => by omega) (fun q => by omega)
  have z5 := F5.sz
  have m5 := S5.mlt o5
  refine c16 (n := n + 1) SB5 SA5 o5 (by omega) (by omega) (by omega) (by omega) (by omega) (by omega) (by omega) (by omega) (fun hB _ _ _ => absurd (nil_ok SA.kinds) hB) (fun _ h6 lb cb ma' SB6 hbk hcb SA6 F6 o6 hm6 => ?_)
  rw [show bk [] = [] from rfl, mergeB_nil SA.nd] at hbk
  rw [show ∀ k : AV → Bool, optB (binA .neq (.int .i64 0) (.int .i64 0)) k = k (.bool false) from fun k => rfl, g_ff, o_some, gc_ff]
  refine c15 (n := n + 4) SA6 ?_
  rw [g_ff, show bk [] = [] from rfl, show ∀ k : AV → Bool, optB (binA .neq (.int .i64 (([] : Bk).length : Int)) (.int .i64 0)) k = k (.bool false) from fun k => rfl, k_f, g_ff, o_some, gc_ff]
  refine c15 (n := n + 4) SB6 ?_
  have lenf : ∀ i, i < 4 → ∀ h', lenA h' 1 (f i) = some (.int .i64 ((keysOf (bk lc) i).length : Int)) := fun i hi h' => by
    have := (U5.own i hi).view.len
    rw [enc1_len] at this
    rw [← this]; cases f i <;> rfl
  have kl : ∀ i, (keysOf (bk lc) i).length ≤ lc.length := fun i => by have := keys_len (bk lc) i; rw [bk_len] at this; exact this
  have k1 := kl 1
  have k2 := kl 2
  have k3 := kl 3
  have add : ∀ a b : Nat, a ≤ 1000 → b ≤ 1000 → binA .add (.int .i64 (a : Int)) (.int .i64 (b : Int)) = some (.int .i64 ((a + b : Nat) : Int)) := fun a b ha hb => nat64 (by omega)
  rw [g_ff, o_some, g_ff, o_of (lenf 1 (by omega) _), g_ff, o_some, g_ff, o_of (lenf 2 (by omega) _), g_ff, o_of (add _ _ (by omega) (by omega)), g_ff, o_some, g_ff, o_of (lenf 3 (by omega) _), g_ff, o_of (add _ _ (by omega) (by omega)), g_ff]
  rw [hbk, seqs_len, he, neqI, k_f, condB_false]
  unfold p5_47
  -- the lists lie apart
  have new : ∀ i, i < 4 → ∀ j, inRow (f i) j → h4.sz ≤ j := fun i hi j q => U5.hi i hi j q
  have old : ∀ i, i < 4 → ∀ j, inRow (f i) j → j < h5.sz := fun i hi j q => U5.lt o5 hi q
  have U6 := U5.fr F6 fun i hi j q q' => by have := new i hi j q; rcases q' with (q' | q') | q' <;> omega
  have z6 := F6.sz
  have r1 : ∀ i, i < 4 → ∀ j, inRow (f i) j → ¬ ((j = pa ∨ j = ma') ∨ (j = pc ∨ j = mc')) := fun i hi j q q' => by
    have h1 := new i hi j q
    have h2 := old i hi j q
    rcases q' with (q' | q') | (q' | q')
    · omega
    · omega
    · omega
    · exact nr5 i hi (by rw [← q']; exact q)
  have SC6 := S5.fr F6 (fun q => by omega) (fun q => by omega)
  rw [he] at hbk
  refine m51 (n := n) (b := bk lc) SC.nd (U6.own 1 (by omega)).view (r1 1 (by omega)) SB6 hbk (by omega) (by omega) (by omega) (by omega) (by omega) (by omega) (by omega) (by omega) (by omega) (by omega) (by omega) (by omega) (by omega) (fun h7 c7 l7 S7 hb7 hc7 F7 o7 => ?_) (n + 5) 0 h6 ca [] cc [] SA6 rfl SC6 rfl (by omega) (by omega) (Fr.refl _ _) o6 (Nat.zero_le _) (by omega)
  unfold p5_68
  have SB7 := SB6.fr F7 (fun q => by omega) (fun q => by omega)
  have U7 := U6.fr F7 fun i hi j q => r1 i hi j q
  have z7 := F7.sz
  have l7l : l7.length ≤ 60 := by
    have := congrArg List.length hb7
    rw [bk_len, List.length_map] at this
    omega
  have blb := bk_len lb
  rw [hbk, seqs_len] at blb
  refine c16 (n := n + 1) SB7 S7 o7 (by omega) (by omega) (by omega) (by omega) (by omega) (by omega) (by omega) (by omega) (fun hB _ _ _ => absurd (by rw [hbk, hb7]; exact del_ok SC.nd) hB) (fun _ h8 l8 c8' m8 S8 hb8 hc8 T8 F8 o8 hm8 => ?_)
  rw [hbk, hb7, merge_del SC.nd] at hb8
  rw [show ∀ k : AV → Bool, optB (binA .neq (.int .i64 0) (.int .i64 0)) k = k (.bool false) from fun k => rfl, condB_false]
  have U8 := U7.fr F8 fun i hi j q q' => by
    have h1 := new i hi j q
    have h2 := old i hi j q
    rcases q' with (q' | q') | q' <;> omega
  have S8l := S8.len
  refine c9 (n := n + 1) S8 o8 (by omega) (by omega) (by omega) fun h9 g m9 S9 F9 o9 U9 hm9 nr9 => ?_
  have z8 := F8.sz
  have U8' := U8.fr F9 fun i hi j q q' => by have := new i hi j q; omega
  rw [o_ext0, o_ext1, o_ext2]
  have K1 : keysOf (bk l8) 1 = [] := by rw [hb8, keys_app, keys_seqOf, keys_seqOf]; rfl
  have K2 : keysOf (bk l8) 2 = keysOf (bk lc) 2 := by rw [hb8, keys_app, keys_seqOf, keys_seqOf]; simp
  have K3 : keysOf (bk l8) 3 = keysOf (bk lc) 3 := by rw [hb8, keys_app, keys_seqOf, keys_seqOf]; simp
  have V1 := (U9.own 1 (by omega)).view
  have V2 := (U9.own 2 (by omega)).view
  have V3 := (U9.own 3 (by omega)).view
  rw [K1] at V1
  rw [K2] at V2
  rw [K3] at V3
  rw [o_of V1.len, show ∀ k : AV → Bool, optB (binA .eql (.int .i64 ((enc1 []).length : Int)) (.int .i64 0)) k = k (.bool true) from fun k => rfl, g_tt, o_some, g_tt, o_some, gc_tt]
  refine c21 (n := n + 4) V2 (U8'.own 2 (by omega)).view (by omega) (by omega) ?_
  rw [decide_eq_true rfl, k_t, g_tt, o_some, g_tt, o_some, gc_tt]
  refine c21 (n := n + 4) V3 (U8'.own 3 (by omega)).view (by omega) (by omega) ?_
  rw [decide_eq_true rfl, k_t, gc_tt]
  refine c11 (n := n) o9 (by omega) fun h' => ?_
  rw [k_t]
  exact k h'
end Go.Proofs.Ytflpfelalockgaa
