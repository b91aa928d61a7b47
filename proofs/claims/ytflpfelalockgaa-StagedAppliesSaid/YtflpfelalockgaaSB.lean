/-
  StagedApplies, walked to its end.
-/
import Derived.Test.YtflpfelalockgaaSA
namespace Go.Proofs.Ytflpfelalockgaa
open Go.Ab
set_option linter.unusedSimpArgs false
set_option linter.unusedVariables false

theorem zm1 (k : AV → Bool) : optB (binA .neq (.int .i64 ((1 : Nat) : Int)) (.int .i64 1)) k = k (.bool false) := rfl
theorem zm2 (k : AV → Bool) : optB (binA .neq (.int .i64 ((2 : Nat) : Int)) (.int .i64 1)) k = k (.bool true) := rfl
theorem zm3 (k : AV → Bool) : optB (binA .neq (.int .i64 ((3 : Nat) : Int)) (.int .i64 1)) k = k (.bool true) := rfl

theorem not_t (k : AV → Bool) : optB (notA (.bool true)) k = k (.bool false) := rfl
theorem not_f (k : AV → Bool) : optB (notA (.bool false)) k = k (.bool true) := rfl

theorem kd_cases (z : Int) : kdO z = 1 ∨ kdO z = 2 ∨ kdO z = 3 := by
  have := kdO_le z; omega

/-- Does the change fit? -/
theorem ap_fits {n w2 k : Nat} {h1 : AHeap} {z : Int} {key : Str} {x6 pN : AV} {nw : Bool} {X Y : AHeap → Bool} (o1 : h1.Ok) (LA : ∀ {h'}, Ext h1 h' → loadA h' true 2 (.ptr w2 0 0 0) = some (.agg [.int .i64 z, .str key]))
    (r1 : ∀ {h'}, Ext h1 h' → iadrA h' 1 x6 (.int .i64 (k : Int)) = some pN) (r2 : ∀ {h'}, Ext h1 h' → loadA h' false 1 pN = some (.bool nw))
    (kX : ¬ fits (kdO z) nw → ∀ h', Ext h1 h' → h'.Ok → X h' = true) (kY : fits (kdO z) nw → ∀ h', Ext h1 h' → h'.Ok → Y h' = true) :
    (optB (binA .eql (.int .i64 (kdO z : Int)) (.int .i64 1)) fun v33 => optB (grdO (wantV v33 true) (some x6)) fun v34 => optB (grdO (wantV v33 true) (some (.int .i64 (k : Int)))) fun v35 => optB (grdO (wantV v33 true) (iadrA h1 1 v34 v35)) fun v36 => optB (grdO (wantV v33 true) (loadA h1 false 1 v36)) fun v37 => optB (grdO (wantV v33 true) (notA v37)) fun v38 => optB (pickV v33 v38 (.bool false)) fun v39 => optB (grdO (wantV v39 false) (loadA h1 true 2 (.ptr w2 0 0 0))) fun v40 => grdC (wantV v39 false) (fun k => callN E (n + 5) (.func 7) [v40] h1 k) h1 fun v41 h => optB (grdO (wantV v39 false) (binA .neq v41 (.int .i64 1))) fun v42 => optB (grdO (wantV v39 false) (some v42)) fun v43 => optB (grdO (wantV v43 true) (some x6)) fun v44 => optB (grdO (wantV v43 true) (some (.int .i64 (k : Int)))) fun v45 => optB (grdO (wantV v43 true) (iadrA h 1 v44 v45)) fun v46 => optB (grdO (wantV v43 true) (loadA h false 1 v46)) fun v47 => optB (grdO (wantV v39 false) (pickV v43 v47 (.bool false))) fun v48 => optB (pickV v39 (.bool true) v48) fun v49 => optB (notA v49) fun v50 => condB v50 (X h) (Y h)) = true := by
  have c7' := fun {K : Kont} => c7 (n := n + 4) (z := z) (s := key) (K := K) o1
  rcases kd_cases z with e | e | e <;> rw [e] at kX kY c7' ⊢ <;> cases nw
  · (repeat first | rw [o_some] | rw [g_tt] | rw [g_tf] | rw [g_ff] | rw [g_ft] | rw [gc_tf] | rw [gc_ft] | rw [k_t] | rw [k_f] | rw [condB_true] | rw [condB_false] | rw [not_t] | rw [not_f] | rw [o_of (LA (Ext.refl _))] | rw [o_of (r1 (Ext.refl _))] | rw [o_of (r2 (Ext.refl _))] | rw [z11] | rw [z21] | rw [z31] | rw [zm1] | rw [zm2] | rw [zm3])
    exact kY (by simp [fits]) h1 (Ext.refl _) o1
  · (repeat first | rw [o_some] | rw [g_tt] | rw [g_tf] | rw [g_ff] | rw [g_ft] | rw [gc_tf] | rw [gc_ft] | rw [k_t] | rw [k_f] | rw [condB_true] | rw [condB_false] | rw [not_t] | rw [not_f] | rw [o_of (LA (Ext.refl _))] | rw [o_of (r1 (Ext.refl _))] | rw [o_of (r2 (Ext.refl _))] | rw [z11] | rw [z21] | rw [z31] | rw [zm1] | rw [zm2] | rw [zm3])
    rw [gc_ff]
    refine c7' fun h' x o' => ?_
    (repeat first | rw [o_some] | rw [g_tt] | rw [g_tf] | rw [g_ff] | rw [g_ft] | rw [gc_tf] | rw [gc_ft] | rw [k_t] | rw [k_f] | rw [condB_true] | rw [condB_false] | rw [not_t] | rw [not_f] | rw [o_of (LA (Ext.refl _))] | rw [o_of (r1 (Ext.refl _))] | rw [o_of (r2 (Ext.refl _))] | rw [z11] | rw [z21] | rw [z31] | rw [zm1] | rw [zm2] | rw [zm3])
    exact kX (by simp [fits]) h' x o'
  · (repeat first | rw [o_some] | rw [g_tt] | rw [g_tf] | rw [g_ff] | rw [g_ft] | rw [gc_tf] | rw [gc_ft] | rw [k_t] | rw [k_f] | rw [condB_true] | rw [condB_false] | rw [not_t] | rw [not_f] | rw [o_of (LA (Ext.refl _))] | rw [o_of (r1 (Ext.refl _))] | rw [o_of (r2 (Ext.refl _))] | rw [z11] | rw [z21] | rw [z31] | rw [zm1] | rw [zm2] | rw [zm3])
    rw [gc_ff]
    refine c7' fun h' x o' => ?_
    repeat first | rw [g_ff] | rw [zm2] | rw [o_some] | rw [g_tt] | rw [o_of (r1 x)] | rw [o_of (r2 x)] | rw [k_t] | rw [k_f] | rw [not_t] | rw [not_f] | rw [condB_true] | rw [condB_false]
    exact kX (by simp [fits]) h' x o'
  · (repeat first | rw [o_some] | rw [g_tt] | rw [g_tf] | rw [g_ff] | rw [g_ft] | rw [gc_tf] | rw [gc_ft] | rw [k_t] | rw [k_f] | rw [condB_true] | rw [condB_false] | rw [not_t] | rw [not_f] | rw [o_of (LA (Ext.refl _))] | rw [o_of (r1 (Ext.refl _))] | rw [o_of (r2 (Ext.refl _))] | rw [z11] | rw [z21] | rw [z31] | rw [zm1] | rw [zm2] | rw [zm3])
    rw [gc_ff]
    refine c7' fun h' x o' => ?_
    repeat first | rw [g_ff] | rw [zm2] | rw [o_some] | rw [g_tt] | rw [o_of (r1 x)] | rw [o_of (r2 x)] | rw [k_t] | rw [k_f] | rw [not_t] | rw [not_f] | rw [condB_true] | rw [condB_false]
    exact kY (by simp [fits]) h' x o'
  · (repeat first | rw [o_some] | rw [g_tt] | rw [g_tf] | rw [g_ff] | rw [g_ft] | rw [gc_tf] | rw [gc_ft] | rw [k_t] | rw [k_f] | rw [condB_true] | rw [condB_false] | rw [not_t] | rw [not_f] | rw [o_of (LA (Ext.refl _))] | rw [o_of (r1 (Ext.refl _))] | rw [o_of (r2 (Ext.refl _))] | rw [z11] | rw [z21] | rw [z31] | rw [zm1] | rw [zm2] | rw [zm3])
    rw [gc_ff]
    refine c7' fun h' x o' => ?_
    repeat first | rw [g_ff] | rw [zm3] | rw [o_some] | rw [g_tt] | rw [o_of (r1 x)] | rw [o_of (r2 x)] | rw [k_t] | rw [k_f] | rw [not_t] | rw [not_f] | rw [condB_true] | rw [condB_false]
    exact kX (by simp [fits]) h' x o'
  · (repeat first | rw [o_some] | rw [g_tt] | rw [g_tf] | rw [g_ff] | rw [g_ft] | rw [gc_tf] | rw [gc_ft] | rw [k_t] | rw [k_f] | rw [condB_true] | rw [condB_false] | rw [not_t] | rw [not_f] | rw [o_of (LA (Ext.refl _))] | rw [o_of (r1 (Ext.refl _))] | rw [o_of (r2 (Ext.refl _))] | rw [z11] | rw [z21] | rw [z31] | rw [zm1] | rw [zm2] | rw [zm3])
    rw [gc_ff]
    refine c7' fun h' x o' => ?_
    repeat first | rw [g_ff] | rw [zm3] | rw [o_some] | rw [g_tt] | rw [o_of (r1 x)] | rw [o_of (r2 x)] | rw [k_t] | rw [k_f] | rw [not_t] | rw [not_f] | rw [condB_true] | rw [condB_false]
    exact kY (by simp [fits]) h' x o'

section
variable {n w : Nat} {hb hs : AHeap} {va vb x4 x5 x6 : AV} {A B : List (Int × Str)} {K : Kont} {p m idT idN : Nat}

theorem rem5 (s : Str) : binA .rem (.int .i64 (s.length : Int)) (.int .i64 5) = some (.int .i64 ((s.length % 5 : Nat) : Int)) := by
  rw [binA_ints _ _ _ _ rfl]
  have h : ieqb 5 0 = false := rfl
  simp only [intOp, h, cond_false]
  have : (s.length : Int).tmod 5 = ((s.length % 5 : Nat) : Int) := by
    rw [Int.tmod_eq_emod_of_nonneg (by omega)]; omega
  rw [this]

theorem a24 (I : Inp hb w va vb A B) (hok : hb.Ok) (sok : hs.Ok) (xs : Ext hb hs) (V4 : View hs 1 x4 (enc1 ks5)) (r4 : ∀ j, inRow x4 j → ¬ ((j = p ∨ j = m) ∨ j = idN)) (z1 : hb.sz ≤ p) (z2 : hb.sz ≤ m) (z3 : hb.sz ≤ idN) (n1 : idN ≠ p) (n2 : idN ≠ m)
    (k : ∀ h c l N, SetO h p m c l → Arr h idN x6 N → Ivt (bk l) N → c ≤ 100 → Fr (fun j => (j = p ∨ j = m) ∨ j = idN) hs h → h.Ok → p3_55 (callN E (n + 5)) (n + 5) (.ptr p 0 0 0) x4 x5 x6 h K = true) :
    ∀ mm i h c l N, SetO h p m c l → Arr h idN x6 N → Ivt (bk l) N → c ≤ i → Fr (fun j => (j = p ∨ j = m) ∨ j = idN) hs h → h.Ok → i ≤ 100 → i ≤ A.length → 100 - i < mm →
      l3_24 (callN E (n + 5)) (n + 5) mm (.ptr w 0 0 0) (.ptr p 0 0 0) x4 x5 x6 (.int .i64 (i : Int)) h K = true := by
  have hlim : lim = 4611686018427387904 := rfl
  intro mm
  induction mm with
  | zero => intro i h c l N _ _ _ _ _ _ _ _ hm; omega
  | succ mm ih =>
    intro i h c l N S AN V hci F o hi hia hm
    unfold l3_24 b3_24
    have toE : ∀ {h'}, Fr (fun j => (j = p ∨ j = m) ∨ j = idN) hs h' → Ext hb h' := fun F => F.ext xs hok fun j q => by rcases q with (q | q) | q <;> omega
    have e := toE F
    rw [fa0, o_of (I.l0 e), o_of (I.na e), o_lss]
    by_cases hlt : i < A.length
    · rw [decide_eq_true (show (i : Int) < (A.length : Int) by omega), g_tt, o_some, g_tt, o_lss, k_t]
      by_cases h100 : i < 100
      · rw [condB_t (decide_eq_true (by omega))]
        obtain ⟨z, s, hzs⟩ : ∃ z s, A[i]? = some (z, s) := ⟨_, _, List.getElem?_eq_getElem hlt⟩
        obtain ⟨id, g, j, r1, r2, r3, r4'⟩ := op_at I.a hzs
        rw [fa0, o_of (I.l0 e), o_of (r1 h e), fa1, o_of (r4' h e), o_slen, o_of (rem5 s)]
        have hk5 : s.length % 5 < 5 := Nat.mod_lt _ (by decide)
        generalize s.length % 5 = kx at hk5
        obtain ⟨key, hkey⟩ : ∃ key, ks5[kx]? = some key := ⟨_, List.getElem?_eq_getElem (show kx < ks5.length from hk5)⟩
        obtain ⟨nw, hnw⟩ : ∃ nw, N[kx]? = some nw := ⟨_, List.getElem?_eq_getElem (show kx < N.length by rw [V.len]; exact hk5)⟩
        rw [fa0, o_of (I.l0 e), o_of (r1 h e), fa0, o_of (r3 h e)]
        have Vh : View h 1 x4 (enc1 ks5) := F.view V4 fun id g s l c ex q => r4 id ⟨_, _, _, _, _, q⟩
        obtain ⟨id2, g2, j2, q⟩ := View.atE Vh (enc1_at hkey)
        have q1 : ∀ h', Ext h h' → iadrA h' 1 x4 (.int .i64 (kx : Int)) = some (.ptr id2 g2 j2 0) := fun h' e' => (q h' e').1 _
        have q2 : ∀ h', Ext h h' → loadA h' false 1 (.ptr id2 g2 j2 0) = some (.str key) := fun h' e' => (q h' e').2 false 0 1
        rw [o_of (q1 h (Ext.refl _)), o_of (q2 h (Ext.refl _)), o_of (show buildV [AV.int .i64 0, AV.str []] [(0, 1, AV.int .i64 z), (1, 1, AV.str key)] = some (.agg [.int .i64 z, .str key]) from rfl)]
        have A2 : allocV h [AV.int .i64 0, AV.str []] = some (.ptr h.sz 0 0 0, Ab.newRow h [[AV.int .i64 0, AV.str []]] 2) := alloc_eq (by decide) rfl
        rw [p_of A2]
        have x0 := ext_newRow o [[AV.int .i64 0, AV.str []]] 2
        have e0 := e.trans x0
        rw [sameB_of (I.l0 e0) (view_same I.a), sameB_of (r1 _ e0) (same_ptr _ _ _ _), sameB_of (r3 _ e0) (same_int _ _), sameB_of (q1 _ x0) (same_ptr _ _ _ _), sameB_of (q2 _ x0) (same_str _)]
        rw [u_of (store_new (h := h) (z := [AV.int .i64 0, AV.str []]) (n := 2) (v := .agg [.int .i64 z, .str key]) rfl rfl rfl)]
        have x1 := ext_newRow o [(AV.agg [AV.int .i64 z, .str key]).cells] 2
        have o1 := ok_newRow o [(AV.agg [AV.int .i64 z, .str key]).cells] 2
        have W1 : Var (Ab.newRow h [(AV.agg [AV.int .i64 z, .str key]).cells] 2) h.sz [.int .i64 z, .str key] := var_new h _
        generalize Ab.newRow h [(AV.agg [AV.int .i64 z, .str key]).cells] 2 = h1 at *
        have LA : ∀ {h'}, Ext h1 h' → loadA h' true 2 (.ptr h.sz 0 0 0) = some (.agg [.int .i64 z, .str key]) := fun e => by rw [(W1.ext e).load]; rfl
        rw [o_of (LA (Ext.refl _))]
        refine c7 (n := n + 4) o1 fun h2 x2 o2 => ?_
        have x12 := x1.trans x2
        have AN2 : Arr h2 idN x6 N := AN.fr (Fr.of_ext (X := fun _ => False) x12) (fun q => q)
        obtain ⟨pN, rN⟩ := AN2.read hnw
        have SX := S.ext x12
        have F12 : Fr (fun j => (j = p ∨ j = m) ∨ j = idN) hs h2 := F.trans (Fr.of_ext x12)
        refine ap_fits (n := n) o2 (fun e => LA (x2.trans e)) (fun e => (rN _ e).1) (fun e => (rN _ e).2) (fun hnf h3 x3 o3 => ?_) (fun hf h3 x3 o3 => ?_)
        · unfold p3_54
          rw [o_of (inc64 (show i < lim by omega))]
          exact ih (i + 1) h3 c l N (SX.ext x3) (AN2.fr (Fr.of_ext (X := fun _ => False) x3) (fun q => q)) V (by omega) (F12.trans (Fr.of_ext x3)) o3 (by omega) (by omega) (by omega)
        · rw [o_of (LA (x2.trans x3))]
          have S3 := SX.ext x3
          have AN3 := AN2.fr (Fr.of_ext (X := fun _ => False) x3) (fun q => q)
          have kl := kdO_le z
          obtain ⟨g0, gV⟩ := V.step S.nd hkey hnw hf kl.1 kl.2
          have nN := AN3.lt o3
          have nS : ¬ (h.sz = p ∨ h.sz = m) := fun q => by
            have := S.plt o
            have := S.mlt o
            omega
          refine c8 (n := n + 1) S3 o3 (by omega) fun h4 l4 c4 hc4 S4 F4 o4 b4 => ?_
          have AN4 := AN3.fr F4 (fun q => by omega)
          have W4 : Var h4 h.sz [.int .i64 z, .str key] := F4.var (W1.ext (x2.trans x3)) nS
          rw [g0]
          rw [ne0, condB_false, o_of (show loadA h4 true 2 (.ptr h.sz 0 0 0) = some (.agg [.int .i64 z, .str key]) by rw [W4.load]; rfl)]
          refine c7 (n := n + 4) o4 fun h5 x5' o5 => ?_
          have AN5 := AN4.fr (Fr.of_ext (X := fun _ => False) x5') (fun q => q)
          have S5 := S4.ext x5'
          obtain ⟨pp, h6, t1, t2, t3, t4, t5⟩ := AN5.set (i := kx) (by rw [V.len]; exact hk5) (!decide (kdO z = 3))
          have e3 : binA .neq (.int .i64 (kdO z : Int)) (.int .i64 3) = some (.bool (!decide (kdO z = 3))) := by
            rcases kd_cases z with e | e | e <;> rw [e] <;> rfl
          rw [o_of e3, o_of t1, u_of t2]
          unfold p3_54
          rw [o_of (inc64 (show i < lim by omega))]
          have F6 := Fr.of_but (X := fun j => j = idN) rfl t4
          refine ih (i + 1) h6 c4 l4 _ (S5.fr F6 (fun q => n1 q.symm) (fun q => n2 q.symm)) t3 (by rw [b4]; exact gV) (by omega) ?_ (t5 o5) (by omega) (by omega) (by omega)
          exact F12.trans ((Fr.of_ext x3).trans ((F4.mono fun j q => .inl q).trans ((Fr.of_ext x5').trans (F6.mono fun j q => .inr q))))
      · rw [condB_f (decide_eq_false (by omega))]
        exact k h c l N S AN V (by omega) F o
    · rw [decide_eq_false (show ¬ (i : Int) < (A.length : Int) by omega), g_ft, g_ft, k_f, condB_false]
      exact k h c l N S AN V (by omega) F o

theorem a61 {hq : AHeap} {x11 x12 x13 : AV} {ks : List Str} (hn : 1000 < n) (V4 : View hq 1 x4 (enc1 ks5)) (r4 : ∀ j, inRow x4 j → j ≠ idT) (V11 : View hq 1 x11 (enc1 ks)) (r11 : ∀ j, inRow x11 j → j ≠ idT) (hks : ∀ k ∈ ks, ∃ j : Nat, ks5[j]? = some k) (hl : ks.length < 1000)
    (k : ∀ h T, Arr h idT x5 T → Fr (fun j => j = idT) hq h → h.Ok → T.length = 5 → T = setAll T5 ks true → p3_72 (callN E (n + 5)) (n + 5) x4 x5 x6 x12 x13 h K = true) :
    ∀ mm i h T, Arr h idT x5 T → Fr (fun j => j = idT) hq h → h.Ok → T.length = 5 → setAll T (ks.drop i) true = setAll T5 ks true → i ≤ ks.length → ks.length - i < mm →
      l3_61 (callN E (n + 5)) (n + 5) mm x4 x5 x6 x11 x12 x13 (.int .i64 (i : Int)) h K = true := by
  have hlim : lim = 4611686018427387904 := rfl
  intro mm
  induction mm with
  | zero => intro i h T _ _ _ _ _ _ hm; omega
  | succ mm ih =>
    intro i h T AT F o hT hs hi hm
    unfold l3_61 b3_61
    have V := F.view V11 fun id g s l c ex q => r11 id ⟨_, _, _, _, _, q⟩
    rw [o_of V.len, enc1_len, o_lss]
    by_cases hlt : i < ks.length
    · rw [condB_t (decide_eq_true (by omega))]
      have hki := List.getElem?_eq_getElem hlt
      have hmem := List.getElem_mem hlt
      generalize hkk : ks[i] = key at hki hmem
      obtain ⟨q, q1, q2⟩ := view_read V hki
      rw [o_of q1, o_of q2]
      obtain ⟨j, hj⟩ := hks key hmem
      have hj5 : j < 5 := (List.getElem?_eq_some_iff.1 hj).1
      refine c10 (n := n + 4) (F.view V4 fun id g s l c ex q => r4 id ⟨_, _, _, _, _, q⟩) (by decide) (show 5 < n + 4 by omega) ?_
      rw [ix5 hj]
      obtain ⟨pp, h6, t1, t2, t3, t4, t5⟩ := AT.set (i := j) (by omega) true
      rw [o_of (show iadrA h 1 x5 (.int .i64 (fin1 (some j))) = some pp from t1), u_of t2, o_of (inc64 (show i < lim by omega))]
      refine ih (i + 1) h6 _ t3 (F.trans (Fr.of_but rfl t4)) (t5 o) (by rw [List.length_set]; exact hT) ?_ (by omega) (by omega)
      rw [← hs, List.drop_eq_getElem_cons hlt, hkk]
      show _ = setAll (T.set ((ixL key ks5).getD 0) true) _ true
      rw [ix5 hj]; rfl
    · rw [condB_f (decide_eq_false (by omega))]
      rw [List.drop_of_length_le (by omega)] at hs
      exact k h T AT F o hT hs

theorem a76 {hq : AHeap} {x12 x13 : AV} {ks : List Str} {T0 : List Bool} (hn : 1000 < n) (V4 : View hq 1 x4 (enc1 ks5)) (r4 : ∀ j, inRow x4 j → j ≠ idT) (V11 : View hq 1 x13 (enc1 ks)) (r11 : ∀ j, inRow x13 j → j ≠ idT) (hks : ∀ k ∈ ks, ∃ j : Nat, ks5[j]? = some k) (hl : ks.length < 1000)
    (k : ∀ h T, Arr h idT x5 T → Fr (fun j => j = idT) hq h → h.Ok → T = setAll T0 ks false → p3_87 (callN E (n + 5)) (n + 5) x4 x5 x6 x12 h K = true) :
    ∀ mm i h T, Arr h idT x5 T → Fr (fun j => j = idT) hq h → h.Ok → T.length = 5 → setAll T (ks.drop i) false = setAll T0 ks false → i ≤ ks.length → ks.length - i < mm →
      l3_76 (callN E (n + 5)) (n + 5) mm x4 x5 x6 x12 x13 (.int .i64 (i : Int)) h K = true := by
  have hlim : lim = 4611686018427387904 := rfl
  intro mm
  induction mm with
  | zero => intro i h T _ _ _ _ _ _ hm; omega
  | succ mm ih =>
    intro i h T AT F o hT hs hi hm
    unfold l3_76 b3_76
    have V := F.view V11 fun id g s l c ex q => r11 id ⟨_, _, _, _, _, q⟩
    rw [o_of V.len, enc1_len, o_lss]
    by_cases hlt : i < ks.length
    · rw [condB_t (decide_eq_true (by omega))]
      have hki := List.getElem?_eq_getElem hlt
      have hmem := List.getElem_mem hlt
      generalize hkk : ks[i] = key at hki hmem
      obtain ⟨q, q1, q2⟩ := view_read V hki
      rw [o_of q1, o_of q2]
      obtain ⟨j, hj⟩ := hks key hmem
      have hj5 : j < 5 := (List.getElem?_eq_some_iff.1 hj).1
      refine c10 (n := n + 4) (F.view V4 fun id g s l c ex q => r4 id ⟨_, _, _, _, _, q⟩) (by decide) (show 5 < n + 4 by omega) ?_
      rw [ix5 hj]
      obtain ⟨pp, h6, t1, t2, t3, t4, t5⟩ := AT.set (i := j) (by omega) false
      rw [o_of (show iadrA h 1 x5 (.int .i64 (fin1 (some j))) = some pp from t1), u_of t2, o_of (inc64 (show i < lim by omega))]
      refine ih (i + 1) h6 _ t3 (F.trans (Fr.of_but rfl t4)) (t5 o) (by rw [List.length_set]; exact hT) ?_ (by omega) (by omega)
      rw [← hs, List.drop_eq_getElem_cons hlt, hkk]
      show _ = setAll (T.set ((ixL key ks5).getD 0) false) _ false
      rw [ix5 hj]; rfl
    · rw [condB_f (decide_eq_false (by omega))]
      rw [List.drop_of_length_le (by omega)] at hs
      exact k h T AT F o hs

theorem a91 {h : AHeap} {x12 : AV} {ks : List Str} {N : List Bool} (hn : 1000 < n) (V4 : View h 1 x4 (enc1 ks5)) (V : View h 1 x12 (enc1 ks)) (AT : Arr h idT x5 N) (hks : ∀ k ∈ ks, ∃ j : Nat, ks5[j]? = some k ∧ N[j]? = some true) (hl : ks.length < 1000)
    (k : p3_108 (callN E (n + 5)) (n + 5) x5 x6 h K = true) :
    ∀ mm i, i ≤ ks.length → ks.length - i < mm → l3_91 (callN E (n + 5)) (n + 5) mm x4 x5 x6 x12 (.int .i64 (i : Int)) h K = true := by
  have hlim : lim = 4611686018427387904 := rfl
  intro mm
  induction mm with
  | zero => intro i _ hm; omega
  | succ mm ih =>
    intro i hi hm
    unfold l3_91 b3_91
    rw [o_of V.len, enc1_len, o_lss]
    by_cases hlt : i < ks.length
    · rw [condB_t (decide_eq_true (by omega))]
      have hki := List.getElem?_eq_getElem hlt
      have hmem := List.getElem_mem hlt
      generalize hkk : ks[i] = key at hki hmem
      obtain ⟨q, q1, q2⟩ := view_read V hki
      rw [o_of q1, o_of q2]
      obtain ⟨j, hj, hjt⟩ := hks key hmem
      refine c10 (n := n + 4) V4 (by decide) (show 5 < n + 4 by omega) ?_
      rw [ix5 hj]
      obtain ⟨pp, t⟩ := AT.read hjt
      rw [o_of (show iadrA h 1 x5 (.int .i64 (fin1 (some j))) = some pp from (t h (Ext.refl _)).1), o_of (t h (Ext.refl _)).2, o_not]
      show (condB (.bool false) _ _) = true
      rw [condB_false, o_of (inc64 (show i < lim by omega))]
      exact ih (i + 1) (by omega) (by omega)
    · rw [condB_f (decide_eq_false (by omega))]
      exact k

theorem a112 {h : AHeap} {N : List Bool} (o : h.Ok) (hn : 1000 < n) (hN : N.length = 5) (AT : Arr h idT x5 N) (AN : Arr h idN x6 N) (k : ∀ h', K (.bool true) h' = true) :
    ∀ (mm i : Nat), i ≤ 5 → 5 - i < mm → l3_112 (callN E (n + 5)) (n + 5) mm x5 x6 (.int .i64 (i : Int)) h K = true := by
  have hlim : lim = 4611686018427387904 := rfl
  intro mm
  induction mm with
  | zero => intro i _ hm; omega
  | succ mm ih =>
    intro i hi hm
    unfold l3_112 b3_112
    rw [o_lss]
    by_cases hlt : i < 5
    · rw [condB_t (decide_eq_true (by omega))]
      obtain ⟨b, hb⟩ : ∃ b, N[i]? = some b := ⟨_, List.getElem?_eq_getElem (show i < N.length by omega)⟩
      obtain ⟨p1, t1⟩ := AT.read hb
      obtain ⟨p2, t2⟩ := AN.read hb
      rw [o_of (t1 h (Ext.refl _)).1, o_of (t1 h (Ext.refl _)).2, o_of (t2 h (Ext.refl _)).1, o_of (t2 h (Ext.refl _)).2, o_of (eqbb h b), condB_false, o_of (inc64 (show i < lim by omega))]
      exact ih (i + 1) (by omega) (by omega)
    · rw [condB_f (decide_eq_false (by omega))]
      unfold p3_129
      exact c11 (n := n) o (by omega) fun h' => k h'
end

theorem c3 {n : Nat} {h : AHeap} {va vb : AV} {A B : List (Int × Str)} {K : Kont} (o : h.Ok) (VA : View h 2 va (A.map encO)) (VB : View h 2 vb (B.map encO)) (hn : 2000 < n) (k : ∀ h', K (.bool true) h' = true) : callN E (n + 6) (.func 3) [.agg [va, vb]] h K = true := by
  have hlim : lim = 4611686018427387904 := rfl
  have hmo : most = 1099511627776 := rfl
  apply d3
  unfold s3
  have la : va.leaf = true := VA.leaf
  have lb : vb.leaf = true := VB.leaf
  have A1 : boxA h 2 (.agg [va, vb]) = some (.ptr h.sz 0 0 0, Ab.newRow h [[va, vb]] 2) := box_eq (n := 2) rfl (by decide) (by simp only [AV.cells, allLeaf, la, lb, cond_true])
  rw [p_of A1]
  have e1 := ext_newRow o [[va, vb]] 2
  have o1 := ok_newRow o [[va, vb]] 2
  have I : Inp (Ab.newRow h [[va, vb]] 2) h.sz va vb A B := ⟨var_new h _, VA.ext e1, VB.ext e1⟩
  generalize Ab.newRow h [[va, vb]] 2 = hb at *
  refine c6 (n := n + 4) o1 fun h1 p m x1 y1 S1 hp hm => ?_
  rw [eqp, condB_false]
  unfold p3_12
  have a1 := S1.plt y1
  have a2 := S1.mlt y1
  have zx1 := x1.1
  -- the keys
  have bk1 : bsliceV h1 5 1 [AV.str []] [(0, .str [97]), (1, .str [98]), (2, .str [99]), (3, .str [100]), (4, .str [101])] = some (.slc h1.sz 0 0 5 5 true, Ab.newRow h1 (enc1 ks5) 1) := rfl
  rw [p_of bk1]
  have x2 := ext_newRow y1 (enc1 ks5) 1
  have y2 := ok_newRow y1 (enc1 ks5) 1
  have V2 : View (Ab.newRow h1 (enc1 ks5) 1) 1 (.slc h1.sz 0 0 5 5 true) (enc1 ks5) := .inr ⟨h1.sz, 0, 0, 5, true, { es := enc1 ks5, sz := 1, g := 0, m := 0, rw := true }, rfl, by rw [AHeap.row_some]; exact get_push_same _ _, Nat.le_refl _, rfl, rfl, Nat.le_refl _⟩
  have z2 : (Ab.newRow h1 (enc1 ks5) 1).sz = h1.sz + 1 := rfl
  generalize Ab.newRow h1 (enc1 ks5) 1 = h2 at *
  -- what is there
  have bk2 : bsliceV h2 5 1 [AV.bool false] [(0, .bool true), (1, .bool false), (2, .bool true), (3, .bool false), (4, .bool true)] = some (.slc h2.sz 0 0 5 5 true, Ab.newRow h2 (encT T5) 1) := rfl
  rw [p_of bk2]
  have x3 := ext_newRow y2 (encT T5) 1
  have y3 := ok_newRow y2 (encT T5) 1
  have AT3 : Arr (Ab.newRow h2 (encT T5) 1) h2.sz (.slc h2.sz 0 0 5 5 true) T5 := ⟨{ es := encT T5, sz := 1, g := 0, m := 0, rw := true }, 5, true, rfl, by rw [AHeap.row_some]; exact get_push_same _ _, rfl, Nat.le_refl _, rfl, rfl, Nat.le_refl _⟩
  have z3 : (Ab.newRow h2 (encT T5) 1).sz = h2.sz + 1 := rfl
  generalize Ab.newRow h2 (encT T5) 1 = h3 at *
  -- what is there now
  have ap : appendA h3 1 1 .nilSlc (.slc h2.sz 0 0 5 5 true) = some (.slc h3.sz 0 0 5 5 false, Ab.newRow h3 (encT T5) 1) := by
    have hz : Nat.beq 1 0 = false := rfl
    have hsrc := AT3.view.src
    simp only [appendA, hz, cond_false, hsrc]
    rfl
  rw [p_of ap]
  have x4 := ext_newRow y3 (encT T5) 1
  have y4 := ok_newRow y3 (encT T5) 1
  have AN4 : Arr (Ab.newRow h3 (encT T5) 1) h3.sz (.slc h3.sz 0 0 5 5 false) T5 := ⟨{ es := encT T5, sz := 1, g := 0, m := 0, rw := true }, 5, false, rfl, by rw [AHeap.row_some]; exact get_push_same _ _, rfl, Nat.le_refl _, rfl, rfl, Nat.le_refl _⟩
  have z4 : (Ab.newRow h3 (encT T5) 1).sz = h3.sz + 1 := rfl
  generalize Ab.newRow h3 (encT T5) 1 = hs at *
  have AT4 := AT3.fr (Fr.of_ext (X := fun _ => False) x4) id
  have V4 := V2.ext (x3.trans x4)
  have I0 : Ivt (bk []) T5 := ⟨rfl, fun x hx => (by cases hx), fun i key t nw hi ht hn => by rw [ht] at hn; cases hn; exact .inl ⟨rfl, rfl⟩⟩
  have rk : ∀ j, inRow (.slc h1.sz 0 0 5 5 true) j → j = h1.sz := fun j q => (inRow_slc.1 q).symm
  refine a24 (n := n) (idN := h3.sz) I o1 y4 (((x1.trans x2).trans x3).trans x4) V4 (fun j q => by have := rk j q; omega) hp hm (by omega) (by omega) (by omega) (fun h5 c l N S5 AN5 IV hc F5 o5 => ?_) (n + 5) 0 hs 0 [] T5 (S1.ext ((x2.trans x3).trans x4)) AN4 I0 (by omega) (Fr.refl _ _) y4 (by omega) (Nat.zero_le _) (by omega)
  unfold p3_55
  have ll := S5.len
  have V5 := F5.view V4 fun id g s l c ex q q' => by
    have := rk id ⟨_, _, _, _, _, q⟩
    omega
  have AT5 := AT4.fr F5 (fun q => by omega)
  have hv5 := F5.sz
  refine c9 (n := n + 1) S5 o5 (by omega) (by omega) (by omega) fun h6 f m6 S6 F6 o6 U6 hm6 nr6 => ?_
  rw [o_ext0, o_ext1, o_ext2]
  have V6 := F6.view V5 fun id g s l c ex q q' => by
    have := rk id ⟨_, _, _, _, _, q⟩
    omega
  have AT6 := AT5.fr F6 (fun q => by omega)
  have AN6 := AN5.fr F6 (fun q => by omega)
  have kl : ∀ i, (keysOf (bk l) i).length ≤ l.length := fun i => by have := keys_len (bk l) i; rw [bk_len] at this; exact this
  have k1 := kl 1
  have k2 := kl 2
  have k3 := kl 3
  have rf : ∀ i, i < 4 → ∀ j, inRow (f i) j → j ≠ h2.sz := fun i hi j q q' => by have := U6.hi i hi j q; omega
  have rt : ∀ j, inRow (.slc h1.sz 0 0 5 5 true) j → j ≠ h2.sz := fun j q => by have := rk j q; omega
  refine a61 (n := n) (idT := h2.sz) (hq := h6) (by omega) V6 rt (U6.own 1 (by omega)).view (rf 1 (by omega)) (IV.ins 1) (by omega) (fun h7 T7 AT7 F7 o7 hT7 e7 => ?_) (n + 5) 0 h6 T5 AT6 (Fr.refl _ _) o6 rfl rfl (Nat.zero_le _) (by omega)
  unfold p3_72
  have V7 := F7.view V6 fun id g s l c ex q => rt id ⟨_, _, _, _, _, q⟩
  have U7 := U6.fr F7 fun i hi j q => rf i hi j q
  refine a76 (n := n) (idT := h2.sz) (hq := h7) (T0 := T7) (by omega) V7 rt (U7.own 3 (by omega)).view (rf 3 (by omega)) (IV.ins 3) (by omega) (fun h8 T8 AT8 F8 o8 e8 => ?_) (n + 5) 0 h7 T7 AT7 (Fr.refl _ _) o7 hT7 rfl (Nat.zero_le _) (by omega)
  unfold p3_87
  have V8 := F8.view V7 fun id g s l c ex q => rt id ⟨_, _, _, _, _, q⟩
  have U8 := U7.fr F8 fun i hi j q => rf i hi j q
  have hfin : T8 = N := by rw [e8, e7]; exact IV.fin S5.nd
  subst hfin
  have AN8 := (AN6.fr F7 (fun q => by omega)).fr F8 (fun q => by omega)
  refine a91 (n := n) (idT := h2.sz) (by omega) V8 (U8.own 2 (by omega)).view AT8 (fun k hk => IV.upd S5.nd hk) (by omega) ?_ (n + 5) 0 (Nat.zero_le _) (by omega)
  unfold p3_108
  exact a112 (n := n) (idT := h2.sz) (idN := h3.sz) o8 (by omega) IV.len AT8 AN8 k (n + 5) 0 (by omega) (by omega)
end Go.Proofs.Ytflpfelalockgaa
