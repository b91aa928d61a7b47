/-
  StagedExact, walked to its end.
-/
import Derived.Test.YtflpfelalockgaaS7
namespace Go.Proofs.Ytflpfelalockgaa
open Go.Ab
set_option linter.unusedSimpArgs false
set_option linter.unusedVariables false

theorem own_row {b : Nat} {h : AHeap} {n : Nat} {v : AV} {es : List (List AV)} (O : Own b h n v es) {j : Nat} (i : inRow v j) : b ≤ j := by
  rcases O with ⟨rfl, _⟩ | ⟨id, r, w1, rfl, _⟩
  · exact absurd i inRow_nil
  · rw [← inRow_slc.1 i]; exact w1
theorem own_low {b : Nat} {h : AHeap} {n : Nat} {v : AV} {es : List (List AV)} (O : Own b h n v es) : Own 0 h n v es := by
  rcases O with V | ⟨id, r, w1, w2⟩
  · exact .inl V
  · exact .inr ⟨id, r, Nat.zero_le _, w2⟩

theorem doR_kinds {b : Bk} (h : ∀ x ∈ b, 1 ≤ x.2 ∧ x.2 ≤ 3) (k : Str) (d : Nat) : ∀ x ∈ (doR b k d).2, 1 ≤ x.2 ∧ x.2 ≤ 3 := by
  unfold doR
  cases e : bec (kindB b k) d with
  | none => exact h
  | some j =>
    have hj := bec_le e
    cases j with
    | zero => exact fun x hx => h x (dlG_sub.subset hx)
    | succ j =>
      intro x hx
      rcases upG_mem hx with rfl | hx
      · exact ⟨by simp, hj⟩
      · exact h x hx
theorem upG_len {κ β : Type} [DecidableEq κ] (k : κ) (v : β) : ∀ (l : List (κ × β)), (upG l k v).length ≤ l.length + 1
  | [] => Nat.le_refl _
  | p :: t => by
    simp only [upG]
    split
    · simp
    · have := upG_len k v t
      simp only [List.length_cons]; omega
theorem doR_len (b : Bk) (k : Str) (d : Nat) : (doR b k d).2.length ≤ b.length + 1 := by
  unfold doR
  cases e : bec (kindB b k) d with
  | none => exact Nat.le_succ _
  | some j =>
    cases j with
    | zero => exact Nat.le_trans dlG_sub.length_le (Nat.le_succ _)
    | succ j => exact upG_len _ _ _

/-- The third book, while changes go into it. -/
structure CS (hz h : AHeap) (q : Nat) (v : AV) (b : Bk) (Z : Nat → Prop) : Prop where
  book : BookO h q v b
  ok : h.Ok
  ext : Ext hz h
  qlo : hz.sz ≤ q
  lo : ∀ j, inRow v j → hz.sz ≤ j
  nd : nd b
  kinds : ∀ x ∈ b, 1 ≤ x.2 ∧ x.2 ≤ 3
  z : ∀ j, Z j → j < h.sz ∧ j ≠ q ∧ ¬ inRow v j

section
variable {n : Nat} {hz : AHeap} {q d : Nat} {Z : Nat → Prop} {K : Kont}
theorem CS.view {h h' : AHeap} {v : AV} {b : Bk} (C : CS hz h q v b Z) (F : Fr (fun j => j = q ∨ inRow v j) h h') {k : Nat} {u : AV} {es : List (List AV)} (V : View h k u es) (hu : ∀ j, inRow u j → Z j) : View h' k u es :=
  F.view V fun id g s l c ex e e' => by
    obtain ⟨_, h1, h2⟩ := C.z id (hu id ⟨_, _, _, _, _, e⟩)
    rcases e' with e' | e'
    · exact h1 e'
    · exact h2 e'

theorem l92 {x3 x4 x5 x6 x11 x12 u : AV} {ks : List Str} {es : List (List AV)} {B78 : AV → AV → AV → AV → AV → AV → AV → AV → AHeap → Bool} (hzk : hz.Ok) (hd1 : 1 ≤ d) (hd : d ≤ 3) (hks : ks.length < 1000) (hn : 2000 < n) (hu : ∀ j, inRow u j → Z j) (hv : ∀ j, inRow x11 j → Z j)
    (h11 : ∀ h, View h 1 x11 es → ∃ p, iadrA h 1 x11 x12 = some p ∧ loadA h false 1 p = some (.int .i64 (d : Int))):
    ∀ mm i h w b v, CS hz h q v b Z → View h 1 u (enc1 ks) → View h 1 x11 es → i ≤ ks.length → ks.length - i < mm → b.length + (ks.length - i) < 1500 →
      (∀ h w' b' v', CS hz h q v' b' Z → View h 1 x11 es → foldP (w, b) ((ks.drop i).map fun k => (k, d)) = (w', b') → b'.length ≤ b.length + (ks.length - i) → p4_103 (callN E (n + 5)) (n + 5) B78 x3 x4 x5 x6 (.ptr q 0 0 0) (.int .i64 (w' : Int)) x11 x12 h K = true) →
      l4_92 (callN E (n + 5)) (n + 5) B78 mm x3 x4 x5 x6 (.ptr q 0 0 0) (.int .i64 (w : Int)) x11 x12 u (.int .i64 (i : Int)) h K = true := by
  have hlim : lim = 4611686018427387904 := rfl
  intro mm
  induction mm with
  | zero => intro i h w b v _ _ _ _ hm; omega
  | succ mm ih =>
    intro i h w b v C U V hi hm hb k
    unfold l4_92 b4_92
    rw [o_of U.len, enc1_len, o_lss]
    by_cases hlt : i < ks.length
    · rw [decide_eq_true (show (i : Int) < (ks.length : Int) by omega), g_tt, o_some, g_tt, o_eql, k_t]
      by_cases hw : w = 0
      · rw [condB_t (decide_eq_true (by omega))]
        obtain ⟨p, p1, p2⟩ := h11 h V
        have hki := List.getElem?_eq_getElem hlt
        generalize hkk : ks[i] = key at hki
        obtain ⟨pp, q1, q2⟩ := view_read U hki
        rw [o_of p1, o_of p2, o_of q1, o_of q2]
        refine c12 (n := n + 2) C.book C.ok (by omega) (by omega) C.kinds hd1 hd fun h1 v1 B1 F1 o1 r1 => ?_
        rw [o_of (inc64 (show i < lim by omega))]
        have zz := F1.sz
        have zx := C.ext.1
        have C1 : CS hz h1 q v1 (doR b key d).2 Z := ⟨B1, o1, F1.ext C.ext hzk (fun j e => by
            rcases e with rfl | e
            · exact C.qlo
            · exact C.lo j e), C.qlo, fun j e => by
            rcases r1 j e with e | e
            · exact C.lo j e
            · omega, doR_nd C.nd _ _, doR_kinds C.kinds _ _, fun j e => by
            obtain ⟨a1, a2, a3⟩ := C.z j e
            refine ⟨by omega, a2, fun i => ?_⟩
            rcases r1 j i with i | i
            · exact a3 i
            · omega⟩
        have hl := doR_len b key d
        have hs : foldP (w, b) ((ks.drop i).map fun k => (k, d)) = foldP ((doR b key d).1, (doR b key d).2) ((ks.drop (i + 1)).map fun k => (k, d)) := by
          rw [List.drop_eq_getElem_cons hlt, hkk]
          show foldP (stp1 (w, b) (key, d)) _ = _
          have : stp1 (w, b) (key, d) = doR b key d := if_pos hw
          rw [this]
        rw [hs] at k
        refine ih (i + 1) h1 _ _ v1 C1 (C.view F1 U hu) (C.view F1 V hv) (by omega) (by omega) (by omega) fun h2 w2 b2 v2 C2 V2 e2 hb2 => k h2 w2 b2 v2 C2 V2 e2 (by omega)
      · rw [condB_f (decide_eq_false (by omega))]
        exact k h w b v C V (foldP_no hw _ _) (by omega)
    · rw [decide_eq_false (show ¬ (i : Int) < (ks.length : Int) by omega), g_ft, g_ft, k_f, condB_false]
      rw [List.drop_of_length_le (by omega)] at k
      exact k h w b v C V rfl (by omega)

def restS (b : Bk) : Nat → Bk
  | 0 => seqs b
  | 1 => seqOf b 2 ++ seqOf b 3
  | 2 => seqOf b 3
  | _ => []
theorem restS_step (b : Bk) {t : Nat} (h : t < 3) : restS b t = seqOf b (t + 1) ++ restS b (t + 1) := by
  have : t = 0 ∨ t = 1 ∨ t = 2 := by omega
  rcases this with rfl | rfl | rfl
  · rfl
  · rfl
  · simp [restS]
theorem foldP_app (x : Nat × Bk) (a c : Bk) : foldP x (a ++ c) = foldP (foldP x a) c := by unfold foldP; rw [List.foldl_append]

theorem l78 {x3 x4 x5 kv vb : AV} {qb : Nat} {b0 b' : Bk} (hzk : hz.Ok) (Bb : BookO hz qb vb b') (hbl : b'.length < 300) (hn : 2000 < n)
    (k : ∀ h w b v, CS hz h q v b (inRow kv) → foldP (0, b0) (seqs b') = (w, b) → b.length < 1500 → p4_104 (callN E (n + 5)) (n + 5) x3 x4 x5 (.ptr qb 0 0 0) (.ptr q 0 0 0) (.int .i64 (w : Int)) h K = true) :
    ∀ mm t h w b v, CS hz h q v b (inRow kv) → View h 1 kv [[.int .i64 1], [.int .i64 2], [.int .i64 3]] → t ≤ 3 → 3 - t < mm → b.length ≤ 150 + t * 300 → foldP (w, b) (restS b' t) = foldP (0, b0) (seqs b') →
      l4_78 (callN E (n + 5)) (n + 5) mm x3 x4 x5 (.ptr qb 0 0 0) (.ptr q 0 0 0) (.int .i64 (w : Int)) kv (.int .i64 (t : Int)) h K = true := by
  have hlim : lim = 4611686018427387904 := rfl
  intro mm
  induction mm with
  | zero => intro t h w b v _ _ _ hm; omega
  | succ mm ih =>
    intro t h w b v C V ht hm hb he
    unfold l4_78 b4_78
    rw [o_lss]
    by_cases hlt : t < 3
    · rw [condB_t (decide_eq_true (by omega))]
      unfold p4_85
      have hk : ∀ h, View h 1 kv [[.int .i64 1], [.int .i64 2], [.int .i64 3]] → ∃ p, iadrA h 1 kv (.int .i64 (t : Int)) = some p ∧ loadA h false 1 p = some (.int .i64 ((t + 1 : Nat) : Int)) := fun h V => by
        have e3 : ([[AV.int .i64 1], [.int .i64 2], [.int .i64 3]] : List (List AV))[t]? = some [.int .i64 ((t + 1 : Nat) : Int)] := by
          have : t = 0 ∨ t = 1 ∨ t = 2 := by omega
          rcases this with rfl | rfl | rfl <;> rfl
        obtain ⟨id, g, j, w⟩ := View.atE V e3
        exact ⟨_, (w h (Ext.refl _)).1 _, (w h (Ext.refl _)).2 false 0 1⟩
      obtain ⟨p, p1, p2⟩ := hk h V
      rw [o_of p1, o_of p2]
      refine c17 (n := n + 4) (Bb.ext C.ext) C.ok (by omega) (by omega) fun u h1 e1 o1 U => ?_
      have kl := keys_len b' (t + 1)
      have C1 : CS hz h1 q v b (fun j => inRow kv j ∨ inRow u j) := ⟨C.book.ext e1, o1, C.ext.trans e1, C.qlo, C.lo, C.nd, C.kinds, fun j e => by
        have z1 := e1.1
        rcases e with e | e
        · obtain ⟨a1, a2, a3⟩ := C.z j e
          exact ⟨by omega, a2, a3⟩
        · have a1 := own_row U e
          have a2 := own_lt (own_low U) o1 e
          refine ⟨a2, fun q => ?_, fun i => ?_⟩
          · have := C.book.var.lt C.ok; omega
          · have := own_lt C.book.own C.ok i; omega⟩
      refine l92 (n := n) (ks := keysOf b' (t + 1)) (d := t + 1) hzk (by omega) (by omega) (by omega) hn (fun j e => .inr e) (fun j e => .inl e) hk (n + 5) 0 h1 w b v C1 U.view (V.ext e1) (Nat.zero_le _) (by omega) (by omega) fun h2 w2 b2 v2 C2 V2 e2 hb2 => ?_
      unfold p4_103
      rw [o_of (inc64 (show t < lim by omega))]
      refine ih (t + 1) h2 w2 b2 v2 ⟨C2.book, C2.ok, C2.ext, C2.qlo, C2.lo, C2.nd, C2.kinds, fun j e => C2.z j (.inl e)⟩ V2 (by omega) (by omega) (by omega) ?_
      rw [← he, restS_step b' hlt, foldP_app, ← e2]
      rfl
    · rw [condB_f (decide_eq_false (by omega))]
      have : t = 3 := by omega
      subst this
      exact k h w b v C he.symm (by omega)
end

theorem true_and (a : AV) (k : AV → Bool) : optB (pickV (.bool true) a (.bool false)) k = k a := rfl

theorem c4 {n : Nat} {h : AHeap} {va vb : AV} {A B : List (Int × Str)} {K : Kont} (o : h.Ok) (VA : View h 2 va (A.map encO)) (VB : View h 2 vb (B.map encO)) (hn : 2000 < n) (k : ∀ h', K (.bool true) h' = true) : callN E (n + 6) (.func 4) [.agg [va, vb]] h K = true := by
  have hlim : lim = 4611686018427387904 := rfl
  apply d4
  unfold s4
  have la : va.leaf = true := VA.leaf
  have lb : vb.leaf = true := VB.leaf
  have A1 : boxA h 2 (.agg [va, vb]) = some (.ptr h.sz 0 0 0, Ab.newRow h [[va, vb]] 2) := box_eq (n := 2) rfl (by decide) (by simp only [AV.cells, allLeaf, la, lb, cond_true])
  rw [p_of A1]
  have e1 := ext_newRow o [[va, vb]] 2
  have o1 := ok_newRow o [[va, vb]] 2
  have I : Inp (Ab.newRow h [[va, vb]] 2) h.sz va vb A B := ⟨var_new h _, VA.ext e1, VB.ext e1⟩
  generalize Ab.newRow h [[va, vb]] 2 = hb at *
  refine c6 (n := n + 4) o1 fun h1 p m x1 y1 S1 hp hm => ?_
  refine c6 (n := n + 4) y1 fun h2 p2 m2 x2 y2 S2 hp2 hm2 => ?_
  rw [eqp, g_ff, o_some, g_ff, eqp, k_f, condB_false]
  unfold p4_14
  rw [o_of (show buildV [AV.nilSlc] [] = some (.agg [.nilSlc]) from rfl)]
  have A3 : boxA h2 1 (.agg [.nilSlc]) = some (.ptr h2.sz 0 0 0, Ab.newRow h2 [[.nilSlc]] 1) := box_eq (n := 1) rfl (by decide) rfl
  rw [p_of A3]
  have x3 := ext_newRow y2 [[AV.nilSlc]] 1
  have y3 := ok_newRow y2 [[AV.nilSlc]] 1
  have Q1 : Var (Ab.newRow h2 [[AV.nilSlc]] 1) h2.sz [.nilSlc] := var_new h2 _
  have z3 : (Ab.newRow h2 [[AV.nilSlc]] 1).sz = h2.sz + 1 := rfl
  generalize Ab.newRow h2 [[AV.nilSlc]] 1 = h3 at *
  rw [o_of (show buildV [AV.nilSlc] [] = some (.agg [.nilSlc]) from rfl)]
  have A4 : boxA h3 1 (.agg [.nilSlc]) = some (.ptr h3.sz 0 0 0, Ab.newRow h3 [[.nilSlc]] 1) := box_eq (n := 1) rfl (by decide) rfl
  rw [p_of A4]
  have x4 := ext_newRow y3 [[AV.nilSlc]] 1
  have y4 := ok_newRow y3 [[AV.nilSlc]] 1
  have Q2 : Var (Ab.newRow h3 [[AV.nilSlc]] 1) h3.sz [.nilSlc] := var_new h3 _
  have z4 : (Ab.newRow h3 [[AV.nilSlc]] 1).sz = h3.sz + 1 := rfl
  generalize Ab.newRow h3 [[AV.nilSlc]] 1 = hs at *
  have pl := S1.plt y1
  have ml := S1.mlt y1
  have pl2 := S2.plt y2
  have ml2 := S2.mlt y2
  have zx1 := x1.1
  have zx2 := x2.1
  have fnil : ∀ {p m q j}, foot p m q .nilSlc j → j = p ∨ j = m ∨ j = q := fun f => by
    rcases f with f | f | f | f
    · exact .inl f
    · exact .inr (.inl f)
    · exact .inr (.inr f)
    · exact absurd f inRow_nil
  have D1 : Duo hs p m 0 h2.sz .nilSlc [] := ⟨S1.ext ((x2.trans x3).trans x4), ⟨Q1.ext x4, Own.nil _ _ _, inRow_nil⟩, by omega, by omega, inRow_nil, inRow_nil⟩
  have D2 : Duo hs p2 m2 0 h3.sz .nilSlc [] := ⟨S2.ext (x3.trans x4), ⟨Q2, Own.nil _ _ _, inRow_nil⟩, by omega, by omega, inRow_nil, inRow_nil⟩
  have Xb : Ext hb hs := ((x1.trans x2).trans x3).trans x4
  have Y1 : Sync hb hs hs p m 0 h2.sz .nilSlc .nilSlc [] := ⟨D1, Fr.refl _ _, y4, Xb, fun j f => .inl f, Xb, o1, y4, fun j f => by
    rcases fnil f with f | f | f <;> omega⟩
  refine l20 (n := n) I (by omega) (fun ha c v l SA hc => ?_) (n + 5) 0 hs 0 .nilSlc [] Y1 (by omega) (by omega) (Nat.zero_le _) (by omega)
  unfold p4_37
  have dis : ∀ j, foot p2 m2 h3.sz .nilSlc j → ¬ foot p m h2.sz .nilSlc j := fun j f g => by
    rcases fnil f with f | f | f <;> rcases fnil g with g | g | g <;> omega
  have za := SA.fr.sz
  have D2a := D2.fr SA.fr dis
  have Y2 : Sync hb ha ha p2 m2 0 h3.sz .nilSlc .nilSlc [] := ⟨D2a, Fr.refl _ _, SA.ok, SA.ext, fun j f => .inl f, SA.ext, o1, SA.ok, fun j f => by
    rcases fnil f with f | f | f <;> omega⟩
  refine l41 (n := n) I (by omega) (fun hz c2 v2 l2 SB hc2 => ?_) (n + 5) 0 ha 0 .nilSlc [] Y2 (by omega) (by omega) (Nat.zero_le _) (by omega)
  -- both are laid
  have zb := SB.fr.sz
  have fA : ∀ j, foot p m h2.sz v j → (j = p ∨ j = m ∨ j = h2.sz) ∨ hs.sz ≤ j := fun j f => by
    rcases SA.sub j f with f | f
    · exact .inl (fnil f)
    · exact .inr f
  have fAlt : ∀ j, foot p m h2.sz v j → j < ha.sz := fun j f => SA.duo.lt SA.ok f
  have fB : ∀ j, foot p2 m2 h3.sz v2 j → (j = p2 ∨ j = m2 ∨ j = h3.sz) ∨ ha.sz ≤ j := fun j f => by
    rcases SB.sub j f with f | f
    · exact .inl (fnil f)
    · exact .inr f
  have DA := SA.duo.fr SB.fr fun j f g => by
    rcases fA j f with f | f <;> rcases fnil g with g | g | g <;> omega
  have DB := SB.duo
  have dAB : ∀ j, foot p m h2.sz v j → ¬ foot p2 m2 h3.sz v2 j := fun j f g => by
    have := fAlt j f
    rcases fA j f with f | f <;> rcases fB j g with g | g <;> omega
  have oz := SB.ok
  have la1 := DA.set.len
  have lb1 := DB.set.len
  have bla := bk_len l
  have blb := bk_len l2
  unfold p4_58
  refine c16nil (n := n + 4) ?_
  have one : ∀ k : AV → Bool, optB (binA .neq (.int .i64 1) (.int .i64 1)) k = k (.bool false) := fun k => rfl
  rw [one, g_ff, o_some, g_ff, o_some, gc_ff]
  refine c16self (n := n + 4) DA.set ?_
  rw [g_ff, one, k_f, condB_false]
  unfold p4_66
  rw [o_of (show buildV [AV.nilSlc] [] = some (.agg [.nilSlc]) from rfl)]
  have A5 : boxA hz 1 (.agg [.nilSlc]) = some (.ptr hz.sz 0 0 0, Ab.newRow hz [[.nilSlc]] 1) := box_eq (n := 1) rfl (by decide) rfl
  rw [p_of A5]
  have x5 := ext_newRow oz [[AV.nilSlc]] 1
  have y5 := ok_newRow oz [[AV.nilSlc]] 1
  have Q5 : Var (Ab.newRow hz [[AV.nilSlc]] 1) hz.sz [.nilSlc] := var_new hz _
  have z5 : (Ab.newRow hz [[AV.nilSlc]] 1).sz = hz.sz + 1 := rfl
  generalize Ab.newRow hz [[AV.nilSlc]] 1 = h5 at *
  have BA5 := DA.book.ext x5
  rw [o_nilck, fa0, o_of (b0 Q5), o_nilck, fa0, o_of (b0 BA5.var)]
  have hmo : most = 1099511627776 := rfl
  obtain ⟨vc, h6, a1, a2, a3, a4, a5⟩ := own_app (bytes := 24) (Own.nil 0 h5 2) (by decide) y5 BA5.own.view.src (by rw [encK_len]; simp; omega) (by rw [encK_len]; simp; omega)
  rw [p_of a1, o_nilck, fa0]
  have x6 : Ext h5 h6 := ⟨a4.sz, fun j ob e => a4.keep j ob inRow_nil e⟩
  rw [List.nil_append] at a2
  have Q6 := Q5.ext x6
  rw [u_of (Q6.set1 (off := 0) (v := vc) (show 0 < 1 by omega) a2.view.leaf)]
  have f7 := Fr.put (X := fun j => j = hz.sz) rfl h6 (.row (VRow ([AV.nilSlc].set 0 vc)))
  have y7 := a3.put (Q6.lt a3) (.row (VRow ([AV.nilSlc].set 0 vc)))
  have Q7 : Var (h6.put hz.sz (.row (VRow ([AV.nilSlc].set 0 vc)))) hz.sz [vc] := var_put _ _
  have z7 : (h6.put hz.sz (.row (VRow ([AV.nilSlc].set 0 vc)))).sz = h6.sz := by simp
  generalize h6.put hz.sz (.row (VRow ([AV.nilSlc].set 0 vc))) = h7 at *
  have rc : ∀ j, inRow vc j → h5.sz ≤ j := fun j i => by
    rcases a5 j i with i | i
    · exact absurd i inRow_nil
    · exact i
  have zx6 := x6.1
  have X7 : Ext hz h7 := f7.ext (x5.trans x6) oz fun j e => by omega
  have BC7 : BookO h7 hz.sz vc (bk l) := ⟨Q7, own_fr a2 f7 (fun j i e => by have := rc j i; have e : j = hz.sz := e; omega), fun i => by have := rc _ i; omega⟩
  obtain ⟨kv, b1, b2⟩ := bslice_view (h := h7) (n := 3) (sz := 1) (z := [AV.int .i64 0]) (ps := [(0, .int .i64 1), (1, .int .i64 2), (2, .int .i64 3)]) (es := [[.int .i64 1], [.int .i64 2], [.int .i64 3]]) rfl (by decide) (by decide) rfl rfl rfl
  rw [p_of b1]
  have x8 := ext_newRow y7 [[AV.int .i64 1], [.int .i64 2], [.int .i64 3]] 1
  have y8 := ok_newRow y7 [[AV.int .i64 1], [.int .i64 2], [.int .i64 3]] 1
  have z8 : (Ab.newRow h7 [[AV.int .i64 1], [.int .i64 2], [.int .i64 3]] 1).sz = h7.sz + 1 := rfl
  have kvr : ∀ j, inRow kv j → j = h7.sz := fun j q => by
    have : kv = .slc h7.sz 0 0 3 3 true := by
      have e1 : bsliceV h7 3 1 [AV.int .i64 0] [(0, .int .i64 1), (1, .int .i64 2), (2, .int .i64 3)] = some (.slc h7.sz 0 0 3 3 true, Ab.newRow h7 [[.int .i64 1], [.int .i64 2], [.int .i64 3]] 1) := rfl
      rw [e1] at b1
      exact ((Prod.mk.inj (Option.some.inj b1)).1).symm
    rw [this] at q
    exact (inRow_slc.1 q).symm
  generalize Ab.newRow h7 [[AV.int .i64 1], [.int .i64 2], [.int .i64 3]] 1 = h8 at *
  have C8 : CS hz h8 hz.sz vc (bk l) (inRow kv) := ⟨BC7.ext x8, y8, X7.trans x8, Nat.le_refl _, fun j i => by have := rc j i; omega, DA.set.nd, DA.set.kinds, fun j i => by
    have := kvr j i
    refine ⟨by omega, by omega, fun i' => ?_⟩
    have := own_lt BC7.own y7 i'
    omega⟩
  refine l78 (n := n) (b0 := bk l) oz DB.book (by omega) hn (fun h9 w b v9 C9 hw hbl => ?_) (n + 5) 0 h8 0 (bk l) vc C8 b2 (by omega) (by omega) (by omega) rfl
  unfold p4_104
  have S9 := DA.set.ext C9.ext
  have T9 := DB.set.ext C9.ext
  have ne1 : p ≠ p2 := by omega
  have ne2 : m ≠ m2 := by omega
  have ne3 : p ≠ m2 := by omega
  have ne4 : p2 ≠ m := by omega
  have nda := DA.set.nd
  have ndq := seqs_nd DB.set.nd
  have np1 : ¬ foot p2 m2 h3.sz v2 p := dAB p (.inl rfl)
  refine c16 (n := n + 1) S9 T9 C9.ok ne1 ne2 ne3 ne4 (by omega) (by omega) (by omega) (by omega) (fun hB ha' ea oa => ?_) (fun hG ha' l3 c3 m3 S3 hbk hc3 T3 F3 o3 hm3 => ?_)
  · rw [mergeOk_iff DB.set.kinds] at hB
    have hw33 : w = 33 := by
      have := foldP_not nda ndq hB
      rw [hw] at this; exact this
    subst hw33
    have e33 : ∀ k : AV → Bool, optB (binA .neq (.int .i64 33) (.int .i64 ((33 : Nat) : Int))) k = k (.bool false) := fun k => rfl
    have n33 : ∀ k : AV → Bool, optB (binA .neq (.int .i64 ((33 : Nat) : Int)) (.int .i64 0)) k = k (.bool true) := fun k => rfl
    rw [e33, condB_false, n33, condB_true]
    have EE := C9.ext.trans ea
    refine c18 (n := n) (DA.set.ext EE) (DA.book.ext EE) oa DA.qp DA.rp (by omega) (by omega) (by omega) fun hc' mc Sc Fc oc => ?_
    have DBc := (DB.ext EE).fr Fc fun j f e => np1 (by rw [← e]; exact f)
    rw [g_tt, o_some, g_tt, o_some, gc_tt]
    refine c18 (n := n) DBc.set DBc.book oc DB.qp DB.rp (by omega) (by omega) (by omega) fun hd' md Sd Fd od => ?_
    rw [k_t, gc_tt]
    refine c11 (n := n) od (by omega) fun he' => ?_
    rw [k_t]
    exact k he'
  · have hok := hG
    rw [mergeOk_iff DB.set.kinds] at hG
    have hy := foldP_yes nda ndq hG
    rw [hw, ← mergeB_fold] at hy
    have hw0 : w = 0 := congrArg Prod.fst hy
    have hwb : b = mergeB (bk l) (bk l2) := congrArg Prod.snd hy
    subst hw0
    have e00 : ∀ k : AV → Bool, optB (binA .neq (.int .i64 0) (.int .i64 ((0 : Nat) : Int))) k = k (.bool false) := fun k => rfl
    rw [e00, condB_false, ne0, condB_false]
    have z9 := C9.ext.1
    have pz := DA.lt oz (.inl rfl : foot p m h2.sz v p)
    have mz := DA.lt oz (.inr (.inl rfl) : foot p m h2.sz v m)
    have p2z := DB.lt oz (.inl rfl : foot p2 m2 h3.sz v2 p2)
    have B3 : BookO ha' hz.sz v9 (bk l3) := by
      rw [hbk, ← hwb]
      exact C9.book.fr F3 (fun e => by omega) fun j i e => by have := C9.lo j i; omega
    have l3l := S3.len
    refine c18 (n := n) S3 B3 o3 (by omega) (fun i => by have := C9.lo _ i; omega) (by omega) (by omega) (by omega) fun hc' mc Sc Fc oc => ?_
    have T4 := T3.fr Fc (fun e => ne1 e.symm) (fun e => by omega)
    rw [g_tt, o_some, gc_tt]
    refine c15 (n := n + 4) T4 ?_
    rw [g_tt, o_of (show binA .eql (.int .i64 ((bk []).length : Int)) (.int .i64 0) = some (.bool true) from rfl), k_t, gc_tt]
    refine c11 (n := n) oc (by omega) fun he' => ?_
    rw [k_t]
    exact k he'
end Go.Proofs.Ytflpfelalockgaa
