/-
  StagedExact, walked.
-/
import Derived.Test.YtflpfelalockgaaS6
namespace Go.Proofs.Ytflpfelalockgaa
open Go.Ab
set_option linter.unusedSimpArgs false
set_option linter.unusedVariables false

theorem view_same {h : AHeap} {n : Nat} {v : AV} {es : List (List AV)} (V : View h n v es) : AV.same v v = true := by
  rcases V with ⟨_, rfl | rfl⟩ | ⟨id, g, s, cap, ex, r, rfl, _⟩
  · rfl
  · rfl
  · exact same_slc _ _ _ _ _ _
theorem own_same {h : AHeap} {n : Nat} {v : AV} {es : List (List AV)} (V : Own 0 h n v es) : AV.same v v = true := view_same V.view
theorem same_O (z : Int) (s : Str) : AV.same (.agg [.int .i64 z, .str s]) (.agg [.int .i64 z, .str s]) = true := by
  have h1 := same_int .i64 z
  have h2 := same_str s
  simp only [AV.same, sames] at *
  rw [h1, h2]; rfl

/-- What is handed in. -/
structure Inp (hb : AHeap) (w : Nat) (va vb : AV) (A B : List (Int × Str)) : Prop where
  w : Var hb w [va, vb]
  a : View hb 2 va (A.map encO)
  b : View hb 2 vb (B.map encO)

section
variable {hb : AHeap} {w : Nat} {va vb : AV} {A B : List (Int × Str)}
theorem Inp.l0 (I : Inp hb w va vb A B) {h : AHeap} (e : Ext hb h) : loadA h false 1 (.ptr w 0 0 0) = some va := by rw [(I.w.ext e).load]; rfl
theorem Inp.l1 (I : Inp hb w va vb A B) {h : AHeap} (e : Ext hb h) : loadA h false 1 (.ptr w 0 0 1) = some vb := by rw [(I.w.ext e).load]; rfl
theorem Inp.na (I : Inp hb w va vb A B) {h : AHeap} (e : Ext hb h) : lenA h 1 va = some (.int .i64 (A.length : Int)) := by
  have := (I.a.ext e).len
  rwa [List.length_map] at this
theorem Inp.nb (I : Inp hb w va vb A B) {h : AHeap} (e : Ext hb h) : lenA h 1 vb = some (.int .i64 (B.length : Int)) := by
  have := (I.b.ext e).len
  rwa [List.length_map] at this
theorem op_at {v : AV} (V : View hb 2 v (A.map encO)) {i : Nat} {z : Int} {s : Str} (hi : A[i]? = some (z, s)) :
    ∃ id g j, (∀ h, Ext hb h → iadrA h 2 v (.int .i64 (i : Int)) = some (.ptr id g j 0)) ∧ (∀ h, Ext hb h → loadA h true 2 (.ptr id g j 0) = some (.agg [.int .i64 z, .str s])) ∧ (∀ h, Ext hb h → loadA h false 1 (.ptr id g j 0) = some (.int .i64 z)) ∧ (∀ h, Ext hb h → loadA h false 1 (.ptr id g j 1) = some (.str s)) := by
  obtain ⟨id, g, j, q⟩ := View.atE V (show (A.map encO)[i]? = some (encO (z, s)) by rw [List.getElem?_map, hi]; rfl)
  exact ⟨id, g, j, fun h e => (q h e).1 _, fun h e => (q h e).2 true 0 2, fun h e => (q h e).2 false 0 1, fun h e => (q h e).2 false 1 1⟩
end

theorem fa1 (id g j : Nat) (k : AV → Bool) : optB (fadrA 1 (.ptr id g j 0)) k = k (.ptr id g j 1) := rfl
theorem fa0 (id g j : Nat) (k : AV → Bool) : optB (fadrA 0 (.ptr id g j 0)) k = k (.ptr id g j 0) := rfl
theorem neqI (z : Int) (k : AV → Bool) : optB (binA .neq (.int .i64 z) (.int .i64 z)) k = k (.bool false) := by rw [neqi]; rfl

/-- While both are done the same: the set, its book. -/
structure Sync (hb hs h : AHeap) (p m c q : Nat) (v0 v : AV) (l : Ls) : Prop where
  duo : Duo h p m c q v l
  fr : Fr (foot p m q v0) hs h
  ok : h.Ok
  ext : Ext hb h
  sub : ∀ j, foot p m q v j → foot p m q v0 j ∨ hs.sz ≤ j
  base : Ext hb hs
  bok : hb.Ok
  hok : hs.Ok
  lo : ∀ j, foot p m q v0 j → hb.sz ≤ j

theorem Sync.go {hb hs h : AHeap} {p m c q : Nat} {v0 v : AV} {l : Ls} (S : Sync hb hs h p m c q v0 v l) {h' : AHeap} {c' : Nat} {v' : AV} {l' : Ls} (D : Duo h' p m c' q v' l') (F : Fr (foot p m q v) h h') (o : h'.Ok) (s : ∀ j, foot p m q v' j → foot p m q v j ∨ h.sz ≤ j) : Sync hb hs h' p m c' q v0 v' l' := by
  have z := S.fr.sz
  have zb := S.base.1
  have lov : ∀ j, foot p m q v j → hb.sz ≤ j := fun j f => by
    rcases S.sub j f with f | f
    · exact S.lo j f
    · omega
  refine ⟨D, ?_, o, F.ext S.ext S.bok lov, fun j f => ?_, S.base, S.bok, S.hok, S.lo⟩
  · exact Fr.new (Fr.refl _ hs) ((S.fr.mono fun j f => .inl f).trans (F.mono fun j f => S.sub j f)) S.hok
  · rcases s j f with f | f
    · exact S.sub j f
    · exact .inr (by omega)
theorem Sync.ext' {hb hs h : AHeap} {p m c q : Nat} {v0 v : AV} {l : Ls} (S : Sync hb hs h p m c q v0 v l) {h' : AHeap} (e : Ext h h') (o : h'.Ok) : Sync hb hs h' p m c q v0 v l :=
  S.go (S.duo.ext e) (Fr.of_ext e) o fun j f => .inl f

/-- A change, of the set first, then of its book. -/
theorem step_both {n : Nat} {h : AHeap} {p m c q : Nat} {v : AV} {l : Ls} {z : Int} {key : Str} (D : Duo h p m c q v l) (o : h.Ok) {h1 : AHeap} {l' : Ls} {c' : Nat} (S1 : SetO h1 p m c' l') (F1 : Fr (fun j => j = p ∨ j = m) h h1) (o1 : h1.Ok) (b1 : bk l' = (doR (bk l) key (kdO z)).2)
    {h2 : AHeap} (e2 : Ext h1 h2) {h3 : AHeap} {v' : AV} (B3 : BookO h3 q v' (doR (bk l) key (kdO z)).2) (F3 : Fr (fun j => j = q ∨ inRow v j) h2 h3) (r3 : ∀ j, inRow v' j → inRow v j ∨ h2.sz ≤ j) :
    Duo h3 p m c' q v' l' ∧ Fr (foot p m q v) h h3 ∧ ∀ j, foot p m q v' j → foot p m q v j ∨ h.sz ≤ j := by
  have z1 := F1.sz
  have z2 := e2.1
  have hp := D.set.plt o
  have hm := D.set.mlt o
  have np : ¬ inRow v' p := fun i => by
    rcases r3 p i with i | i
    · exact D.rp i
    · omega
  have nm : ¬ inRow v' m := fun i => by
    rcases r3 m i with i | i
    · exact D.rm i
    · omega
  refine ⟨⟨(S1.ext e2).fr F3 (fun e => ?_) (fun e => ?_), by rw [b1]; exact B3, D.qp, D.qm, np, nm⟩, ?_, fun j f => ?_⟩
  · rcases e with e | e
    · exact D.qp e.symm
    · exact D.rp e
  · rcases e with e | e
    · exact D.qm e.symm
    · exact D.rm e
  · refine (F1.mono fun j e => ?_).trans ((Fr.of_ext e2).trans (F3.mono fun j e => ?_))
    · rcases e with e | e
      · exact .inl e
      · exact .inr (.inl e)
    · rcases e with e | e
      · exact .inr (.inr (.inl e))
      · exact .inr (.inr (.inr e))
  · rcases f with e | e | e | e
    · exact .inl (.inl e)
    · exact .inl (.inr (.inl e))
    · exact .inl (.inr (.inr (.inl e)))
    · rcases r3 j e with e | e
      · exact .inl (.inr (.inr (.inr e)))
      · exact .inr (by omega)

section
variable {n w : Nat} {hb hs : AHeap} {va vb : AV} {A B : List (Int × Str)} {K : Kont}

theorem l20 {p m q : Nat} {v0 x4 x6 : AV} (I : Inp hb w va vb A B) (hn : 1000 < n)
    (k : ∀ h c v l, Sync hb hs h p m c q v0 v l → c ≤ 100 → p4_37 (callN E (n + 5)) (n + 5) (.ptr w 0 0 0) (.ptr p 0 0 0) x4 (.ptr q 0 0 0) x6 h K = true) :
    ∀ mm i h c v l, Sync hb hs h p m c q v0 v l → c ≤ i → i ≤ 100 → i ≤ A.length → 100 - i < mm →
      l4_20 (callN E (n + 5)) (n + 5) mm (.ptr w 0 0 0) (.ptr p 0 0 0) x4 (.ptr q 0 0 0) x6 (.int .i64 (i : Int)) h K = true := by
  have hlim : lim = 4611686018427387904 := rfl
  intro mm
  induction mm with
  | zero => intro i h c v l _ _ _ _ hm; omega
  | succ mm ih =>
    intro i h c v l S hci hi hia hm
    unfold l4_20 b4_20
    have e := S.ext
    rw [fa0, o_of (I.l0 e), o_of (I.na e), o_lss]
    by_cases hlt : i < A.length
    · rw [decide_eq_true (show (i : Int) < (A.length : Int) by omega), g_tt, o_some, g_tt, o_lss, k_t]
      by_cases h100 : i < 100
      · rw [condB_t (decide_eq_true (by omega))]
        obtain ⟨z, s, hzs⟩ : ∃ z s, A[i]? = some (z, s) := ⟨_, _, List.getElem?_eq_getElem hlt⟩
        obtain ⟨id, g, j, r1, r2, r3, r4⟩ := op_at I.a hzs
        rw [fa0, o_of (I.l0 e), o_of (r1 h e), o_of (r2 h e), fa0, o_of (I.l0 e), o_of (r1 h e), o_of (r2 h e), fa0, o_of (I.l0 e), o_of (r1 h e), fa1, o_of (r4 h e)]
        have hll := S.duo.set.len
        have D := S.duo
        have o := S.ok
        refine c8 (n := n + 1) S.duo.set o (by omega) fun h1 l1 c1 hc1 S1 F1 o1 b1 => ?_
        have loS : ∀ j, (j = p ∨ j = m) → hb.sz ≤ j := fun j e' => by
          have : foot p m q v j := by
            rcases e' with e' | e'
            · exact .inl e'
            · exact .inr (.inl e')
          have zb := S.base.1
          rcases S.sub j this with f | f
          · exact S.lo j f
          · omega
        have e1 : Ext hb h1 := F1.ext e S.bok loS
        have va_s := view_same I.a
        rw [sameB_of (I.l0 e1) va_s, sameB_of (r1 h1 e1) (same_ptr _ _ _ _), sameB_of (r2 h1 e1) (same_O _ _), sameB_of (I.l0 e1) va_s, sameB_of (r1 h1 e1) (same_ptr _ _ _ _), sameB_of (r4 h1 e1) (same_str _)]
        refine c7 (n := n + 4) o1 fun h2 e2 o2 => ?_
        have e12 := e1.trans e2
        rw [sameB_of (I.l0 e12) va_s, sameB_of (r1 h2 e12) (same_ptr _ _ _ _), sameB_of (r4 h2 e12) (same_str _)]
        have B1 : BookO h1 q v (bk l) := D.book.fr F1 (fun e => by
          rcases e with e | e
          · exact D.qp e
          · exact D.qm e) fun j i e => by
          rcases e with e | e
          · exact D.rp (by rw [← e]; exact i)
          · exact D.rm (by rw [← e]; exact i)
        have bl := bk_len l
        refine c12 (n := n + 2) (B1.ext e2) o2 (by omega) (by omega) D.set.kinds (kdO_le z).1 (kdO_le z).2 fun h3 v' B3 F3 o3 r3' => ?_
        obtain ⟨D3, G3, sub3⟩ := step_both (n := n) D o S1 F1 o1 b1 e2 B3 F3 r3'
        have S3 := S.go D3 G3 o3 sub3
        have e3 := S3.ext
        rw [neqI, g_ff, o_some, g_ff, fa0, g_ff, o_of (I.l0 e3), g_ff, o_some, g_ff, o_of (r1 h3 e3), g_ff, fa1, g_ff, o_of (r4 h3 e3), g_ff, o_some, g_ff, fa0, g_ff, o_of (I.l0 e3), g_ff, o_some, g_ff, o_of (r1 h3 e3), g_ff, fa1, g_ff, o_of (r4 h3 e3), gc_ff]
        refine c13 (n := n + 4) S3.duo.set ?_
        have sgf : ∀ (o : Option AV) (u : AV) (r : Bool), sameG (wantV (.bool false) false) o u r = sameB o u r := fun _ _ _ => rfl
        rw [sgf, sameB_of (I.l0 e3) va_s, sgf, sameB_of (r1 h3 e3) (same_ptr _ _ _ _), sgf, sameB_of (r4 h3 e3) (same_str _), gc_ff]
        have bl1 := bk_len l1
        have ll1 := S1.len
        refine c14 (n := n + 3) S3.duo.book (by omega) (by omega) ?_
        rw [g_ff, neqI, k_f, g_ff, o_some, g_ff, o_some, g_ff, o_nilck, g_ff, fa0, g_ff, o_of (b0 S3.duo.book.var), g_ff, o_of S3.duo.book.own.view.len, gc_ff]
        refine c15 (n := n + 4) S3.duo.set ?_
        rw [sgf, sameB_of (b0 S3.duo.book.var) (own_same S3.duo.book.own), sgf, sameB_of S3.duo.book.own.view.len (same_int _ _), encK_len, g_ff, neqI, k_f, condB_false, o_of (inc64 (show i < lim by omega))]
        exact ih (i + 1) h3 c1 v' l1 S3 (by omega) (by omega) (by omega) (by omega)
      · rw [condB_f (decide_eq_false (by omega))]
        exact k h c v l S (by omega)
    · rw [decide_eq_false (show ¬ (i : Int) < (A.length : Int) by omega), g_ft, g_ft, k_f, condB_false]
      exact k h c v l S (by omega)

theorem l41 {p m q : Nat} {v0 x3 x5 : AV} (I : Inp hb w va vb A B) (hn : 1000 < n)
    (k : ∀ h c v l, Sync hb hs h p m c q v0 v l → c ≤ 100 → p4_58 (callN E (n + 5)) (n + 5) x3 (.ptr p 0 0 0) x5 (.ptr q 0 0 0) h K = true) :
    ∀ mm i h c v l, Sync hb hs h p m c q v0 v l → c ≤ i → i ≤ 100 → i ≤ B.length → 100 - i < mm →
      l4_41 (callN E (n + 5)) (n + 5) mm (.ptr w 0 0 0) x3 (.ptr p 0 0 0) x5 (.ptr q 0 0 0) (.int .i64 (i : Int)) h K = true := by
  have hlim : lim = 4611686018427387904 := rfl
  intro mm
  induction mm with
  | zero => intro i h c v l _ _ _ _ hm; omega
  | succ mm ih =>
    intro i h c v l S hci hi hia hm
    unfold l4_41 b4_41
    have e := S.ext
    rw [fa1, o_of (I.l1 e), o_of (I.nb e), o_lss]
    by_cases hlt : i < B.length
    · rw [decide_eq_true (show (i : Int) < (B.length : Int) by omega), g_tt, o_some, g_tt, o_lss, k_t]
      by_cases h100 : i < 100
      · rw [condB_t (decide_eq_true (by omega))]
        obtain ⟨z, s, hzs⟩ : ∃ z s, B[i]? = some (z, s) := ⟨_, _, List.getElem?_eq_getElem hlt⟩
        obtain ⟨id, g, j, r1, r2, r3, r4⟩ := op_at I.b hzs
        rw [fa1, o_of (I.l1 e), o_of (r1 h e), o_of (r2 h e), fa1, o_of (I.l1 e), o_of (r1 h e), o_of (r2 h e), fa1, o_of (I.l1 e), o_of (r1 h e), fa1, o_of (r4 h e)]
        have hll := S.duo.set.len
        have D := S.duo
        have o := S.ok
        refine c8 (n := n + 1) S.duo.set o (by omega) fun h1 l1 c1 hc1 S1 F1 o1 b1 => ?_
        have loS : ∀ j, (j = p ∨ j = m) → hb.sz ≤ j := fun j e' => by
          have : foot p m q v j := by
            rcases e' with e' | e'
            · exact .inl e'
            · exact .inr (.inl e')
          have zb := S.base.1
          rcases S.sub j this with f | f
          · exact S.lo j f
          · omega
        have e1 : Ext hb h1 := F1.ext e S.bok loS
        have va_s := view_same I.b
        rw [sameB_of (I.l1 e1) va_s, sameB_of (r1 h1 e1) (same_ptr _ _ _ _), sameB_of (r2 h1 e1) (same_O _ _), sameB_of (I.l1 e1) va_s, sameB_of (r1 h1 e1) (same_ptr _ _ _ _), sameB_of (r4 h1 e1) (same_str _)]
        refine c7 (n := n + 4) o1 fun h2 e2 o2 => ?_
        have e12 := e1.trans e2
        rw [sameB_of (I.l1 e12) va_s, sameB_of (r1 h2 e12) (same_ptr _ _ _ _), sameB_of (r4 h2 e12) (same_str _)]
        have B1 : BookO h1 q v (bk l) := D.book.fr F1 (fun e => by
          rcases e with e | e
          · exact D.qp e
          · exact D.qm e) fun j i e => by
          rcases e with e | e
          · exact D.rp (by rw [← e]; exact i)
          · exact D.rm (by rw [← e]; exact i)
        have bl := bk_len l
        refine c12 (n := n + 2) (B1.ext e2) o2 (by omega) (by omega) D.set.kinds (kdO_le z).1 (kdO_le z).2 fun h3 v' B3 F3 o3 r3' => ?_
        obtain ⟨D3, G3, sub3⟩ := step_both (n := n) D o S1 F1 o1 b1 e2 B3 F3 r3'
        have S3 := S.go D3 G3 o3 sub3
        rw [neqI, condB_false, o_of (inc64 (show i < lim by omega))]
        exact ih (i + 1) h3 c1 v' l1 S3 (by omega) (by omega) (by omega) (by omega)
      · rw [condB_f (decide_eq_false (by omega))]
        exact k h c v l S (by omega)
    · rw [decide_eq_false (show ¬ (i : Int) < (B.length : Int) by omega), g_ft, g_ft, k_f, condB_false]
      exact k h c v l S (by omega)
end
end Go.Proofs.Ytflpfelalockgaa
