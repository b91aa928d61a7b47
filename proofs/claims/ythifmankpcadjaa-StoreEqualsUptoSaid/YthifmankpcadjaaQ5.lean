/-
  Texts that the claim hangs on, part 6.
-/
import Derived.Test.YthifmankpcadjaaQ4
import Derived.Test.YthifmankpcadjaaRows
import Derived.KernelRfl
import Derived.Shelf.Lays2
import Derived.Ground.Names2Prog
import Derived.Test.YthifmankpcadjaaProg
import Derived.Shelf.Slices.In.SortNone
import Derived.Ground.NamesProg
import Derived.Test.YthifmankpcadjaaChecked
import Derived.Conc.MuLone
namespace Go.Proofs.Ythifmankpcadjaa
open Go.Ab
set_option linter.unusedSimpArgs false
set_option linter.unusedVariables false
structure DelT (T T' : SD) (k : Int) : Prop where
  fs : T'.fs = dlG T.fs k
  sc : T'.p = T.p ∧ T'.tb = T.tb ∧ T'.most = T.most ∧ T'.next = T.next ∧ T'.clock = T.clock + 1
  rw : ∀ i y, InR T' i y ↔ InR T i y ∧ y ≠ k
section
variable {B b : Nat} {τ : Nat → Tag} {o : Nat} {h0 h h' : AHeap} {T : SD} {K : Kont} {n : Nat} {cs : List Cls} {k : Int}
theorem SO.delF (O : SO B τ o h0 h T) (f : But T.fm h h') (ok : h'.Ok) (M : KMap intKey h' T.fm (dl (mp fp T.fs) k)) : SO B τ o h0 h' { T with fs := dlG T.fs k } ∧ St o τ τ h h' := by
  have f' : Fr (XS τ o fun t => t = .fm) h h' := Fr.of_but ⟨_, rfl, O.tf⟩ f
  exact ⟨O.step (T' := { T with fs := dlG T.fs k }) f' ok (O.tg f.sz) rfl rfl rfl rfl (f'.var O.var (xs_no O.tp nofun)) (by rw [dl_G, ← dlG_mp] at M; exact M) (f'.kmap O.by' (xs_no O.tb nofun)) (f'.kmap O.same (xs_no O.ts nofun)) (fun k y hk => O.f' f' (O.tg f.sz) nofun nofun (dlG_sub.subset hk)) fun i r hr => O.r' f' (O.tg f.sz) nofun nofun hr,
    ok, Fr.of_but ⟨_, O.tf⟩ f, fun _ _ => rfl, fun j hj => .inl (O.hi j hj)⟩
theorem SI.del {T' : SD} (I : SI cs b T) (O : SO B τ o h0 h T) (D : DelT T T' k) : SI cs b T' := by
  have sub : ∀ j y, (j, y) ∈ T'.fs → (j, y) ∈ T.fs := fun j y q => by rw [D.fs] at q; exact dlG_sub.subset q
  refine ⟨?_, fun j y q => ?_, fun i y => ?_, fun j y q => I.fc j y (sub j y q)⟩
  · rw [D.fs]; exact I.ks.sublist (dlG_sub.map _)
  · rw [D.sc.2.2.2.1]; exact I.kb j y (sub j y q)
  · rw [D.rw, I.rw, D.fs, lkG_dl O.nf]
    by_cases e : y = k
    · rw [if_pos e]; simp [e]
    · rw [if_neg e]; simp [e]
theorem c12 (O : SO B τ o h0 h T) (I : SI cs b T) (hN : T.next < 500000) (hC : T.clock < 500000) (hB : B < 1000000000) (hn : B + 3000000 ≤ n) (hL : n + 200 < lim)
    (k0 : lkG T.fs k = none → K (.int .i64 7) h = true)
    (k1 : ∀ x, lkG T.fs k = some x → ∀ h' τ' T', SO B τ' o h0 h' T' → St o τ τ' h h' → SI cs b T' → DelT T T' k → K (.int .i64 0) h' = true) :
    callN E (n + 8) (.func 12) [.ptr T.p 0 0 0, .int .i64 k] h K = true := by
  have hlm : lim = 4611686018427387904 := rfl
  apply d12
  unfold s12
  have L := O.lkf k
  cases hx : lkG T.fs k with
  | none =>
    rw [hx] at L
    have L : lookA h (.leaf .int) true .nilPtr (.map T.fm) (.int .i64 k) = some (.tup [.nilPtr, .bool false]) := L
    refine z_nil ?_; refine z_fadr ?_; refine z_of O.l4 ?_; refine z_of L ?_; refine z_ext0 ?_; refine z_ext1 ?_; refine z_notF ?_; refine z_cT ?_
    exact k0 hx
  | some x =>
    rw [hx] at L
    have L : lookA h (.leaf .int) true .nilPtr (.map T.fm) (.int .i64 k) = some (.tup [.ptr x.id 0 0 0, .bool true]) := L
    have hk := lkG_mem hx
    obtain ⟨kb1, kb2⟩ := I.kb k x hk
    have hsm : small k := ⟨by omega, by omega⟩
    refine z_nil ?_; refine z_fadr ?_; refine z_of O.l4 ?_; refine z_of L ?_; refine z_ext0 ?_; refine z_ext1 ?_; refine z_notT ?_; refine z_cF ?_; refine z_nil ?_; refine z_fadr ?_; refine z_of O.l3 ?_; refine z_of (inc64 (i := T.clock) (by omega)) ?_; refine z_nil ?_; refine z_fadr ?_
    obtain ⟨h1, w1, V1, b1, o1, z1⟩ := O.var.wr O.ok (off := 3) (v := .int .i64 ((T.clock + 1 : Nat) : Int)) (show 3 < 8 by decide) rfl
    refine z_u w1 ?_
    obtain ⟨P1, s1⟩ := O.putS (nx := T.next) (ck := T.clock + 1) b1 o1 V1
    obtain ⟨T1, hT1⟩ : ∃ T1 : SD, T1 = { T with next := T.next, clock := T.clock + 1 } := ⟨_, rfl⟩
    rw [← hT1] at P1
    have p1 : T1.p = T.p := by rw [hT1]
    have r1 : ∀ i, T1.row i = T.row i := fun i => by rw [hT1]; cases i <;> rfl
    have hk1 : (k, x) ∈ T1.fs := by rw [hT1]; exact hk
    have ir1 : ∀ i y, InR T1 i y ↔ InR T i y := fun i y => by unfold InR; rw [r1]
    have len1 : ∀ i r, T1.row i = some r → r.l.length ≤ 500000 := fun i r e => by
      have := I.len O (by rw [← r1]; exact e); omega
    obtain ⟨ra, ea, ka⟩ : InR T1 (.k (keyOf x)) k := by rw [ir1]; exact (I.rw _ _).2 ⟨x, hx, rfl⟩
    rw [← p1]
    refine c33 (n := n + 2) P1 hk1 hsm ea ka (by have := len1 _ ra ea; omega) (by omega) (by omega) (by omega) fun h2 τ2 T2 P2 s2 S2 => ?_
    have p2 : T2.p = T1.p := by rw [S2.eq]
    have hk2 : (k, x) ∈ T2.fs := by rw [S2.eq]; exact hk1
    have ir2 : ∀ i y, InR T2 i y ↔ InR T1 i y ∧ ¬ (i = .k (keyOf x) ∧ y = k) := fun i y => by
      rw [rs_in S2]
      by_cases e : i = .k (keyOf x)
      · rw [if_pos e, e]
        have : InR T1 (.k (keyOf x)) y ↔ y ∈ ra.l := by
          unfold InR
          constructor
          · rintro ⟨r, e, q⟩; rw [ea] at e; cases e; exact q
          · exact fun q => ⟨_, ea, q⟩
        rw [this]; simp
      · rw [if_neg e]; simp [e]
    have L5 : loadA h2 false 1 (.ptr T1.p 0 0 5) = some (.ptr T2.all.id 0 0 0) := by rw [← p2]; exact P2.l5
    refine z_nil ?_; refine z_fadr ?_; refine z_of L5 ?_
    have ia : InR T2 .all k := by rw [ir2, ir1]; exact ⟨(I.rw _ _).2 ⟨x, hx, trivial⟩, fun q => by cases q.1⟩
    obtain ⟨r2, e2, k2⟩ := ia
    cases e2
    have ll2 : T2.all.l.length ≤ 500000 := by
      have := len1 .all T1.all rfl
      have h3 : T2.row .all = T1.row .all := S2.ne .all nofun
      simp only [SD.row, Option.some.injEq] at h3
      rw [h3]; exact this
    refine drop_row (n := n + 4) (i := .all) P2 rfl hsm k2 (by omega) fun h3 τ3 r3 P3 s3 i3 m3 => ?_
    have S3 := rs_set (T := T2) (i := .all) (r' := r3) m3
    generalize hT3 : T2.setRow .all r3 = T3 at *
    have p3 : T3.p = T1.p := by rw [S3.eq]; exact p2
    have hk3 : (k, x) ∈ T3.fs := by rw [S3.eq]; exact hk2
    have ir3 : ∀ i y, InR T3 i y ↔ InR T2 i y ∧ ¬ (i = .all ∧ y = k) := fun i y => by
      rw [rs_in S3]
      by_cases e : i = .all
      · rw [if_pos e, e]
        have : InR T2 .all y ↔ y ∈ T2.all.l := by
          unfold InR
          constructor
          · rintro ⟨r, e, q⟩; cases e; exact q
          · exact fun q => ⟨_, rfl, q⟩
        rw [this]; simp
      · rw [if_neg e]; simp [e]
    have F3 := P3.f k x hk3
    obtain ⟨r4, e4, k4⟩ : InR T3 (.c x.cls) k := by rw [ir3, ir2, ir1]; exact ⟨⟨(I.rw _ _).2 ⟨x, hx, rfl⟩, fun q => by cases q.1⟩, fun q => by cases q.1⟩
    have ll4 : r4.l.length ≤ 500000 := len1 (.c x.cls) r4 (by rw [← S2.ne _ (show IK.c x.cls ≠ .k (keyOf x) from nofun), ← S3.ne _ (show IK.c x.cls ≠ .all from nofun)]; exact e4)
    have L6 : loadA h3 false 1 (.ptr T1.p 0 0 6) = some (.map T3.bm) := by rw [← p3]; exact P3.l6
    refine z_nil ?_; refine z_fadr ?_; refine z_of L6 ?_; refine z_nil ?_; refine z_fadr ?_; refine z_of F3.l1 ?_; refine z_of (P3.lkb e4) ?_
    refine drop_row (n := n + 4) P3 e4 hsm k4 (by omega) fun h4 τ4 r5 P4 s4 i4 m4 => ?_
    have S4 := rs_set (T := T3) (i := .c x.cls) (r' := r5) m4
    generalize hT4 : T3.setRow (.c x.cls) r5 = T4 at *
    have p4 : T4.p = T1.p := by rw [S4.eq]; exact p3
    have ir4 : ∀ i y, InR T4 i y ↔ InR T3 i y ∧ ¬ (i = .c x.cls ∧ y = k) := fun i y => by
      rw [rs_in S4]
      by_cases e : i = .c x.cls
      · rw [if_pos e, e]
        have : InR T3 (.c x.cls) y ↔ y ∈ r4.l := by
          unfold InR
          constructor
          · rintro ⟨r, e, q⟩; rw [e4] at e; cases e; exact q
          · exact fun q => ⟨_, e4, q⟩
        rw [this]; simp
      · rw [if_neg e]; simp [e]
    have L4 : loadA h4 false 1 (.ptr T1.p 0 0 4) = some (.map T4.fm) := by rw [← p4]; exact P4.l4
    refine z_nil ?_; refine z_fadr ?_; refine z_of L4 ?_
    obtain ⟨h5, u1, u2, u3, u4, u5⟩ := P4.fs.del intKeys k
    refine z_u u1 ?_
    obtain ⟨P5, s5⟩ := P4.delF u2 (u4 P4.ok) u5
    have eqT : T4 = { T with clock := T.clock + 1, all := T4.all, by' := T4.by', same := T4.same } := by rw [S4.eq, S3.eq, S2.eq, hT1]
    have D : DelT T { T4 with fs := dlG T4.fs k } k := by
      refine ⟨by show dlG T4.fs k = _; rw [eqT], ⟨by show T4.p = _; rw [eqT], by show T4.tb = _; rw [eqT], by show T4.most = _; rw [eqT], by show T4.next = _; rw [eqT], by show T4.clock = _; rw [eqT]⟩, fun i y => ?_⟩
      have h0 : InR { T4 with fs := dlG T4.fs k } i y ↔ InR T4 i y := by unfold InR; cases i <;> exact Iff.rfl
      rw [h0, ir4, ir3, ir2, ir1]
      constructor
      · rintro ⟨⟨⟨q, a⟩, b⟩, c⟩
        refine ⟨q, fun e => ?_⟩
        obtain ⟨z, ez, hz⟩ := (I.rw i y).1 q
        rw [e, hx] at ez; cases ez
        cases i with
        | all => exact b ⟨rfl, e⟩
        | c s => exact c ⟨by rw [show x.cls = s from hz], e⟩
        | k s => exact a ⟨by rw [show keyOf x = s from hz], e⟩
      · rintro ⟨q, e⟩
        exact ⟨⟨⟨q, fun w => e w.2⟩, fun w => e w.2⟩, fun w => e w.2⟩
    exact k1 x hx h5 τ4 _ P5 ((((s1.trans O.ok s2).trans O.ok s3).trans O.ok s4).trans O.ok s5) (I.del O D) D
end
end Go.Proofs.Ythifmankpcadjaa
namespace Go.Proofs.Ythifmankpcadjaa
open Go.Ab
set_option linter.unusedSimpArgs false
set_option linter.unusedVariables false
theorem c31 {n : Nat} {h : AHeap} {v : AV} {es : List (List AV)} {K : Kont} (ho : h.Ok) (V : View h 5 v es) (hl : es.length < 1000000)
    (k : ∀ h' v', Ext h h' → h'.Ok → View h' 5 v' es → (es ≠ [] → Mr h' 5 v' es) → (∀ j, inRow v' j → h.sz ≤ j) → K v' h' = true) : callN E (n + 1) (.func 31) [v] h K = true := by
  apply d31
  unfold s31
  have hnil : v = .nilSlc ∨ eqV h false .slc v .nilSlc = some (.bool false) := by
    rcases V with ⟨_, rfl | rfl⟩ | ⟨id, g, s, cap, ex, r, rfl, _⟩
    · exact .inl rfl
    · exact .inr rfl
    · exact .inr rfl
  rcases hnil with rfl | hne
  · have hes : es = [] := by
      rcases V with ⟨e, _⟩ | ⟨_, _, _, _, _, _, e, _⟩
      · exact e
      · cases e
    have : eqV h false .slc .nilSlc .nilSlc = some (.bool true) := rfl
    refine z_of this ?_; refine z_cT ?_
    exact k h _ (Ext.refl h) ho V (fun e => absurd hes e) fun j q => absurd q inRow_nil
  · refine z_of hne ?_; refine z_cF ?_
    have hb : bsliceV h 0 5 [AV.int .i64 0, AV.bool false, AV.int .i64 0, AV.str [], AV.nilSlc] [] = some (.slc h.sz 0 0 0 0 true, Ab.newRow h [] 5) := rfl
    refine z_p hb ?_
    have e1 := ext_newRow ho [] 5
    have o1 := ok_newRow ho [] 5
    have r1 : (Ab.newRow h [] 5).row h.sz = some { es := [], sz := 5, g := 0, m := 0, rw := true } := by rw [AHeap.row_some]; exact get_push_same _ _
    generalize Ab.newRow h [] 5 = h1 at *
    have V1 := V.ext e1
    cases es with
    | nil =>
      have : appendA h1 5 64 (.slc h.sz 0 0 0 0 true) v = some (.slc h.sz 0 0 0 0 true, h1) := by
        simp only [appendA, show Nat.beq 5 0 = false from rfl, cond_false, V1.src, appendNew]
      refine z_p this ?_
      exact k h1 _ e1 o1 (.inr ⟨h.sz, 0, 0, 0, true, _, rfl, r1, Nat.le_refl _, rfl, rfl, Nat.le_refl _⟩) (fun e => absurd rfl e) fun j q => by rw [inRow_slc.1 q]; exact Nat.le_refl _
    | cons y l =>
      have b1 : Nat.ble ((0 + (y :: l).length) * 64) most = true := nble_true.2 (by unfold most; omega)
      have b2 : Nat.ble (0 + (y :: l).length) most = true := nble_true.2 (by unfold most; omega)
      have b3 : Nat.ble (0 + (y :: l).length) 0 = false := by
        cases hh : Nat.ble (0 + (y :: l).length) 0 with
        | false => rfl
        | true => have := nble_true.1 hh; simp at this
      have : appendA h1 5 64 (.slc h.sz 0 0 0 0 true) v = some (.slc h1.sz 0 0 (0 + (y :: l).length) (0 + (y :: l).length) false, Ab.newRow h1 (y :: l) 5) := by
        simp only [appendA, show Nat.beq 5 0 = false from rfl, cond_false, V1.src, appendNew, r1, b1, b2, b3, Nat.beq_refl, Bool.and_self, cond_true, Nat.ble_self_eq_true, List.drop_nil, List.take_nil, List.length_nil, List.nil_append]
      refine z_p this ?_
      have M : Mr (Ab.newRow h1 (y :: l) 5) 5 (.slc h1.sz 0 0 (0 + (y :: l).length) (0 + (y :: l).length) false) (y :: l) :=
        ⟨h1.sz, 0 + (y :: l).length, false, { es := y :: l, sz := 5, g := 0, m := 0, rw := true }, by simp, by rw [AHeap.row_some]; exact get_push_same _ _, rfl, Nat.le_refl _, rfl, rfl, by simp⟩
      exact k _ _ (e1.trans (ext_newRow o1 _ 5)) (ok_newRow o1 _ 5) M.view (fun _ => M) fun j q => by rw [← inRow_slc.1 q]; exact e1.1
noncomputable instance valDec : DecidableEq Val := fun a b => Classical.propDecidable (a = b)
noncomputable def dm (old new : List Val) : Nat → Nat
  | 0 => 0
  | i + 1 => if old[i]? = new[i]? then dm old new i else dm old new i ||| 2 ^ i
theorem dm_bit (old new : List Val) : ∀ (m i : Nat), (dm old new m).testBit i = decide (i < m ∧ old[i]? ≠ new[i]?)
  | 0, i => by simp [dm]
  | m + 1, i => by
    simp only [dm]
    by_cases e : old[m]? = new[m]?
    · rw [if_pos e, dm_bit old new m i]
      by_cases q : i = m
      · subst q; simp [e]
      · congr 1; apply propext; constructor <;> (rintro ⟨a, b⟩; exact ⟨by omega, b⟩)
    · rw [if_neg e, Nat.testBit_or, dm_bit old new m i, Nat.testBit_two_pow]
      by_cases q : i = m
      · subst q; simp [e]
      · have : ¬ m = i := fun w => q w.symm
        simp only [this, decide_false, Bool.or_false]
        congr 1; apply propext; constructor <;> (rintro ⟨a, b⟩; exact ⟨by omega, b⟩)
theorem dm_lt (old new : List Val) : ∀ m, dm old new m < 2 ^ m
  | 0 => by simp [dm]
  | m + 1 => by
    have h1 := dm_lt old new m
    have h2 : 2 ^ m < 2 ^ (m + 1) := Nat.pow_lt_pow_right (by decide) (by omega)
    simp only [dm]
    split
    · omega
    · exact Nat.or_lt_two_pow (Nat.lt_trans h1 h2) h2
theorem dm_zero {old new : List Val} (hl : old.length = new.length) : dm old new new.length = 0 ↔ old = new := by
  constructor
  · intro h
    apply List.ext_getElem?
    intro i
    by_cases q : i < new.length
    · have := dm_bit old new new.length i
      rw [h, Nat.zero_testBit] at this
      have := (decide_eq_false_iff_not.1 this.symm)
      exact Classical.byContradiction fun w => this ⟨q, w⟩
    · rw [List.getElem?_eq_none (by omega), List.getElem?_eq_none (by omega)]
  · rintro rfl
    apply Nat.eq_of_testBit_eq
    intro i
    rw [dm_bit]; simp
noncomputable def nst (old new : List Val) (c : Int) (st : List Int) : List Int := st.mapIdx fun i s => if old[i]? = new[i]? then s else c
section
variable {B : Nat} {τ : Nat → Tag} {o : Nat} {h0 h h' : AHeap} {T : SD} {k : Int} {x x' : FD}
theorem SO.updF (O : SO B τ o h0 h T) (hx : lkG T.fs k = some x) (f : Fr (fun j => τ j = .own o (.f k) ∨ τ j = .own o (.st k)) h h') (ok : h'.Ok) (F : FO B τ o h' k x') (hid : x'.id = x.id) : SO B τ o h0 h' { T with fs := upG T.fs k x' } ∧ St o τ τ h h' := by
  let S : PT → Prop := fun t => t = .f k ∨ t = .st k
  have f' : Fr (XS τ o S) h h' := f.mono fun j e => by
    rcases e with e | e
    · exact ⟨_, .inl rfl, e⟩
    · exact ⟨_, .inr rfl, e⟩
  refine ⟨O.step (T' := { T with fs := upG T.fs k x' }) f' ok (O.tg f.sz) rfl rfl rfl rfl (f'.var O.var (xs_no O.tp nofun)) ?_ (f'.kmap O.by' (xs_no O.tb nofun)) (f'.kmap O.same (xs_no O.ts nofun)) (fun k' y hk => ?_) fun i r hr => O.r' f' (O.tg f.sz) nofun nofun hr,
    ok, f'.mono fun j ⟨t, _, e⟩ => ⟨t, e⟩, fun _ _ => rfl, fun j hj => .inl (O.hi j hj)⟩
  · have : mp fp (upG T.fs k x') = mp fp T.fs := by
      rw [upG_mp, upG_same]
      rw [lkG_mp, hx]; simp [fp, hid]
    show KMap intKey h' T.fm (mp fp (upG T.fs k x'))
    rw [this]; exact f'.kmap O.fs (xs_no O.tf nofun)
  · by_cases e : k' = k
    · subst e
      have := lkG_of_mem (upG_nodup O.nf) hk
      rw [lkG_up, if_pos rfl] at this
      cases this; exact F
    · rcases upG_mem hk with q | q
      · cases q; exact absurd rfl e
      · exact O.f' f' (O.tg f.sz) (by simp [S, e]) (by simp [S, e]) q
end
end Go.Proofs.Ythifmankpcadjaa
namespace Go.Proofs.Ythifmankpcadjaa
open Go.Ab
set_option linter.unusedSimpArgs false
set_option linter.unusedVariables false
structure UpdT (T T' : SD) (k : Int) (x : FD) (vs : List Val) : Prop where
  fs : ∃ x', T'.fs = upG T.fs k x' ∧ x'.cls = x.cls ∧ x'.vs = vs ∧ x'.stated = x.stated ∧ x'.born = x.born ∧ x'.stamps = nst x.vs vs ((T.clock + 1 : Nat) : Int) x.stamps
  sc : T'.p = T.p ∧ T'.tb = T.tb ∧ T'.most = T.most ∧ T'.next = T.next ∧ T'.clock = T.clock + 1
  rw : ∀ i y, InR T' i y ↔ (InR T i y ∧ y ≠ k) ∨ (y = k ∧ (i = .all ∨ i = .c x.cls ∨ i = .k (x.cls, spV vs)))
theorem nst_len (old new : List Val) (c : Int) (st : List Int) : (nst old new c st).length = st.length := by simp [nst]
section
variable {B b : Nat} {τ : Nat → Tag} {o : Nat} {h0 h h' : AHeap} {T : SD} {K : Kont} {n : Nat} {cs : List Cls} {k : Int} {Q : Nat → Prop} {sv : AV} {gs : List (Str × Val)}
theorem SI.upd {T' : SD} {x : FD} {vs : List Val} (I : SI cs b T) (hx : lkG T.fs k = some x) (hl : vs.length = x.vs.length) (hb : ∀ v ∈ vs, szV v ≤ b) (U : UpdT T T' k x vs) : SI cs b T' := by
  obtain ⟨x', fs, u1, u2, u3, u4, u5⟩ := U.fs
  obtain ⟨c1, c2, c3, c4⟩ := I.fc k x (lkG_mem hx)
  have keys : T'.fs.map (fun p => p.1) = T.fs.map fun p => p.1 := by rw [fs]; exact upG_keys hx
  refine ⟨by rw [keys]; exact I.ks, fun j y q => ?_, fun i y => ?_, fun j y q => ?_⟩
  · rw [U.sc.2.2.2.1]
    rw [fs] at q
    rcases upG_mem q with e | e
    · cases e; exact I.kb k x (lkG_mem hx)
    · exact I.kb j y e
  · rw [U.rw, I.rw, fs, lkG_up]
    by_cases e : y = k
    · rw [if_pos e]
      constructor
      · rintro (⟨_, q⟩ | ⟨_, q⟩)
        · exact absurd e q
        · refine ⟨x', rfl, ?_⟩
          rcases q with rfl | rfl | rfl
          · trivial
          · exact u1
          · show (x'.cls, spV x'.vs) = _
            rw [u1, u2]
      · rintro ⟨z, q, w⟩
        cases q
        refine .inr ⟨e, ?_⟩
        cases i with
        | all => exact .inl rfl
        | c s => have w : x'.cls = s := w; rw [← w, u1]; exact .inr (.inl rfl)
        | k s => have w : (x'.cls, spV x'.vs) = s := w; rw [← w, u1, u2]; exact .inr (.inr rfl)
    · rw [if_neg e]; simp [e]
  · rw [fs] at q
    rcases upG_mem q with e | e
    · cases e
      refine ⟨by rw [u1]; exact c1, by rw [u1, u2, hl]; exact c2, by rw [u5, u2, nst_len, hl]; exact c3, by rw [u2]; exact hb⟩
    · exact I.fc j y e
theorem c11 (O : SO B τ o h0 h T) (I : SI cs b T) (TR : TableRep h0 T.tb cs) (A : Asc cs) (hcs : cs.length ≤ 64) (hfs : ∀ s, (fieldsOf cs s).length ≤ 62)
    (S : Sq Q h sv gs) (hQ : ∀ j, Q j → j < h.sz) (hgB : ∀ p ∈ gs, szV p.2 ≤ b) (hb : 62 * b ≤ B)
    (hN : T.next < 500000) (hC : T.clock < 500000) (hB : B < 100000000) (hn : 3 * B + 3000000 ≤ n) (hL : n + 200 < lim)
    (k0 : lkG T.fs k = none → K (.tup [.int .u64 0, .int .i64 7]) h = true)
    (k1 : ∀ x, lkG T.fs k = some x → given cs x.cls (ofT T) gs x.vs = none → ∀ h', Ext h h' → h'.Ok → K (.tup [.int .u64 0, .int .i64 11]) h' = true)
    (k2 : ∀ x, lkG T.fs k = some x → given cs x.cls (ofT T) gs x.vs = some x.vs → ∀ h', Ext h h' → h'.Ok → K (.tup [.int .u64 0, .int .i64 0]) h' = true)
    (k3 : ∀ x vs, lkG T.fs k = some x → given cs x.cls (ofT T) gs x.vs = some vs → vs.length = x.vs.length → x.vs ≠ vs → ∀ h' τ' T', SO B τ' o h0 h' T' → St o τ τ' h h' → SI cs b T' → UpdT T T' k x vs → K (.tup [.int .u64 ((dm x.vs vs vs.length : Nat) : Int), .int .i64 0]) h' = true) :
    callN E (n + 8) (.func 11) [.ptr T.p 0 0 0, .int .i64 k, sv] h K = true := by
  have hlm : lim = 4611686018427387904 := rfl
  apply d11
  unfold s11
  have L := O.lkf k
  cases hx : lkG T.fs k with
  | none =>
    rw [hx] at L
    have L : lookA h (.leaf .int) true .nilPtr (.map T.fm) (.int .i64 k) = some (.tup [.nilPtr, .bool false]) := L
    refine z_nil ?_; refine z_fadr ?_; refine z_of O.l4 ?_; refine z_of L ?_; refine z_ext0 ?_; refine z_ext1 ?_; refine z_notF ?_; refine z_cT ?_
    exact k0 hx
  | some x =>
    rw [hx] at L
    have L : lookA h (.leaf .int) true .nilPtr (.map T.fm) (.int .i64 k) = some (.tup [.ptr x.id 0 0 0, .bool true]) := L
    have hk := lkG_mem hx
    obtain ⟨kb1, kb2⟩ := I.kb k x hk
    obtain ⟨c1, c2, c3, c4⟩ := I.fc k x hk
    have hsm : small k := ⟨by omega, by omega⟩
    have F0 := O.f k x hk
    refine z_nil ?_; refine z_fadr ?_; refine z_of O.l4 ?_; refine z_of L ?_; refine z_ext0 ?_; refine z_ext1 ?_; refine z_notT ?_; refine z_cF ?_
    unfold p11_12
    refine z_nil ?_; refine z_fadr ?_; refine z_of F0.l2 ?_
    obtain ⟨es0, W0, t0, D0⟩ := F0.vals
    have hf62 := hfs x.cls
    have hes0 : es0.length = x.vs.length := D0.length
    refine c31 (n := n + 6) O.ok W0 (by omega) fun h1 v1 e1 o1 W1 M1 r1 => ?_
    have O1 := O.ext e1 o1
    have F1 := O1.f k x hk
    refine z_nil ?_; refine z_fadr ?_; refine z_of F1.l1 ?_
    have O1' : SO B (tagAt τ (inRow v1) .dat) o h0 h1 T := O.fr (Fr.of_ext (X := fun _ => False) e1) o1 (fun _ x => x.elim) ⟨fun j hj => tagAt_out fun q => by have := r1 j q; omega, fun j hj => by
      rw [tagAt_out fun q => by have := W1.rlt o1 q; omega]; exact O1.hi j hj⟩
    have D1 : All2 (DX (Out (tagAt τ (inRow v1) .dat)) h1) es0 x.vs := D0.mono fun _ _ r => r.fr (Lt.of_ext e1) O.ok fun j hj e => by
      show tagAt τ (inRow v1) .dat j = .out
      rw [tagAt_out fun q => by have := r1 j q; omega]; exact e
    obtain ⟨ci, hci⟩ := Option.isSome_iff_exists.1 c1
    have fall : ∀ h5, Fr (fun j => fieldsOf cs x.cls ≠ [] ∧ inRow v1 j) h1 h5 → Ext h h5 := fun h5 f5 => f5.ext e1 O.ok fun j q => r1 j q.2
    refine c28 (n := n + 2) (vals := x.vs) O1' TR A hcs hci hf62 (fun h' L => S h' ((Lt.of_ext e1).trans L)) (fun p hp => by have := hgB p hp; omega) c2 (fun ne => ⟨⟨es0, M1 (fun e => ne (by apply List.eq_nil_of_length_eq_zero; rw [← c2, ← hes0, e]; rfl)), D1⟩, fun j q => tagAt_in q, fun j q w => by have := r1 j q; have := hQ j w; omega⟩) (by omega) (by omega) (by omega) ?_ ?_
    · intro hg h5 O5 f5
      refine z_notF ?_; refine z_cT ?_
      exact k1 x hx hg h5 (fall h5 f5) O5.ok
    intro vs hg hvl h2 O2 f2 W2
    have e2 := fall h2 f2
    refine z_notT ?_; refine z_cF ?_
    unfold p11_22
    have hg' := hg
    have P2 := O.ext e2 O2.ok
    have D2 : DV (Out τ) h2 v1 vs := by
      have t1o : ∀ j, j < h2.sz → Out (tagAt τ (inRow v1) .dat) j → Out τ j := fun j _ q => by
        have q : tagAt τ (inRow v1) .dat j = .out := q
        by_cases w : inRow v1 j
        · rw [tagAt_in w] at q; cases q
        · rwa [tagAt_out w] at q
      have tvv : ∀ j, inRow v1 j → Out τ j := fun j q => O.hi j (r1 j q)
      by_cases hF0 : fieldsOf cs x.cls = []
      · have hv0 : vs = [] := by apply List.eq_nil_of_length_eq_zero; rw [hvl, c2, hF0]; rfl
        have he0 : es0 = [] := by apply List.eq_nil_of_length_eq_zero; rw [hes0, c2, hF0]; rfl
        subst hv0
        subst he0
        exact ⟨_, f2.view W1 fun id g s l c ex _ q => q.1 hF0, tvv, .nil⟩
      · obtain ⟨es, M5, D⟩ := W2 hF0
        exact ⟨es, M5.view, tvv, D.mono fun _ _ r => r.fr (Lt.refl _ _) O2.ok t1o⟩
    have hlen : ∀ g, Ext h2 g → lenA g 1 v1 = some (.int .i64 (vs.length : Int)) := fun g e => (D2.now.ext e).len
    refine z_of (hlen h2 (Ext.refl _)) ?_
    have m0 : (AV.int .u64 0) = AV.int .u64 ((0 : Nat) : Int) := rfl
    rw [m0]
    have hvb : ∀ v ∈ vs, szV v ≤ b := given_all (P := fun v => szV v ≤ b) c4 hgB hg
    suffices H : ∀ m i g, vs.length - i < m → i ≤ vs.length → Ext h2 g → g.Ok → l11_28 (callN E (n + 7)) (n + 7) m (.ptr T.p 0 0 0) (.ptr x.id 0 0 0) v1 (.int .u64 ((dm x.vs vs i : Nat) : Int)) (.int .i64 (vs.length : Int)) (.int .i64 (i : Int)) g K = true from
      H (n + 7) 0 h2 (by omega) (Nat.zero_le _) (Ext.refl _) O2.ok
    intro m
    induction m with
    | zero => intro i g hm; omega
    | succ m ih =>
      intro i g hm hi e ok
      have Pg := P2.ext e ok
      have Fg := Pg.f k x hk
      unfold l11_28 b11_28
      refine z_lss ?_
      by_cases hlt : i < vs.length
      · refine z_ct (decide_eq_true (by omega)) ?_
        have hlt0 : i < x.vs.length := by omega
        obtain ⟨id, gg, j, ee, p1, p2, R⟩ := (D2.now.ext e).at (List.getElem?_eq_getElem hlt)
        obtain ⟨id', gg', j', ee', p1', p2', R'⟩ := Fg.vals.now.at (List.getElem?_eq_getElem hlt0)
        have A1 : loadA g true 5 (.ptr id gg j 0) = some (.agg ee) := by rw [p2]; exact R.agg.1
        have A2 : loadA g true 5 (.ptr id' gg' j' 0) = some (.agg ee') := by rw [p2']; exact R'.agg.1
        have hsz := hvb _ (List.getElem_mem hlt)
        refine z_of (p1 .i64) ?_; refine z_of A1 ?_; refine z_nil ?_; refine z_fadr ?_; refine z_of Fg.l2 ?_; refine z_of (p1' .i64) ?_; refine z_of A2 ?_
        refine c32s (k := b) (n := n + 6) ok R R' hsz (by omega) (by omega) (by omega) fun g2 r e3 o3 hr => ?_
        have e23 := ext_two e e3
        have hdm : dm x.vs vs (i + 1) = if r = true then dm x.vs vs i else dm x.vs vs i ||| 2 ^ i := by
          simp only [dm, List.getElem?_eq_getElem hlt, List.getElem?_eq_getElem hlt0, Option.some.injEq]
          cases r with
          | true => rw [if_pos (hr.1 rfl).symm, if_pos rfl]
          | false => rw [if_neg (fun q => Bool.false_ne_true (hr.2 q.symm)), if_neg Bool.false_ne_true]
        have hlt2 := dm_lt x.vs vs i
        have h2i : 2 ^ i ≤ 2 ^ 62 := Nat.pow_le_pow_right (by decide) (by omega)
        have h264 : 2 ^ 62 < 18446744073709551616 := by decide
        cases r with
        | true =>
          rw [if_pos rfl] at hdm
          refine z_notT ?_; refine z_cF ?_
          unfold p11_44
          refine z_of (inc64 (i := i) (by omega)) ?_
          rw [← hdm]
          exact ih (i + 1) g2 (by omega) (by omega) e23 o3
        | false =>
          rw [if_neg Bool.false_ne_true] at hdm
          refine z_notF ?_; refine z_cT ?_; refine z_of (m_shl (i := i) (by omega)) ?_; refine z_of (m_or (a := dm x.vs vs i) (b := 2 ^ i) (by omega) (by omega)) ?_
          unfold p11_44
          refine z_of (inc64 (i := i) (by omega)) ?_
          rw [← hdm]
          exact ih (i + 1) g2 (by omega) (by omega) e23 o3
      · refine z_cf (decide_eq_false (by omega)) ?_
        have hiv : i = vs.length := by omega
        subst hiv
        unfold p11_45
        refine z_eql ?_
        by_cases hz : dm x.vs vs vs.length = 0
        · refine z_ct (decide_eq_true (by rw [hz]; rfl)) ?_
          have heq : x.vs = vs := (dm_zero (by omega)).1 hz
          exact k2 x hx (by rw [hg, heq]) g (ext_two e2 e) ok
        · refine z_cf (decide_eq_false (by omega)) ?_
          have hne : x.vs ≠ vs := fun q => hz ((dm_zero (by omega)).2 q)
          have Dg : DV (Out τ) g v1 vs := D2.fr (Lt.of_ext e) O2.ok fun _ _ q => q
          unfold p11_53
          refine z_nil ?_; refine z_fadr ?_; refine z_of Pg.l3 ?_; refine z_of (inc64 (i := T.clock) (by omega)) ?_; refine z_nil ?_; refine z_fadr ?_
          obtain ⟨h3, w3, V3, b3, o3, z3⟩ := Pg.var.wr Pg.ok (off := 3) (v := .int .i64 ((T.clock + 1 : Nat) : Int)) (show 3 < 8 by decide) rfl
          refine z_u w3 ?_
          obtain ⟨P3, s3⟩ := Pg.putS (nx := T.next) (ck := T.clock + 1) b3 o3 V3
          obtain ⟨T1, hT1⟩ : ∃ T1 : SD, T1 = { T with next := T.next, clock := T.clock + 1 } := ⟨_, rfl⟩
          rw [← hT1] at P3
          have sg : St o τ τ h g := St.ext (ext_two e2 e) ok O.hi
          have s03 := sg.trans O.ok s3
          have D3 := Dg.st Pg.ok s3
          have p1 : T1.p = T.p := by rw [hT1]
          have r1' : ∀ i, T1.row i = T.row i := fun i => by rw [hT1]; cases i <;> rfl
          have hk1 : (k, x) ∈ T1.fs := by rw [hT1]; exact hk
          have ir1 : ∀ i y, InR T1 i y ↔ InR T i y := fun i y => by unfold InR; rw [r1']
          have len1 : ∀ i r, T1.row i = some r → r.l.length ≤ 500000 := fun i r e => by
            have := I.len O (by rw [← r1']; exact e); omega
          obtain ⟨ra, ea, ka⟩ : InR T1 (.k (keyOf x)) k := by rw [ir1]; exact (I.rw _ _).2 ⟨x, hx, rfl⟩
          rw [← p1]
          refine c33 (n := n + 2) P3 hk1 hsm ea ka (by have := len1 _ ra ea; omega) (by omega) (by omega) (by omega) fun h4 τ4 T2 P4 s4 S4 => ?_
          have p2 : T2.p = T1.p := by rw [S4.eq]
          have f2' : T2.fs = T.fs := by rw [S4.eq, hT1]
          have hx2 : lkG T2.fs k = some x := by rw [f2']; exact hx
          have ir2 : ∀ i y, InR T2 i y ↔ InR T i y ∧ ¬ (i = .k (keyOf x) ∧ y = k) := fun i y => by
            rw [rs_in S4, ← ir1]
            by_cases e : i = .k (keyOf x)
            · rw [if_pos e, e]
              have : InR T1 (.k (keyOf x)) y ↔ y ∈ ra.l := by
                unfold InR
                constructor
                · rintro ⟨r, e, q⟩; rw [ea] at e; cases e; exact q
                · exact fun q => ⟨_, ea, q⟩
              rw [this]; simp
            · rw [if_neg e]; simp [e]
          have s04 := s03.trans O.ok s4
          have D4 := D3.st P3.ok s4
          have F4 := P4.f k x (lkG_mem hx2)
          refine z_nil ?_; refine z_fadr ?_
          obtain ⟨h5, w5, V5, b5, o5, z5⟩ := F4.row.wr P4.ok (off := 2) (v := v1) (show 2 < 6 by decide) Dg.leaf
          refine z_u w5 ?_
          have V5 : Var h5 x.id [.int .i64 k, .str x.cls, v1, .bool x.stated, .int .i64 (x.born : Int), x.sv] := V5
          have fr5 : Fr (fun j => τ4 j = .own o (.f k) ∨ τ4 j = .own o (.st k)) h4 h5 := Fr.of_but (.inl F4.tid) b5
          have D5 : DV (Out τ4) h5 v1 vs := D4.fr (Lt.of_fr fr5 fun j q w => by rcases q with q | q <;> rw [show τ4 j = .out from w] at q <;> cases q) P4.ok fun _ _ q => q
          have hvB : szVs vs ≤ B := by
            have h1 := sz_all hvb
            have h2 : vs.length * b ≤ 62 * b := Nat.mul_le_mul_right b (by omega)
            omega
          let x1 : FD := { x with vv := v1, vs := vs }
          have FX : FO B τ4 o h5 k x1 := ⟨F4.tid, V5, D5, hvB, F4.st.fr (X := fun j => j = x.id) (Fr.of_but rfl b5) fun j q w => (by have := F4.ts j q; rw [w, F4.tid] at this; cases this), F4.ts⟩
          obtain ⟨P5, s5⟩ := P4.updF hx2 fr5 o5 FX rfl
          have s05 := s04.trans O.ok s5
          obtain ⟨T3, hT3⟩ : ∃ T3 : SD, T3 = { T2 with fs := upG T2.fs k x1 } := ⟨_, rfl⟩
          rw [← hT3] at P5
          have p3 : T3.p = T1.p := by rw [hT3]; exact p2
          have hx3 : lkG T3.fs k = some x1 := by rw [hT3]; show lkG (upG T2.fs k x1) k = _; rw [lkG_up, if_pos rfl]
          have r3' : ∀ i, T3.row i = T2.row i := fun i => by rw [hT3]; cases i <;> rfl
          have nin3 : ∀ r, T3.row (.k (keyOf x1)) = some r → k ∉ r.l := fun r e q => by
            have : InR T2 (.k (keyOf x1)) k := ⟨r, by rw [← r3']; exact e, q⟩
            rw [ir2] at this
            obtain ⟨z, ez, hz⟩ := (I.rw _ _).1 this.1
            rw [hx] at ez; cases ez
            exact this.2 ⟨by rw [show keyOf x = keyOf x1 from hz], rfl⟩
          have len3 : ∀ r, T3.row (.k (keyOf x1)) = some r → r.l.length < 999999 := fun r e => by
            have := srt_len (a := 0) (N := T.next) (P5.r _ r e).rn.srt (fun y hy => by
              have : InR T2 (.k (keyOf x1)) y := ⟨r, by rw [← r3']; exact e, hy⟩
              obtain ⟨z, ez, _⟩ := (I.rw _ _).1 ((ir2 _ _).1 this).1
              have := I.kb y z (lkG_mem ez); omega) (by omega)
            omega
          rw [← p3]
          refine c30 (x := x1) (n := n + 2) P5 (lkG_mem hx3) hsm nin3 len3 (by omega) (by omega) (by omega) fun h6 τ6 T4 P6 s6 S6 => ?_
          have s06 := s05.trans O.ok s6
          have p4 : T4.p = T3.p := by rw [S6.eq]
          have hrows : ∀ i y, InR T4 i y ↔ (InR T i y ∧ y ≠ k) ∨ (y = k ∧ (i = .all ∨ i = .c x.cls ∨ i = .k (x.cls, spV vs))) := fun i y => by
            have i3 : InR T3 i y ↔ InR T2 i y := by unfold InR; rw [r3']
            have hkk : keyOf x1 = (x.cls, spV vs) := rfl
            have h4 : InR T4 i y ↔ InR T2 i y ∨ (i = .k (x.cls, spV vs) ∧ y = k) := by
              rw [rs_in S6, hkk]
              by_cases e : i = .k (x.cls, spV vs)
              · rw [if_pos e, e]
                have : InR T2 (.k (x.cls, spV vs)) y ↔ ∃ r, T3.row (.k (x.cls, spV vs)) = some r ∧ y ∈ r.l := by unfold InR; rw [r3']
                rw [this]
                simp only [true_and]
                exact Or.comm
              · rw [if_neg e, i3]; simp [e]
            rw [h4, ir2]
            by_cases e : y = k
            · have hit : InR T i y ↔ Hit i x := by
                rw [I.rw, e, hx]
                constructor
                · rintro ⟨z, q, w⟩; cases q; exact w
                · exact fun w => ⟨x, rfl, w⟩
              rw [hit]
              cases i with
              | all => simp [e, Hit]
              | c s => simp [e, Hit, eq_comm]
              | k s => simp [e, Hit, eq_comm]
            · simp [e]
          have hl6 : lenA h6 1 v1 = some (.int .i64 (vs.length : Int)) := by
            have F6 := P6.f k x1 (by rw [S6.eq]; exact lkG_mem hx3)
            exact F6.vals.now.len
          refine z_of hl6 ?_
          have hsl : x.stamps.length = vs.length := by rw [c3, hvl]
          have eq6 : T4 = { T with clock := T.clock + 1, fs := upG T.fs k x1, all := T4.all, by' := T4.by', same := T4.same } := by rw [S6.eq, hT3, S4.eq, hT1]
          rw [p3, p1]
          suffices H : ∀ m i g τg Tg L, vs.length - i < m → i ≤ vs.length → SO B τg o h0 g Tg → St o τ τg h g → Tg = { T with clock := T.clock + 1, fs := upG T.fs k { x1 with stamps := L }, all := T4.all, by' := T4.by', same := T4.same } → L.length = x.stamps.length → (∀ j, L[j]? = if j < i then (nst x.vs vs ((T.clock + 1 : Nat) : Int) x.stamps)[j]? else x.stamps[j]?) →
              l11_65 (callN E (n + 7)) (n + 7) m (.ptr T.p 0 0 0) (.ptr x.id 0 0 0) (.int .u64 ((dm x.vs vs vs.length : Nat) : Int)) (.int .i64 (vs.length : Int)) (.int .i64 (i : Int)) g K = true from
            H (n + 7) 0 h6 τ6 T4 x.stamps (by omega) (Nat.zero_le _) P6 s06 eq6 rfl (fun j => by rw [if_neg (by omega)])
          clear ih
          intro m
          induction m with
          | zero => intro i g τg Tg L hm; omega
          | succ m ih =>
            intro i g τg Tg L hm hi P s eqg hL' hLj
            unfold l11_65 b11_65
            refine z_lss ?_
            have hlt62 := dm_lt x.vs vs vs.length
            have h2i : 2 ^ vs.length ≤ 2 ^ 62 := Nat.pow_le_pow_right (by decide) (by omega)
            have h264 : 2 ^ 62 < 18446744073709551616 := by decide
            by_cases hlt : i < vs.length
            · refine z_ct (decide_eq_true (by omega)) ?_
              obtain ⟨vb, mb1, mb2⟩ := m_bit (m := dm x.vs vs vs.length) (i := i) (by omega)
              refine z_of (m_shr (m := dm x.vs vs vs.length) (i := i) (by omega)) ?_; refine z_of mb1 ?_; refine z_of mb2 ?_
              rw [dm_bit]
              have hni : (nst x.vs vs ((T.clock + 1 : Nat) : Int) x.stamps)[i]? = some (if x.vs[i]? = vs[i]? then x.stamps[i]'(by omega) else ((T.clock + 1 : Nat) : Int)) := by
                unfold nst
                rw [List.getElem?_mapIdx, List.getElem?_eq_getElem (by omega : i < x.stamps.length)]; rfl
              by_cases hch : x.vs[i]? = vs[i]?
              · rw [decide_eq_false (fun q => q.2 hch)]
                refine z_cF ?_
                unfold p11_81
                refine z_of (inc64 (i := i) (by omega)) ?_
                refine ih (i + 1) g τg Tg L (by omega) (by omega) P s eqg hL' fun j => ?_
                rw [hLj]
                by_cases e1 : j = i
                · subst e1
                  rw [if_neg (by omega), if_pos (by omega), hni, if_pos hch, List.getElem?_eq_getElem (by omega)]
                · by_cases e2 : j < i
                  · rw [if_pos e2, if_pos (by omega)]
                  · rw [if_neg e2, if_neg (by omega)]
              · rw [decide_eq_true ⟨hlt, hch⟩]
                have hxg : lkG Tg.fs k = some { x1 with stamps := L } := by rw [eqg]; show lkG (upG T.fs k _) k = _; rw [lkG_up, if_pos rfl]
                have Fg := P.f k _ (lkG_mem hxg)
                have A5 : loadA g false 1 (.ptr x.id 0 0 5) = some x.sv := Fg.l5
                have L3 : loadA g false 1 (.ptr T.p 0 0 3) = some (.int .i64 ((T.clock + 1 : Nat) : Int)) := by have := P.l3; rw [eqg] at this; exact this
                have hil : i < (ints L).length := by rw [ints_len]; omega
                have Ms : Mr g 1 x.sv (ints L) := Fg.st
                obtain ⟨id3, g3, i1, i2, g', i3, M', b', z', o'⟩ := Ms.set (x := .int .i64 ((T.clock + 1 : Nat) : Int)) (List.getElem?_eq_getElem hil) (by simp [ints]) rfl rfl
                refine z_cT ?_; refine z_nil ?_; refine z_fadr ?_; refine z_of A5 ?_; refine z_nil ?_; refine z_fadr ?_; refine z_of L3 ?_; refine z_of (i1 .i64) ?_; refine z_u i3 ?_
                unfold p11_81
                refine z_of (inc64 (i := i) (by omega)) ?_
                have t3 := Fg.ts id3 i2
                have frw : Fr (fun j => τg j = .own o (.f k) ∨ τg j = .own o (.st k)) g g' := Fr.of_but (.inr t3) b'
                have ne3 : x.id ≠ id3 := fun w => by have := Fg.tid; rw [show ({ x1 with stamps := L } : FD).id = x.id from rfl, w, t3] at this; cases this
                have sw : ints (L.set i ((T.clock + 1 : Nat) : Int)) = (ints L).set i [AV.int .i64 ((T.clock + 1 : Nat) : Int)] := by simp [ints, List.map_set]
                have FX' : FO B τg o g' k { x1 with stamps := L.set i ((T.clock + 1 : Nat) : Int) } := ⟨Fg.tid, b'.var Fg.row ne3, Fg.vals.fr (Lt.of_fr frw fun j q w => by rcases q with q | q <;> rw [show τg j = .out from w] at q <;> cases q) P.ok fun _ _ q => q, Fg.sz, (by show Mr g' 1 x.sv (ints (L.set i _)); rw [sw]; exact M'), Fg.ts⟩
                obtain ⟨P', s'⟩ := P.updF hxg frw (o' P.ok) FX' rfl
                refine ih (i + 1) g' τg _ (L.set i ((T.clock + 1 : Nat) : Int)) (by omega) (by omega) P' (s.trans O.ok s') (by rw [eqg]; simp only [upG_up]) (by rw [List.length_set]; exact hL') fun j => ?_
                by_cases e1 : j = i
                · subst e1
                  rw [List.getElem?_set_self (by omega), if_pos (by omega), hni, if_neg hch]
                · rw [List.getElem?_set_ne (fun w => e1 w.symm), hLj]
                  by_cases e2 : j < i
                  · rw [if_pos e2, if_pos (by omega)]
                  · rw [if_neg e2, if_neg (by omega)]
            · refine z_cf (decide_eq_false (by omega)) ?_
              have hLn : L = nst x.vs vs ((T.clock + 1 : Nat) : Int) x.stamps := by
                apply List.ext_getElem?
                intro j
                rw [hLj]
                by_cases e : j < i
                · rw [if_pos e]
                · rw [if_neg e, List.getElem?_eq_none (by omega), List.getElem?_eq_none (by rw [nst_len]; omega)]
              have U : UpdT T Tg k x vs := by
                refine ⟨⟨{ x1 with stamps := L }, by rw [eqg], rfl, rfl, rfl, rfl, hLn⟩, ⟨by rw [eqg], by rw [eqg], by rw [eqg], by rw [eqg], by rw [eqg]⟩, fun i y => ?_⟩
                rw [← hrows]
                unfold InR
                have : Tg.row i = T4.row i := by rw [eqg]; cases i <;> rfl
                rw [this]
              exact k3 x vs hx hg hvl hne g τg Tg P s (I.upd hx hvl hvb U) U
end
end Go.Proofs.Ythifmankpcadjaa
namespace Go.Proofs.Ythifmankpcadjaa
open Go.Ab
set_option linter.unusedSimpArgs false
set_option linter.unusedVariables false
theorem c41 {n : Nat} {h : AHeap} {v : AV} {es : List (List AV)} {K : Kont} (ho : h.Ok) (V : View h 1 v es) (hl : es.length < 1000000)
    (k : ∀ h' v', Ext h h' → h'.Ok → View h' 1 v' es → (es ≠ [] → Mr h' 1 v' es) → (∀ j, inRow v' j → h.sz ≤ j) → K v' h' = true) : callN E (n + 1) (.func 41) [v] h K = true := by
  apply d41
  unfold s41
  have hnil : v = .nilSlc ∨ eqV h false .slc v .nilSlc = some (.bool false) := by
    rcases V with ⟨_, rfl | rfl⟩ | ⟨id, g, s, cap, ex, r, rfl, _⟩
    · exact .inl rfl
    · exact .inr rfl
    · exact .inr rfl
  rcases hnil with rfl | hne
  · have hes : es = [] := by
      rcases V with ⟨e, _⟩ | ⟨_, _, _, _, _, _, e, _⟩
      · exact e
      · cases e
    have : eqV h false .slc .nilSlc .nilSlc = some (.bool true) := rfl
    refine z_of this ?_; refine z_cT ?_
    exact k h _ (Ext.refl h) ho V (fun e => absurd hes e) fun j q => absurd q inRow_nil
  · refine z_of hne ?_; refine z_cF ?_
    have hb : bsliceV h 0 1 [AV.int .i64 0] [] = some (.slc h.sz 0 0 0 0 true, Ab.newRow h [] 1) := rfl
    refine z_p hb ?_
    have e1 := ext_newRow ho [] 1
    have o1 := ok_newRow ho [] 1
    have r1 : (Ab.newRow h [] 1).row h.sz = some { es := [], sz := 1, g := 0, m := 0, rw := true } := by rw [AHeap.row_some]; exact get_push_same _ _
    generalize Ab.newRow h [] 1 = h1 at *
    have V1 := V.ext e1
    cases es with
    | nil =>
      have : appendA h1 1 8 (.slc h.sz 0 0 0 0 true) v = some (.slc h.sz 0 0 0 0 true, h1) := by
        simp only [appendA, show Nat.beq 1 0 = false from rfl, cond_false, V1.src, appendNew]
      refine z_p this ?_
      exact k h1 _ e1 o1 (.inr ⟨h.sz, 0, 0, 0, true, _, rfl, r1, Nat.le_refl _, rfl, rfl, Nat.le_refl _⟩) (fun e => absurd rfl e) fun j q => by rw [inRow_slc.1 q]; exact Nat.le_refl _
    | cons y l =>
      have b1 : Nat.ble ((0 + (y :: l).length) * 8) most = true := nble_true.2 (by unfold most; omega)
      have b2 : Nat.ble (0 + (y :: l).length) most = true := nble_true.2 (by unfold most; omega)
      have b3 : Nat.ble (0 + (y :: l).length) 0 = false := by
        cases hh : Nat.ble (0 + (y :: l).length) 0 with
        | false => rfl
        | true => have := nble_true.1 hh; simp at this
      have : appendA h1 1 8 (.slc h.sz 0 0 0 0 true) v = some (.slc h1.sz 0 0 (0 + (y :: l).length) (0 + (y :: l).length) false, Ab.newRow h1 (y :: l) 1) := by
        simp only [appendA, show Nat.beq 1 0 = false from rfl, cond_false, V1.src, appendNew, r1, b1, b2, b3, Nat.beq_refl, Bool.and_self, cond_true, Nat.ble_self_eq_true, List.drop_nil, List.take_nil, List.length_nil, List.nil_append]
      refine z_p this ?_
      have M : Mr (Ab.newRow h1 (y :: l) 1) 1 (.slc h1.sz 0 0 (0 + (y :: l).length) (0 + (y :: l).length) false) (y :: l) :=
        ⟨h1.sz, 0 + (y :: l).length, false, { es := y :: l, sz := 1, g := 0, m := 0, rw := true }, by simp, by rw [AHeap.row_some]; exact get_push_same _ _, rfl, Nat.le_refl _, rfl, rfl, by simp⟩
      exact k _ _ (e1.trans (ext_newRow o1 _ 1)) (ok_newRow o1 _ 1) M.view (fun _ => M) fun j q => by rw [← inRow_slc.1 q]; exact e1.1
structure Tld (h h2 : AHeap) (x : FD) (vv sv : AV) : Prop where
  g : ∃ lo hi, Gv x.vs h2 lo hi vv ∧ h.sz ≤ lo ∧ lo ≤ hi ∧ hi ≤ h2.sz ∧ ∀ j, inRow sv j → hi ≤ j ∧ j < h2.sz
  l : vv.leaf = true
  v : View h2 1 sv (ints x.stamps)
  m : ints x.stamps ≠ [] → Mr h2 1 sv (ints x.stamps)
section
variable {B b : Nat} {τ : Nat → Tag} {o : Nat} {h0 h h' : AHeap} {T : SD} {K : Kont} {n : Nat} {k : Int} {x : FD}
theorem c36 (F : FO B τ o h k x) (ho : h.Ok) (hs : x.stamps.length < 1000000) (hB : B < 100000000) (hn : B + 100 ≤ n) (hL : n < lim)
    (kk : ∀ h2 vv sv, Ext h h2 → h2.Ok → Tld h h2 x vv sv → K (.agg [.int .i64 k, .str x.cls, vv, .bool x.stated, .int .i64 (x.born : Int), sv]) h2 = true) : callN E (n + 2) (.func 36) [.ptr x.id 0 0 0] h K = true := by
  have hBs := F.sz
  apply d36
  unfold s36
  obtain ⟨h1, q1, V1, e1, o1, z1⟩ := alloc_v (z := [AV.int .i64 0, .str [], .nilSlc, .bool false, .int .i64 0, .nilSlc]) ho (by decide) rfl
  refine z_p q1 ?_
  have R1 := F.row.ext e1
  have A : loadA h1 true 6 (.ptr x.id 0 0 0) = some (.agg [.int .i64 k, .str x.cls, x.vv, .bool x.stated, .int .i64 (x.born : Int), x.sv]) := R1.all rfl
  refine z_nil ?_; refine z_of A ?_
  obtain ⟨h2, q2, V2, e2, o2, z2⟩ := alloc_v (z := [AV.int .i64 0, .str [], .nilSlc, .bool false, .int .i64 0, .nilSlc]) o1 (by decide) rfl
  refine z_p q2 ?_
  have lvv := F.vals.leaf
  have lsv : x.sv.leaf = true := F.st.view.leaf
  obtain ⟨h3, w3, V3, b3, o3, z3⟩ := V2.wrs o2 (n := 6) (v := .agg [.int .i64 k, .str x.cls, x.vv, .bool x.stated, .int .i64 (x.born : Int), x.sv]) rfl rfl (by show allLeaf [.int .i64 k, .str x.cls, x.vv, .bool x.stated, .int .i64 (x.born : Int), x.sv] = true; simp only [allLeaf, lvv, lsv]; rfl)
  refine z_u w3 ?_
  have V3 : Var h3 h1.sz [.int .i64 k, .str x.cls, x.vv, .bool x.stated, .int .i64 (x.born : Int), x.sv] := V3
  have e03 : Ext h h3 := b3.ext (ext_two e1 e2) ho (by omega)
  have R3 := F.row.ext e03
  have A2 : loadA h3 false 1 (.ptr x.id 0 0 2) = some x.vv := R3.get rfl
  have A5 : ∀ g, Ext h3 g → loadA g false 1 (.ptr x.id 0 0 5) = some x.sv := fun g e => (R3.ext e).get rfl
  refine z_nil ?_; refine z_fadr ?_; refine z_of A2 ?_; refine z_nil ?_; refine z_fadr ?_; refine z_of (A5 h3 (Ext.refl _)) ?_
  have VV3 : VV h3 x.vv x.vs := F.vals.now.ext e03
  refine c62 (n := n) VV3 o3 (by omega) (by omega) hL fun h4 vv e4 o4 l4 s4 G => ?_
  refine z_same (A5 h4 e4) F.st.view.same ?_
  refine c41 (n := n) o4 ((F.st.view.ext e03).ext e4) (by rw [ints_len]; exact hs) fun h5 sv e5 o5 W5 M5 r5 => ?_
  have V5 := (V3.ext e4).ext e5
  obtain ⟨h6, w6, V6, b6, o6, z6⟩ := V5.wr o5 (off := 2) (v := vv) (show 2 < 6 by decide) l4
  refine z_fadr ?_
  refine z_u w6 ?_
  have V6 : Var h6 h1.sz [.int .i64 k, .str x.cls, vv, .bool x.stated, .int .i64 (x.born : Int), x.sv] := V6
  obtain ⟨h7, w7, V7, b7, o7, z7⟩ := V6.wr o6 (off := 5) (v := sv) (show 5 < 6 by decide) W5.leaf
  refine z_fadr ?_
  refine z_u w7 ?_
  have V7 : Var h7 h1.sz [.int .i64 k, .str x.cls, vv, .bool x.stated, .int .i64 (x.born : Int), sv] := V7
  have A7 : loadA h7 true 6 (.ptr h1.sz 0 0 0) = some (.agg [.int .i64 k, .str x.cls, vv, .bool x.stated, .int .i64 (x.born : Int), sv]) := V7.all rfl
  refine z_of A7 ?_
  have e23 : Ext h1 h3 := b3.ext e2 o1 (Nat.le_refl _)
  have U1 := (((V1.ext e23).ext e4).ext e5)
  have s1 := e1.1
  have U7 := b7.var (b6.var U1 (show h.sz ≠ h1.sz by omega)) (show h.sz ≠ h1.sz by omega)
  have lsv' := W5.leaf
  obtain ⟨h8, w8, V8, b8, o8, z8⟩ := U7.wrs o7 (n := 6) (v := .agg [.int .i64 k, .str x.cls, vv, .bool x.stated, .int .i64 (x.born : Int), sv]) rfl rfl (by show allLeaf [.int .i64 k, .str x.cls, vv, .bool x.stated, .int .i64 (x.born : Int), sv] = true; simp only [allLeaf, l4, lsv']; rfl)
  refine z_u w8 ?_
  have V8 : Var h8 h.sz [.int .i64 k, .str x.cls, vv, .bool x.stated, .int .i64 (x.born : Int), sv] := V8
  refine res1 (V8.all rfl) ?_
  have s3 := e03.1
  have s4' := e4.1
  have s5 := e5.1
  have hz3 : h3.sz = h1.sz + 1 := by omega
  have e05 : Ext h h5 := ext_two (ext_two e03 e4) e5
  have e08 : Ext h h8 := b8.ext (b7.ext (b6.ext e05 ho (by omega)) ho (by omega)) ho (Nat.le_refl _)
  have f58 : Fr (fun j => j = h1.sz ∨ j = h.sz) h5 h8 := ((Fr.of_but (.inl rfl) b6).trans (Fr.of_but (.inl rfl) b7)).trans (Fr.of_but (.inr rfl) b8)
  have dr : ∀ j, inRow sv j → ¬ (j = h1.sz ∨ j = h.sz) := fun j q w => by have := r5 j q; omega
  refine kk h8 vv sv e08 o8 ⟨⟨h3.sz, h4.sz, (G.fr (Kp.of_ext e5)).fr (Kp.of_fr f58 fun j w => by omega), s3, s4', by have := f58.sz; omega, fun j q => ⟨r5 j q, by have := W5.rlt o5 q; have := f58.sz; omega⟩⟩, l4, f58.view W5 fun id g s l c ex e => dr id (by rw [e]; exact inRow_slc.2 rfl), fun ne => (M5 ne).fr f58 dr⟩
end
end Go.Proofs.Ythifmankpcadjaa
namespace Go.Proofs.Ythifmankpcadjaa
open Go.Ab
set_option linter.unusedSimpArgs false
set_option linter.unusedVariables false
section
variable {B b : Nat} {τ : Nat → Tag} {o : Nat} {h0 h h' : AHeap} {T : SD} {K : Kont} {n : Nat} {cs : List Cls}
end
end Go.Proofs.Ythifmankpcadjaa
namespace Go.Proofs.Ythifmankpcadjaa
open Go.Ab
set_option linter.unusedSimpArgs false
set_option linter.unusedVariables false
theorem c18 {n : Nat} {hs : AHeap} {v v' : AV} {l l' : List Int} {K : Kont} (V : View hs 1 v (ints l)) (V' : View hs 1 v' (ints l')) (hlen : l.length < 1000000000) (hn : l.length < n)
    (kk : ∀ r, (r = true ↔ l = l') → K (.bool r) hs = true) : callN E (n + 1) (.func 18) [v, v'] hs K = true := by
  have hlm : lim = 4611686018427387904 := rfl
  apply d18
  unfold s18
  have la : lenA hs 1 v = some (.int .i64 (l.length : Int)) := by have := V.len; rwa [ints_len] at this
  have lb : lenA hs 1 v' = some (.int .i64 (l'.length : Int)) := by have := V'.len; rwa [ints_len] at this
  refine z_of la ?_; refine z_of lb ?_; refine z_neq ?_
  by_cases hll : l.length = l'.length
  rotate_left
  · refine z_ct (by rw [decide_eq_false (by omega)]; rfl) ?_
    exact kk false ⟨fun h => (by cases h), fun h => absurd (by rw [h]) hll⟩
  refine z_cf (by rw [decide_eq_true (by omega)]; rfl) ?_
  unfold p18_10
  suffices H : ∀ m i, l.length - i < m → i ≤ l.length → l.take i = l'.take i → l18_14 (callN E n) n m v v' (.int .i64 (i : Int)) hs K = true from
    H n 0 (by omega) (Nat.zero_le _) rfl
  intro m
  induction m with
  | zero => intro i hm; omega
  | succ m ihm =>
    intro i hm hi C
    unfold l18_14 b18_14
    refine z_of la ?_; refine z_lss ?_
    by_cases hlt : i < l.length
    · refine z_ct (decide_eq_true (by omega)) ?_
      have hlt' : i < l'.length := by omega
      obtain ⟨id, g, j, p1, p2⟩ := V.at (ints_get hlt)
      obtain ⟨id', g', j', p1', p2'⟩ := V'.at (ints_get hlt')
      have A : loadA hs false 1 (.ptr id g j 0) = some (.int .i64 l[i]) := by rw [p2]; rfl
      have A' : loadA hs false 1 (.ptr id' g' j' 0) = some (.int .i64 l'[i]) := by rw [p2']; rfl
      have t1 : l.take (i + 1) = l.take i ++ [l[i]] := by rw [List.take_succ_eq_append_getElem hlt]
      have t2 : l'.take (i + 1) = l'.take i ++ [l'[i]] := by rw [List.take_succ_eq_append_getElem hlt']
      refine z_of (p1 .i64) ?_; refine z_of A ?_; refine z_of (p1' .i64) ?_; refine z_of A' ?_; refine z_neq ?_
      by_cases c0 : l[i] = l'[i]
      rotate_left
      · rw [decide_eq_false c0, Bool.not_false]
        refine z_cT ?_
        exact kk false ⟨fun h => (by cases h), fun h => absurd (by subst h; rfl) c0⟩
      rw [decide_eq_true c0, Bool.not_true]
      refine z_cF ?_; refine z_of (inc64 (i := i) (by omega)) ?_
      exact ihm (i + 1) (by omega) (by omega) (by rw [t1, t2, C, c0])
    · refine z_cf (decide_eq_false (by omega)) ?_
      refine kk true ⟨fun _ => ?_, fun _ => rfl⟩
      rw [List.take_of_length_le (by omega), List.take_of_length_le (by omega)] at C
      exact C
end Go.Proofs.Ythifmankpcadjaa
namespace Go.Proofs.Ythifmankpcadjaa
open Go.Ab
set_option linter.unusedSimpArgs false
set_option linter.unusedVariables false
theorem Good.noName {l : List Cls} (G : Good l) : idx [] (names l) = none := by
  cases h : idx [] (names l) with
  | none => rfl
  | some i =>
    have := idx_mem h
    simp only [names, List.mem_map] at this
    obtain ⟨d, hd, hd2⟩ := this
    have := (G.2 d hd).1
    rw [hd2, isName_nil] at this; cases this
theorem chain_app {l m : List Cls} (A : Asc l) (B : Asc (l ++ m)) : ∀ (i : Nat) {s : Str}, idx s (names l) = some i → (∀ c ∈ l, idx c.super (names l) = none → idx c.super (names (l ++ m)) = none) → chain (l ++ m) s = chain l s := by
  intro i
  induction i using Nat.strongRecOn with
  | _ i ih =>
    intro s hs hsup
    obtain ⟨c, hc, _⟩ := idx_get hs
    have hs' : idx s (names (l ++ m)) = some i := by rw [names_append, idx_append, hs]
    have hc' : (l ++ m)[i]? = some c := by
      rw [List.getElem?_append_left (List.getElem?_eq_some_iff.1 hc).1]; exact hc
    rw [chain_some A hs hc, chain_some B hs' hc']
    congr 1
    cases hj : idx c.super (names l) with
    | none => rw [chain_none hj, chain_none (hsup c (List.mem_of_getElem? hc) hj)]
    | some j => exact ih j (A i c hc j hj) hj hsup
theorem validGo_at {all : List Str} : ∀ (l pre : List Cls), validGo all pre l = true → ∀ (i : Nat) c, l[i]? = some c → fitsB (pre ++ l.take i) c all = true ∧ c.fields.length ≤ 62
  | [], _, _, i, c, h => by simp at h
  | d :: l, pre, hv, i, c, h => by
    simp only [validGo, Bool.and_eq_true, decide_eq_true_eq] at hv
    cases i with
    | zero => simp at h; subst h; simpa using ⟨hv.1.2, hv.1.1⟩
    | succ i =>
      simp at h
      have := validGo_at l _ hv.2 i c h
      simpa using this
theorem valid_at {l : List Cls} (hv : valid l = true) {i : Nat} {c : Cls} (hc : l[i]? = some c) : fitsB (l.take i) c (names l) = true ∧ c.fields.length ≤ 62 := by
  simp only [valid, Bool.and_eq_true] at hv
  simpa using validGo_at l [] hv.2 i c hc
theorem idx_take {l : List Cls} {s : Str} {i j : Nat} (h : idx s (names l) = some j) (hj : j < i) : idx s (names (l.take i)) = some j := by
  have e : names l = names (l.take i) ++ names (l.drop i) := by rw [← names_append, List.take_append_drop]
  rw [e, idx_append] at h
  cases hx : idx s (names (l.take i)) with
  | some k => rw [hx] at h; exact h
  | none =>
    rw [hx] at h
    simp only at h
    cases hy : idx s (names (l.drop i)) with
    | none => rw [hy] at h; cases h
    | some k =>
      rw [hy] at h
      simp at h
      rw [names_length] at h
      have hd := (idx_lt hy).1
      rw [names_length] at hd
      simp at hd h
      omega
theorem Good.take {l : List Cls} (G : Good l) (i : Nat) : Good (l.take i) := by
  refine ⟨fun k c hc => ?_, fun c hc => G.2 c (List.mem_of_mem_take hc)⟩
  have hk : k < i := by
    have := (List.getElem?_eq_some_iff.1 hc).1
    simp at this; omega
  rw [List.getElem?_take] at hc
  simp only [hk, if_true] at hc
  rcases G.1 k c hc with h | ⟨j, h1, h2⟩
  · exact .inl h
  · exact .inr ⟨j, h1, idx_take h2 (by omega)⟩
theorem chain_take {l : List Cls} (G : Good l) {i : Nat} {c : Cls} (hc : l[i]? = some c) : chain (l.take i) c.super = chain l c.super := by
  have Gt := G.take i
  rcases G.1 i c hc with h | ⟨j, h1, h2⟩
  · rw [h, chain_none G.noName, chain_none Gt.noName]
  · have e : l.take i ++ l.drop i = l := List.take_append_drop i l
    have B : Asc (l.take i ++ l.drop i) := by rw [e]; exact G.asc
    have := chain_app (m := l.drop i) Gt.asc B j (idx_take h2 h1) (fun d hd hn => ?_)
    · rw [e] at this; exact this.symm
    · rw [e]
      obtain ⟨k, hk⟩ := List.getElem?_of_mem hd
      rcases Gt.1 k d hk with h | ⟨q, _, hq⟩
      · rw [h]; exact G.noName
      · rw [hn] at hq; cases hq
theorem goF_nodup {all : List Str} : ∀ (fs prev : List Fld), goF all prev fs = true → (fnames fs).Nodup ∧ ∀ n ∈ fnames fs, n ∉ fnames prev
  | [], _, _ => ⟨List.nodup_nil, fun n h => by cases h⟩
  | f :: fs, prev, h => by
    simp only [goF, Bool.and_eq_true, decide_eq_true_eq] at h
    obtain ⟨i1, i2⟩ := goF_nodup fs _ h.2
    have hn : f.name ∉ fnames prev := by
      intro hm
      simp only [fnames, List.mem_map] at hm
      obtain ⟨g, hg, hgn⟩ := hm
      have h0 := h.1.2
      unfold cnt at h0
      rw [List.length_eq_zero_iff, List.filter_eq_nil_iff] at h0
      exact h0 g hg (by simpa using hgn)
    refine ⟨?_, fun n hm => ?_⟩
    · show (f.name :: fnames fs).Nodup
      refine List.nodup_cons.2 ⟨fun hm => i2 _ hm (by simp [fnames]), i1⟩
    · have hm' : n = f.name ∨ n ∈ fnames fs := by simpa [fnames] using hm
      rcases hm' with rfl | hm'
      · exact hn
      · intro hp
        refine i2 n hm' ?_
        simp only [fnames, List.map_append, List.mem_append] at hp ⊢
        exact .inl hp
theorem fields_step {l : List Cls} (A : Asc l) {s : Str} {i : Nat} {c : Cls} (hs : idx s (names l) = some i) (hc : l[i]? = some c) : fieldsOf l s = fieldsOf l c.super ++ c.fields := by
  unfold fieldsOf
  rw [chain_some A hs hc]
  simp
theorem flat_len {α β : Type} (f : α → List β) : ∀ (l : List α), (l.reverse.flatMap f).length = (l.flatMap f).length
  | [] => rfl
  | x :: l => by
    rw [List.reverse_cons, List.flatMap_append, List.length_append, flat_len f l]
    simp; omega
theorem fields_mem {l : List Cls} {s n : Str} : n ∈ fnames (fieldsOf l s) ↔ n ∈ fnames (upF l s) := by
  simp [fnames, fieldsOf, upF]
theorem fields_len {l : List Cls} {s : Str} : (fieldsOf l s).length = (upF l s).length := flat_len _ _
theorem fields_ok {l : List Cls} (hv : valid l = true) (G : Good l) : ∀ (i : Nat) {s : Str}, idx s (names l) = some i → (fnames (fieldsOf l s)).Nodup ∧ (fieldsOf l s).length ≤ 62 := by
  intro i
  induction i using Nat.strongRecOn with
  | _ i ih =>
    intro s hs
    obtain ⟨c, hc, hcn⟩ := idx_get hs
    have hf := (valid_at hv hc).1
    simp only [fitsB, Bool.and_eq_true, decide_eq_true_eq] at hf
    have hg := hf.1.2
    have h62 := hf.2
    have hup : upF (l.take i) c.super = upF l c.super := by unfold upF; rw [chain_take G hc]
    rw [hup] at hg h62
    obtain ⟨g1, g2⟩ := goF_nodup _ _ hg
    rw [fields_step G.asc hs hc]
    have hfst : (fnames (fieldsOf l c.super)).Nodup := by
      cases hj : idx c.super (names l) with
      | none => unfold fieldsOf; rw [chain_none hj]; exact List.nodup_nil
      | some j => exact (ih j (G.asc i c hc j hj) hj).1
    refine ⟨?_, by rw [List.length_append, fields_len]; exact h62⟩
    have e : fnames (fieldsOf l c.super ++ c.fields) = fnames (fieldsOf l c.super) ++ fnames c.fields := by simp [fnames]
    rw [e]
    refine List.nodup_append.2 ⟨hfst, g1, fun a ha b hb hab => ?_⟩
    subst hab
    exact g2 a hb (fields_mem.1 ha)
theorem fields62 {l : List Cls} (hv : valid l = true) (G : Good l) (s : Str) : (fieldsOf l s).length ≤ 62 := by
  cases h : idx s (names l) with
  | some i => exact (fields_ok hv G i h).2
  | none =>
    have : chain l s = [] := by unfold chain chainN; rw [h]
    unfold fieldsOf; rw [this]; simp
end Go.Proofs.Ythifmankpcadjaa
namespace Go.Proofs.Ythifmankpcadjaa
open Go.Ab
set_option linter.unusedSimpArgs false
set_option linter.unusedVariables false
section
variable {T T' T1 T1' : SD} {k : Int} {x x' : FD} {vs : List Val} {name : Str} {st : Bool}
end
end Go.Proofs.Ythifmankpcadjaa
namespace Go.Proofs.Ythifmankpcadjaa
open Go.Ab
set_option linter.unusedSimpArgs false
set_option linter.unusedVariables false
mutual
theorem RV.keep {h h' : AHeap} (e : Lt (fun _ => True) h h') : ∀ {a : List AV} {v : Val}, RV h a v → RV h' a v
  | a, .mk k b n t l, H => by
    simp only [RV] at H ⊢
    obtain ⟨lv, es, h1, h2, h3, h4⟩ := H
    exact ⟨lv, es, h1, h2.lt e (fun _ _ => trivial), RVs.keep e h3, h4⟩
theorem RVs.keep {h h' : AHeap} (e : Lt (fun _ => True) h h') : ∀ {es : List (List AV)} {l : List Val}, RVs h es l → RVs h' es l
  | es, [], H => by simp only [RVs] at H ⊢; exact H
  | es, v :: l, H => by
    simp only [RVs] at H ⊢
    obtain ⟨x, r, h1, h2, h3⟩ := H
    exact ⟨x, r, h1, RV.keep e h2, RVs.keep e h3⟩
end
theorem GV.sq {h0 h : AHeap} {v : AV} {l : List (Str × Val)} (G : GV h0 v l) (k0 : h0.Ok) (e : Ext h0 h) : Sq (fun j => j < h0.sz) h v l := fun h' L => by
  have q : Lt (fun _ => True) h0 h' := fun j o _ g => L j o (k0.lt g) (e.2 j o g)
  obtain ⟨es, V, A⟩ := G
  refine ⟨es, V.lt q (fun _ _ => trivial), A.mono fun a p r => ?_⟩
  obtain ⟨c, e, R⟩ := r
  exact ⟨c, e, RV.keep q R⟩
structure OpP where
  d : Int
  cls : Str
  set : List (Str × Val)
  k : Int
  st : Bool
def ROp (h : AHeap) (a : List AV) (p : OpP) : Prop := ∃ sv, a = [.int .i64 p.d, .str p.cls, sv, .int .i64 p.k, .bool p.st] ∧ GV h sv p.set
def OV (h : AHeap) (v : AV) (l : List OpP) : Prop := ∃ es, View h 5 v es ∧ All2 (ROp h) es l
theorem GV.ext {h h' : AHeap} {v : AV} {l : List (Str × Val)} (G : GV h v l) (e : Ext h h') : GV h' v l := let ⟨es, V, A⟩ := G; ⟨es, V.ext e, A.mono fun _ _ ⟨c, q, R⟩ => ⟨c, q, RV.ext e R⟩⟩
theorem ROp.ext {h h' : AHeap} {a : List AV} {p : OpP} (R : ROp h a p) (e : Ext h h') : ROp h' a p := let ⟨sv, q, G⟩ := R; ⟨sv, q, G.ext e⟩
theorem OV.ext {h h' : AHeap} {v : AV} {l : List OpP} (R : OV h v l) (e : Ext h h') : OV h' v l := let ⟨es, V, A⟩ := R; ⟨es, V.ext e, A.mono fun _ _ r => r.ext e⟩
structure Fix (cs : List Cls) (B b : Nat) (h0 : AHeap) (tb : AV) : Prop where
  tr : TableRep h0 tb cs
  asc : Asc cs
  len : cs.length ≤ 64
  f62 : ∀ s, (fieldsOf cs s).length ≤ 62
  b1 : 1 ≤ b
  bB : 62 * b ≤ B
  B : B < 100000000
section
variable {cs : List Cls} {B b i n : Nat} {h0 h h' : AHeap} {τ : Nat → Tag} {T T' : SD} {tb sv : AV} {K : Kont} {p : OpP}
end
end Go.Proofs.Ythifmankpcadjaa
namespace Go.Proofs.Ythifmankpcadjaa
open Go.Ab
set_option linter.unusedSimpArgs false
set_option linter.unusedVariables false
section
variable {cs : List Cls} {B b n : Nat} {h0 : AHeap} {tb lv dv nv hv : AV} {mo : Int} {K : Kont} {l : List OpP} {q pa pb : Nat}
end
end Go.Proofs.Ythifmankpcadjaa
namespace Go.Proofs.Ythifmankpcadjaa
open Go.Ab
set_option linter.unusedSimpArgs false
set_option linter.unusedVariables false
theorem c7 {n : Nat} {h : AHeap} {K : Kont} (k : K (.bool true) h = true) : callN E (n + 1) (.func 7) [] h K = true := k
section
variable {cs : List Cls} {B b n : Nat} {h0 h : AHeap} {τ : Nat → Tag} {T T' : SD} {tb lv dv nv hv : AV} {mo : Int} {K : Kont} {q : Nat}
end
end Go.Proofs.Ythifmankpcadjaa
namespace Go.Proofs.Ythifmankpcadjaa
open Go.Ab
set_option linter.unusedSimpArgs false
set_option linter.unusedVariables false
theorem addAny (x y : Int) : ∃ z, binA .add (.int .i64 x) (.int .i64 y) = some (.int .i64 z) := ⟨_, by rw [binA_ints _ _ _ _ rfl]; rfl⟩
section
variable {cs : List Cls} {b n : Nat} {h : AHeap} {lv dv nv hv : AV} {mo : Int} {K : Kont} {l : List OpP} {q : Nat}
theorem l35 {B23 : F3} {i : Nat} {sv : AV} {p : OpP} (hs : h.Ok) (V1 : Var h q [lv, .int .i64 mo, dv, nv, hv]) (D : OV h dv l) (hp : l[i]? = some p) (hb : ∀ p ∈ l, (∀ q ∈ p.set, szV q.2 ≤ b) ∧ p.set.length ≤ n) (hn : b + 200 ≤ n) (hL : n + 10 < lim) (hi : i < 1000)
    (kk : ∀ z h', Ext h h' → h'.Ok → B23 (.ptr q 0 0 0) (.int .i64 z) (.int .i64 ((i + 1 : Nat) : Int)) h' = true) :
    ∀ m j x g, p.set.length - j < m → j ≤ p.set.length → Ext h g → g.Ok → l6_35 (callN E (n + 2)) (n + 2) B23 m (.ptr q 0 0 0) (.int .i64 x) (.int .i64 (i : Int)) (.int .i64 (j : Int)) g K = true := by
  have hlm : lim = 4611686018427387904 := rfl
  obtain ⟨es, W, A⟩ := D
  obtain ⟨ee, he, sv, rfl, G⟩ := A.get hp
  obtain ⟨hb1, hb2⟩ := hb p (List.mem_of_getElem? hp)
  obtain ⟨id, gg, jj, u⟩ := W.atE he
  intro m
  induction m with
  | zero => intro j x g hm; omega
  | succ m ih =>
    intro j x g hm hj e o
    have A2 : loadA g false 1 (.ptr q 0 0 2) = some dv := (V1.ext e).get rfl
    obtain ⟨p1, p2⟩ := u g e
    have L2 : loadA g false 1 (.ptr id gg jj 2) = some sv := by rw [p2]; rfl
    obtain ⟨es6, W6, A6⟩ := G.ext e
    have len : lenA g 1 sv = some (.int .i64 (p.set.length : Int)) := by rw [W6.len, A6.length]
    unfold l6_35 b6_35
    refine z_fadr ?_; refine z_of A2 ?_; refine z_of (p1 .i64) ?_; refine z_fadr ?_; refine z_of L2 ?_; refine z_of len ?_; refine z_lss ?_
    by_cases hlt : j < p.set.length
    · refine z_ct (decide_eq_true (by omega)) ?_
      obtain ⟨e6, he6, c, rfl, Rc⟩ := A6.get (List.getElem?_eq_getElem hlt)
      have hbq := hb1 _ (List.getElem_mem hlt)
      obtain ⟨id6, g6, j6, y1, y2⟩ := W6.at he6
      obtain ⟨z, az⟩ := addAny x 1
      have hc5 := Rc.len5
      have L5 : loadA g true 5 (.ptr id6 g6 j6 1) = some (.agg c) := by
        rw [y2]
        simp only [partA, cond_true, List.length_cons, hc5]
        rw [nble_true.2 (Nat.le_refl 6), cond_true, List.drop_succ_cons, List.drop_zero, List.take_of_length_le (by omega)]
      refine z_of az ?_; refine z_fadr ?_; refine z_of A2 ?_; refine z_of (p1 .i64) ?_; refine z_fadr ?_; refine z_of L2 ?_; refine z_of (y1 .i64) ?_; refine z_fadr ?_; refine z_of L5 ?_
      obtain ⟨r1, r2, r3, r4⟩ := Rc.agg
      obtain ⟨w', g3, b1, b2, e3, o3, z3, _⟩ := bslice1_v (sz := 5) (z := [AV.int .i64 0, .bool false, .int .i64 0, .str [], .nilSlc]) (v := .agg c) o rfl (by decide) (by decide) rfl r2 r3
      rw [r4] at b2
      refine z_p b1 ?_
      have VVw : VV g3 w' [(p.set[j]).2] := ⟨[c], b2, .cons (RV.ext e3 Rc) .nil⟩
      refine u24 (n := n) VVw (by simp only [szVs]; omega) (by omega) fun y => ?_
      obtain ⟨z2, az2⟩ := addAny z y
      refine z_of az2 ?_; refine z_of (inc64 (i := j) (by omega)) ?_
      exact ih (j + 1) z2 g3 (by omega) (by omega) (ext_two e e3) o3
    · refine z_cf (decide_eq_false (by omega)) ?_
      unfold p6_46
      refine z_of (inc64 (i := i) (by omega)) ?_
      exact kk x g e o
theorem c6 (hs : h.Ok) (C : CV h lv cs) (D : OV h dv l) (hlf : allLeaf [lv, .int .i64 mo, dv, nv, hv] = true) (hb : ∀ p ∈ l, (∀ q ∈ p.set, szV q.2 ≤ b) ∧ p.set.length ≤ n) (hcl : cs.length ≤ n) (hn : b + 200 ≤ n) (hL : n + 10 < lim)
    (kk : ∀ c h', Ext h h' → h'.Ok → K (.bool c) h' = true) : callN E (n + 3) (.func 6) [.agg [lv, .int .i64 mo, dv, nv, hv]] h K = true := by
  have hlm : lim = 4611686018427387904 := rfl
  apply d6
  unfold s6
  obtain ⟨h1, q1, V1, e1, o1, z1⟩ := box_v (n := 5) (v := .agg [lv, .int .i64 mo, dv, nv, hv]) hs rfl (by decide) hlf
  have V1 : Var h1 h.sz [lv, .int .i64 mo, dv, nv, hv] := V1
  refine z_p q1 ?_
  have ops : ∀ (m i : Nat) (x : Int) (g : AHeap), 100 - i < m → i ≤ 100 → Ext h1 g → g.Ok → l6_23 (callN E (n + 2)) (n + 2) m (.ptr h.sz 0 0 0) (.int .i64 x) (.int .i64 (i : Int)) g K = true := by
    intro m
    induction m with
    | zero => intro i x g hm; omega
    | succ m ih =>
      intro i x g hm hi e o
      have A2 : loadA g false 1 (.ptr h.sz 0 0 2) = some dv := (V1.ext e).get rfl
      have Dg := (D.ext e1).ext e
      have len : lenA g 1 dv = some (.int .i64 (l.length : Int)) := by obtain ⟨es, W, A⟩ := Dg; rw [W.len, A.length]
      have fin : p6_47 (callN E (n + 2)) (n + 2) (.int .i64 x) g K = true := by
        unfold p6_47
        refine z_leq ?_
        exact kk _ g (ext_two e1 e) o
      unfold l6_23 b6_23
      refine z_fadr ?_; refine z_of A2 ?_; refine z_of len ?_; refine z_lss ?_
      by_cases hlt : i < l.length
      rotate_left
      · rw [decide_eq_false (show ¬ (i : Int) < (l.length : Int) by omega)]
        refine z_gft ?_; refine z_gft ?_; refine z_kf ?_; refine z_cF ?_
        exact fin
      rw [decide_eq_true (show (i : Int) < (l.length : Int) by omega)]
      refine z_gtt ?_; refine z_some ?_; refine z_gtt ?_; refine z_lss ?_; refine z_kt ?_
      by_cases h100 : i < 100
      rotate_left
      · rw [decide_eq_false (show ¬ (i : Int) < 100 by omega)]
        refine z_cF ?_
        exact fin
      rw [decide_eq_true (show (i : Int) < 100 by omega)]
      refine z_cT ?_
      unfold p6_30
      obtain ⟨hb1, hb2⟩ := hb _ (List.getElem_mem hlt)
      exact l35 (sv := dv) o (V1.ext e) Dg (List.getElem?_eq_getElem hlt) hb hn hL (by omega) (fun z h' e' o' => ih (i + 1) z h' (by omega) (by omega) (ext_two e e') o') (n + 2) 0 x g (by omega) (Nat.zero_le _) (Ext.refl _) o
  have cls : ∀ (m i : Nat) (x : Int), cs.length - i < m → i ≤ cs.length → l6_8 (callN E (n + 2)) (n + 2) m (.ptr h.sz 0 0 0) (.int .i64 x) (.int .i64 (i : Int)) h1 K = true := by
    intro m
    induction m with
    | zero => intro i x hm; omega
    | succ m ih =>
      intro i x hm hi
      have A0 : loadA h1 false 1 (.ptr h.sz 0 0 0) = some lv := V1.get rfl
      have len : lenA h1 1 lv = some (.int .i64 (cs.length : Int)) := by obtain ⟨es, W, A⟩ := C.ext e1; rw [W.len, A.length]
      unfold l6_8 b6_8
      refine z_fadr ?_; refine z_of A0 ?_; refine z_of len ?_; refine z_lss ?_
      by_cases hlt : i < cs.length
      · refine z_ct (decide_eq_true (by omega)) ?_
        obtain ⟨id, g', j, f, y1, y2, y3, y4, y5, y6⟩ := C.at2 e1 (List.getElem?_eq_getElem hlt)
        obtain ⟨z, az⟩ := addAny x 1
        obtain ⟨z2, az2⟩ := addAny z (((cs[i]).fields.map encF).length : Int)
        refine z_of az ?_; refine z_fadr ?_; refine z_of A0 ?_; refine z_of y1 ?_; refine z_fadr ?_; refine z_of y5 ?_; refine z_of (y6.ext e1).len ?_; refine z_of az2 ?_; refine z_of (inc64 (i := i) (by omega)) ?_
        exact ih (i + 1) z2 (by omega) (by omega)
      · refine z_cf (decide_eq_false (by omega)) ?_
        unfold p6_19
        exact ops (n + 2) 0 x h1 (by omega) (by omega) (Ext.refl _) o1
  exact cls (n + 2) 0 0 (by omega) (Nat.zero_le _)
end
end Go.Proofs.Ythifmankpcadjaa
namespace Go.Proofs.Ythifmankpcadjaa
open Go.Ab
set_option linter.unusedSimpArgs false
set_option linter.unusedVariables false
theorem SI.nil {cs : List Cls} {b : Nat} {T : SD} (h1 : T.fs = []) (h2 : T.all.l = []) (h3 : T.by' = []) (h4 : T.same = []) : SI cs b T := by
  refine ⟨(by rw [h1]; exact .nil), fun k x q => (by rw [h1] at q; cases q), fun i y => ?_, fun k x q => (by rw [h1] at q; cases q)⟩
  constructor
  · rintro ⟨r, e, q⟩
    cases i with
    | all => cases e; rw [h2] at q; cases q
    | c s => simp only [SD.row, h3, lkG] at e; cases e
    | k s => simp only [SD.row, h4, lkG] at e; cases e
  · rintro ⟨x, e, _⟩
    rw [h1] at e; cases e
section
variable {cs : List Cls} {B b n : Nat} {h : AHeap} {lv dv nv hv : AV} {mo : Int} {K : Kont} {l : List OpP}
end
end Go.Proofs.Ythifmankpcadjaa
namespace Go.Proofs.Ythifmankpcadjaa
open Go.Ab
set_option linter.unusedSimpArgs false
set_option linter.unusedVariables false
mutual
theorem bulk_eq {H : Type} : ∀ (d : DataW H), Rows.uptoBulk d = bulk d
  | .lit l => by cases l <;> simp [Rows.uptoBulk, bulk]
  | .nil => by simp [Rows.uptoBulk, bulk]
  | .ptr d => by simp [Rows.uptoBulk, bulk, bulk_eq d]
  | .slice a b => by simp [Rows.uptoBulk, bulk, bulkAll_eq a, bulkAll_eq b]
  | .agg a => by simp [Rows.uptoBulk, bulk, bulkAll_eq a]
  | .iface _ d => by simp [Rows.uptoBulk, bulk, bulk_eq d]
  | .map es => by simp [Rows.uptoBulk, bulk, bulkEntries_eq es]
  | .held _ => by simp [Rows.uptoBulk, bulk]
theorem bulkAll_eq {H : Type} : ∀ (l : List (DataW H)), Rows.uptoBulkAll l = bulkAll l
  | [] => rfl
  | d :: l => by simp [Rows.uptoBulkAll, bulkAll, bulk_eq d, bulkAll_eq l]
theorem bulkEntries_eq {H : Type} : ∀ (l : List (Lit × DataW H)), Rows.uptoBulkEntries l = bulkEntries l
  | [] => rfl
  | (k, d) :: l => by
    have h1 := bulk_eq d
    have h2 := bulkEntries_eq l
    cases k <;> simp [Rows.uptoBulkEntries, bulkEntries, Rows.uptoBulkEntry, bulkEntry, h1, h2]
end
def szF (f : Fld) : Nat := f.name.length + 1
def szC (c : Cls) : Nat := c.name.length + szL szF c.fields + 1
def RFd : Rd Fld := fun _ a f => a = encF f
def RC : Rd Cls := fun h a c => RCls h a c
theorem all2_enc {h : AHeap} {es : List (List AV)} {fs : List Fld} (he : All2 (RFd h) es fs) : es = fs.map encF := by
  induction he with
  | nil => rfl
  | cons h _ ih =>
    have h' : _ = encF _ := h
    rw [List.map_cons, ih, h']
theorem RFd.mono : Mono RFd := fun _ _ _ _ _ h => h
theorem RC.mono : Mono RC := fun _ _ _ _ e h => RCls.ext h e
def szG (p : Str × Val) : Nat := p.1.length + szV p.2 + 1
def szO (p : OpP) : Nat := p.cls.length + szL szG p.set + 1
theorem RG.mono : Mono RG := fun _ _ _ _ e h => let ⟨c, q, R⟩ := h; ⟨c, q, RV.ext e R⟩
theorem ROp.mono : Mono ROp := fun _ _ _ _ e h => ROp.ext h e
section
variable {H : Type} {enc : TypeId × Value → H} {W : World} {held : Bool}
theorem inV : In enc Try.prog W held 63 5 szV RV :=
  inVal (t0 := 3) (t1 := 4) (t2 := 2) (t3 := 9) (tl := 53) Try.underlying63 rfl (by kernel_rfl) Try.underlying3 (by kernel_rfl) Try.underlying4 (by kernel_rfl) Try.underlying2 (by kernel_rfl) Try.underlying9 (by kernel_rfl) Try.underlying53 (by kernel_rfl)
theorem inFd : In enc Try.prog W held 65 3 szF RFd := by
  have I := In.struct (enc := enc) (W := W) (held := held) (P := Try.prog) (t := 65) (tot := 3) Try.underlying65 rfl (by kernel_rfl)
    (InF.cons (off := 0) (n := 1) (by kernel_rfl) RStr.mono (In.str Try.underlying9) (InF.cons (off := 1) (n := 1) (by kernel_rfl) RInt.mono (In.int Try.underlying3) (InF.cons (off := 2) (n := 1) (by kernel_rfl) RStr.mono (In.str Try.underlying9) InF.nil)))
  refine I.conv ?_
  rintro h a ⟨s, i, s2, u⟩ ⟨b1, c1, rfl, _, ⟨rfl, _⟩, b2, c2, rfl, _, ⟨rfl, _⟩, b3, c3, rfl, _, ⟨rfl, _⟩, rfl⟩
  exact ⟨⟨s, i, s2⟩, rfl, by simp [szF]; omega⟩
theorem inFs : In enc Try.prog W held 50 1 (fun l => szL szF l + 1) (RSl 3 RFd) := In.slice Try.underlying50 (by kernel_rfl) (by decide) RFd.mono inFd
theorem inC : In enc Try.prog W held 52 3 szC RC := by
  have I := In.struct (enc := enc) (W := W) (held := held) (P := Try.prog) (t := 52) (tot := 3) Try.underlying52 rfl (by kernel_rfl)
    (InF.cons (off := 0) (n := 1) (by kernel_rfl) RStr.mono (In.str Try.underlying9) (InF.cons (off := 1) (n := 1) (by kernel_rfl) RStr.mono (In.str Try.underlying9) (InF.cons (off := 2) (n := 1) (by kernel_rfl) (RSl.mono RFd.mono) inFs InF.nil)))
  refine I.conv ?_
  rintro h a ⟨s, s2, fs, u⟩ ⟨b1, c1, rfl, _, ⟨rfl, _⟩, b2, c2, rfl, _, ⟨rfl, _⟩, b3, c3, rfl, _, hf, rfl⟩
  obtain ⟨v, es, rfl, hv, he⟩ := hf.view
  rw [all2_enc he] at hv
  exact ⟨⟨s, s2, fs⟩, ⟨v, rfl, hv⟩, by simp [szC]; omega⟩
theorem inCs : In enc Try.prog W held 22 1 (fun l => szL szC l + 1) (RSl 3 RC) := In.slice Try.underlying22 (by kernel_rfl) (by decide) RC.mono inC
theorem inG : In enc Try.prog W held 67 6 szG RG := by
  have I := In.struct (enc := enc) (W := W) (held := held) (P := Try.prog) (t := 67) (tot := 6) Try.underlying67 rfl (by kernel_rfl)
    (InF.cons (off := 0) (n := 1) (by kernel_rfl) RStr.mono (In.str Try.underlying9) (InF.cons (off := 1) (n := 5) (by kernel_rfl) RV.mono inV InF.nil))
  refine I.conv ?_
  rintro h a ⟨s, v, u⟩ ⟨b1, c1, rfl, _, ⟨rfl, hs⟩, b2, c2, rfl, _, hv, rfl⟩
  exact ⟨(s, v), ⟨b2, by simp, hv⟩, by simp only [szG]; omega⟩
theorem inGs : In enc Try.prog W held 37 1 (fun l => szL szG l + 1) (RSl 6 RG) := In.slice Try.underlying37 (by kernel_rfl) (by decide) RG.mono inG
theorem inO : In enc Try.prog W held 39 5 szO ROp := by
  have I := In.struct (enc := enc) (W := W) (held := held) (P := Try.prog) (t := 39) (tot := 5) Try.underlying39 rfl (by kernel_rfl)
    (InF.cons (off := 0) (n := 1) (by kernel_rfl) RInt.mono (In.int Try.underlying3) (InF.cons (off := 1) (n := 1) (by kernel_rfl) RStr.mono (In.str Try.underlying9) (InF.cons (off := 2) (n := 1) (by kernel_rfl) (RSl.mono RG.mono) inGs (InF.cons (off := 3) (n := 1) (by kernel_rfl) RInt.mono (In.int Try.underlying3) (InF.cons (off := 4) (n := 1) (by kernel_rfl) RBool.mono (In.bool Try.underlying4) InF.nil)))))
  refine I.conv ?_
  rintro h a ⟨d, c, gs, k, st, u⟩ ⟨b1, c1, rfl, _, ⟨rfl, _⟩, b2, c2, rfl, _, ⟨rfl, _⟩, b3, c3, rfl, _, hg, b4, c4, rfl, _, ⟨rfl, _⟩, b5, c5, rfl, _, hst, rfl⟩
  obtain ⟨v, es, rfl, hv, he⟩ := hg.view
  cases hst
  exact ⟨⟨d, c, gs, k, st⟩, ⟨v, rfl, es, hv, he⟩, by simp only [szO]; omega⟩
theorem inOs : In enc Try.prog W held 23 1 (fun l => szL szO l + 1) (RSl 5 ROp) := In.slice Try.underlying23 (by kernel_rfl) (by decide) ROp.mono inO
theorem inSs : In enc Try.prog W held 24 1 (fun l => szL (fun s : Str => s.length + 1) l + 1) (RSl 1 RStr) := In.slice Try.underlying24 (by kernel_rfl) (by decide) RStr.mono (In.str Try.underlying9)
theorem inIs : In enc Try.prog W held 25 1 (fun l => szL (fun _ : Int => 1) l + 1) (RSl 1 (RInt .i64)) := In.slice Try.underlying25 (by kernel_rfl) (by decide) RInt.mono (In.int Try.underlying3)
def RSx : Rd (List Cls × List OpP) := fun h a p => ∃ lv mo dv nv hv, a = [lv, .int .i64 mo, dv, nv, hv] ∧ CV h lv p.1 ∧ OV h dv p.2 ∧ allLeaf [lv, .int .i64 mo, dv, nv, hv] = true
theorem inSx : In enc Try.prog W held 27 5 (fun p => szL szC p.1 + szL szO p.2) RSx := by
  have I := In.struct (enc := enc) (W := W) (held := held) (P := Try.prog) (t := 27) (tot := 5) Try.underlying27 rfl (by kernel_rfl)
    (InF.cons (off := 0) (n := 1) (by kernel_rfl) (RSl.mono RC.mono) inCs (InF.cons (off := 1) (n := 1) (by kernel_rfl) RInt.mono (In.int Try.underlying3) (InF.cons (off := 2) (n := 1) (by kernel_rfl) (RSl.mono ROp.mono) inOs (InF.cons (off := 3) (n := 1) (by kernel_rfl) (RSl.mono RStr.mono) inSs (InF.cons (off := 4) (n := 1) (by kernel_rfl) (RSl.mono RInt.mono) inIs InF.nil)))))
  refine I.conv ?_
  rintro h a ⟨cs, mo, ops, ns, hs, u⟩ ⟨b1, c1, rfl, _, hc, b2, c2, rfl, _, ⟨rfl, _⟩, b3, c3, rfl, _, ho, b4, c4, rfl, _, hn, b5, c5, rfl, _, hh, rfl⟩
  obtain ⟨v1, e1, rfl, w1, x1⟩ := hc.view
  obtain ⟨v3, e3, rfl, w3, x3⟩ := ho.view
  obtain ⟨v4, e4, rfl, w4, x4⟩ := hn.view
  obtain ⟨v5, e5, rfl, w5, x5⟩ := hh.view
  have l1 := w1.leaf
  have l3 := w3.leaf
  have l4 := w4.leaf
  have l5 := w5.leaf
  exact ⟨(cs, ops), ⟨v1, mo, v3, v4, v5, rfl, ⟨e1, w1, x1⟩, ⟨e3, w3, x3⟩, by simp only [allLeaf, l1, l3, l4, l5]; rfl⟩, by dsimp only; omega⟩
end
end Go.Proofs.Ythifmankpcadjaa
namespace Go.Proofs.Ythifmankpcadjaa
open Go.Ab
set_option linter.unusedSimpArgs false
set_option linter.unusedVariables false
theorem emod_mul' (x : Int) {a b : Int} (ha : 0 ≤ a) : x % (a * b) = x % a + a * (x / a % b) := by
  have h1 := Int.emod_def x (a * b)
  have h2 := Int.emod_def x a
  have h3 := Int.emod_def (x / a) b
  have h4 : x / a / b = x / (a * b) := Int.ediv_ediv_of_nonneg ha
  rw [h4] at h3
  rw [h1, h2, h3, Int.mul_sub, Int.mul_assoc]
  omega
theorem bigB_inj : ∀ (w : Nat) {x y : Int}, bigB x w = bigB y w → x % 2 ^ (8 * w) = y % 2 ^ (8 * w)
  | 0, x, y, _ => by simp
  | w + 1, x, y, h => by
    simp only [bigB, List.cons.injEq] at h
    have ih := bigB_inj w h.2
    have p : (0 : Int) ≤ 2 ^ (8 * w) := Int.pow_nonneg (by decide)
    have e : (2 : Int) ^ (8 * (w + 1)) = 2 ^ (8 * w) * 256 := by rw [Nat.mul_succ, Int.pow_add]; rfl
    have b := h.1
    unfold byA at b
    rw [Int.fdiv_eq_ediv_of_nonneg _ p, Int.fdiv_eq_ediv_of_nonneg _ p] at b
    have b' : x / 2 ^ (8 * w) % 256 = y / 2 ^ (8 * w) % 256 := by omega
    rw [e, emod_mul' x p, emod_mul' y p, ih, b']
theorem wrapu (n : Int) : wrapA .u64 n = n % 18446744073709551616 := by
  rw [wrapA_eq]; simp [IntKind.wrap, IntKind.bits, IntKind.signed]
theorem big_app {w : Nat} {x y : Int} {r r' : List Nat} (h : bigB x w ++ r = bigB y w ++ r') : x % 2 ^ (8 * w) = y % 2 ^ (8 * w) ∧ r = r' := by
  obtain ⟨h1, h2⟩ := List.append_inj h (by rw [bigB_len, bigB_len])
  exact ⟨bigB_inj w h1, h2⟩
theorem ck_cases {k : Nat} {kd n : Int} {b : Bool} {t : List Nat} {l : List Val} (h : ckV k (.mk kd b n t l) = true) :
    (0 ≤ kd ∧ kd ≤ 5) ∧ (kd ≠ 1 → b = false) ∧ (kd ≠ 2 → kd ≠ 5 → n = 0) ∧ (kd ≠ 3 → t = []) ∧ (kd ≠ 4 → l = []) ∧ t.length ≤ 65536 ∧ l.length ≤ 4096 ∧ (kd = 4 → ∃ j, k = j + 1 ∧ ∀ y ∈ l, ckV j y = true) := by
  have leaf : leafOk kd b n t l.length = true → kd ≠ 4 ∧ (0 ≤ kd ∧ kd ≤ 5) ∧ (kd ≠ 1 → b = false) ∧ (kd ≠ 2 → kd ≠ 5 → n = 0) ∧ (kd ≠ 3 → t = []) ∧ l = [] ∧ t.length ≤ 65536 := by
    intro h
    unfold leafOk at h
    split at h
    · simp at h; obtain ⟨⟨⟨h1, h2⟩, h3⟩, h4⟩ := h; subst h3; subst h4; refine ⟨by omega, by omega, fun _ => h1, fun _ _ => h2, fun _ => rfl, rfl, by simp⟩
    · split at h
      · simp at h; obtain ⟨⟨h2, h3⟩, h4⟩ := h; subst h3; subst h4; refine ⟨by omega, by omega, fun q => by omega, fun _ _ => h2, fun _ => rfl, rfl, by simp⟩
      · split at h
        · simp at h; obtain ⟨⟨h2, h3⟩, h4⟩ := h; subst h3; subst h4; refine ⟨by omega, by omega, fun _ => h2, fun q => by omega, fun _ => rfl, rfl, by simp⟩
        · split at h
          · simp at h; obtain ⟨⟨⟨h1, h2⟩, h3⟩, h4⟩ := h; subst h3; refine ⟨by omega, by omega, fun _ => h1, fun _ _ => h2, fun q => by omega, rfl, h4⟩
          · split at h
            · simp at h; obtain ⟨⟨⟨h1, h2⟩, h3⟩, h4⟩ := h; subst h2; subst h3; refine ⟨by omega, by omega, fun _ => h1, fun q q' => by omega, fun _ => rfl, rfl, by simp⟩
            · cases h
  have fin : leafOk kd b n t l.length = true → (0 ≤ kd ∧ kd ≤ 5) ∧ (kd ≠ 1 → b = false) ∧ (kd ≠ 2 → kd ≠ 5 → n = 0) ∧ (kd ≠ 3 → t = []) ∧ (kd ≠ 4 → l = []) ∧ t.length ≤ 65536 ∧ l.length ≤ 4096 ∧ (kd = 4 → ∃ j, k = j + 1 ∧ ∀ y ∈ l, ckV j y = true) := fun h => by
    obtain ⟨g1, g2, g3, g4, g5, g6, g7⟩ := leaf h
    subst g6
    exact ⟨g2, g3, g4, g5, fun _ => rfl, g7, by simp, fun q => absurd q g1⟩
  cases k with
  | zero => exact fin h
  | succ k =>
    simp only [ckV] at h
    split at h
    · rename_i e
      simp only [Bool.and_eq_true, decide_eq_true_eq, Bool.not_eq_true', List.all_eq_true] at h
      obtain ⟨⟨⟨⟨h1, h2⟩, h3⟩, h4⟩, h5⟩ := h
      subst h3
      exact ⟨by omega, fun _ => h1, fun _ _ => h2, fun _ => rfl, fun q => absurd e q, by simp, h4, fun _ => ⟨k, rfl, h5⟩⟩
    · exact fin h
def InjV (k : Nat) : Prop := ∀ {x x' : Val} {r r' : List Nat} {h h' : AHeap} {a a' : List AV}, RV h a x → RV h' a' x' → ckV k x = true → ckV k x' = true → encV x ++ r = encV x' ++ r' → x = x' ∧ r = r'
theorem encVs_inj {k : Nat} (P : InjV k) : ∀ {l l' : List Val} {r r' : List Nat} {h h' : AHeap} {es es' : List (List AV)}, All2 (RV h) es l → All2 (RV h') es' l' → (∀ y ∈ l, ckV k y = true) → (∀ y ∈ l', ckV k y = true) → l.length = l'.length → encVs l ++ r = encVs l' ++ r' → l = l' ∧ r = r'
  | [], [], r, r', h, h', es, es', _, _, _, _, _, e => ⟨rfl, e⟩
  | [], _ :: _, r, r', h, h', es, es', _, _, _, _, hl, e => by simp at hl
  | _ :: _, [], r, r', h, h', es, es', _, _, _, _, hl, e => by simp at hl
  | x :: l, x' :: l', r, r', h, h', _, _, .cons R A, .cons R' A', c, c', hl, e => by
    simp only [encVs, List.append_assoc] at e
    obtain ⟨e1, e2⟩ := P R R' (c x List.mem_cons_self) (c' x' List.mem_cons_self) e
    obtain ⟨e3, e4⟩ := encVs_inj P A A' (fun y hy => c y (List.mem_cons_of_mem _ hy)) (fun y hy => c' y (List.mem_cons_of_mem _ hy)) (by simpa using hl) e2
    exact ⟨by rw [e1, e3], e4⟩
theorem encV_inj : ∀ (k : Nat), InjV k := by
  intro k
  induction k using Nat.strongRecOn with
  | ind k ih =>
    intro x x' r r' h h' a a' R R' c c' e
    obtain ⟨kd, b, n, t, l⟩ := x
    obtain ⟨kd', b', n', t', l'⟩ := x'
    obtain ⟨lv, _, ⟨es, _, A⟩, hn, _, _⟩ := R.cells
    obtain ⟨lv', _, ⟨es', _, A'⟩, hn', _, _⟩ := R'.cells
    obtain ⟨g0, g1, g2, g3, g4, g5, g6, g7⟩ := ck_cases c
    obtain ⟨f0, f1, f2, f3, f4, f5, f6, f7⟩ := ck_cases c'
    simp only [encV, List.cons_append, List.cons.injEq] at e
    obtain ⟨e0, e⟩ := e
    have hk : kd = kd' := by omega
    subst hk
    clear e0
    by_cases k1 : kd = 1
    · rw [if_pos k1, if_pos k1] at e
      have q1 := g2 (by omega) (by omega); have q2 := f2 (by omega) (by omega)
      have q3 := g3 (by omega); have q4 := f3 (by omega)
      have q5 := g4 (by omega); have q6 := f4 (by omega)
      simp only [List.cons_append, List.nil_append, List.cons.injEq] at e
      have hb : b = b' := by cases b <;> cases b' <;> simp at e <;> rfl
      exact ⟨by rw [q1, q2, q3, q4, q5, q6, hb], e.2⟩
    rw [if_neg k1, if_neg k1] at e
    have qb := (g1 k1).trans (f1 k1).symm
    by_cases k2 : kd = 2 ∨ kd = 5
    · rw [if_pos k2, if_pos k2] at e
      have q3 := g3 (by omega); have q4 := f3 (by omega)
      have q5 := g4 (by omega); have q6 := f4 (by omega)
      obtain ⟨e1, e2⟩ := big_app e
      have e1 : wrapA .u64 n % 18446744073709551616 = wrapA .u64 n' % 18446744073709551616 := e1
      rw [wrapu, wrapu] at e1
      have hnn : n = n' := by omega
      exact ⟨by rw [qb, hnn, q3, q4, q5, q6], e2⟩
    rw [if_neg k2, if_neg k2] at e
    have q1 := g2 (by omega) (by omega); have q2 := f2 (by omega) (by omega)
    by_cases k3 : kd = 3
    · rw [if_pos k3, if_pos k3, List.append_assoc, List.append_assoc] at e
      have q5 := g4 (by omega); have q6 := f4 (by omega)
      obtain ⟨e1, e2⟩ := big_app e
      have e1 : wrapA .u64 (t.length : Int) % 4294967296 = wrapA .u64 (t'.length : Int) % 4294967296 := e1
      rw [wrapu, wrapu] at e1
      obtain ⟨e3, e4⟩ := List.append_inj e2 (by omega)
      exact ⟨by rw [qb, q1, q2, e3, q5, q6], e4⟩
    rw [if_neg k3, if_neg k3] at e
    have q3 := g3 k3; have q4 := f3 k3
    by_cases k4 : kd = 4
    · rw [if_pos k4, if_pos k4, List.append_assoc, List.append_assoc] at e
      obtain ⟨e1, e2⟩ := big_app e
      have e1 : wrapA .u64 (l.length : Int) % 4294967296 = wrapA .u64 (l'.length : Int) % 4294967296 := e1
      rw [wrapu, wrapu] at e1
      obtain ⟨j, rfl, u1⟩ := g7 k4
      obtain ⟨j', hj, u2⟩ := f7 k4
      cases hj
      obtain ⟨e3, e4⟩ := encVs_inj (ih j (Nat.lt_succ_self j)) A A' u1 u2 (by omega) e2
      exact ⟨by rw [qb, q1, q2, q3, q4, e3], e4⟩
    · rw [if_neg k4, if_neg k4] at e
      exact ⟨by rw [qb, q1, q2, q3, q4, g4 k4, f4 k4], e⟩
theorem spV_enc : ∀ {l : List Val}, (∀ y ∈ l, ckV 30 y = true) → spV l = encVs l
  | [], _ => rfl
  | x :: l, h => by
    have : spV (x :: l) = spX x ++ spV l := by simp [spV]
    rw [this, spV_enc fun y hy => h y (List.mem_cons_of_mem _ hy)]
    unfold spX; rw [if_pos (h x List.mem_cons_self)]; rfl
theorem encVs_inj0 : ∀ {l l' : List Val} {h h' : AHeap} {es es' : List (List AV)}, All2 (RV h) es l → All2 (RV h') es' l' → (∀ y ∈ l, ckV 30 y = true) → (∀ y ∈ l', ckV 30 y = true) → encVs l = encVs l' → l = l'
  | [], [], h, h', es, es', _, _, _, _, e => rfl
  | [], .mk k b n t l :: _, h, h', es, es', _, _, _, _, e => by simp [encVs, encV] at e
  | .mk k b n t l :: _, [], h, h', es, es', _, _, _, _, e => by simp [encVs, encV] at e
  | x :: l, x' :: l', h, h', _, _, .cons R A, .cons R' A', c, c', e => by
    simp only [encVs] at e
    obtain ⟨e1, e2⟩ := encV_inj 30 R R' (c x List.mem_cons_self) (c' x' List.mem_cons_self) e
    rw [e1, encVs_inj0 A A' (fun y hy => c y (List.mem_cons_of_mem _ hy)) (fun y hy => c' y (List.mem_cons_of_mem _ hy)) e2]
theorem spV_inj {h h' : AHeap} {v v' : AV} {l l' : List Val} (V : VV h v l) (V' : VV h' v' l') (b : ∀ y ∈ l, ckV 30 y = true) (b' : ∀ y ∈ l', ckV 30 y = true) (e : spV l = spV l') : l = l' := by
  rw [spV_enc b, spV_enc b'] at e
  obtain ⟨es, _, A⟩ := V
  obtain ⟨es', _, A'⟩ := V'
  exact encVs_inj0 A A' b b' e
theorem fit_ck {cs : List Cls} {f : Fld} {v : Val} {of : Int → Option Str} (h : fitV cs f v of = true) : ckV 30 v = true := by
  unfold fitV at h; simp only [Bool.and_eq_true] at h; exact h.1
theorem fit_null (cs : List Cls) (f : Fld) (of : Int → Option Str) : fitV cs f zV of = true := by
  simp [fitV, ckV, leafOk]
theorem fit_mono {cs : List Cls} {f : Fld} {v : Val} {of of' : Int → Option Str} (hm : ∀ x c, of x = some c → of' x = some c) (h : fitV cs f v of = true) : fitV cs f v of' = true := by
  obtain ⟨kd, b, n, t, l⟩ := v
  unfold fitV at h ⊢
  simp only [Bool.and_eq_true] at h ⊢
  refine ⟨h.1, ?_⟩
  have h2 := h.2
  clear h
  repeat' split at h2
  all_goals first
    | cases h2; done
    | (simp_all; done)
    | skip
def Fits (cs : List Cls) (fs : List Fld) (of : Int → Option Str) (vs : List Val) : Prop := ∀ (i : Nat) f v, fs[i]? = some f → vs[i]? = some v → fitV cs f v of = true
theorem giv_fit {cs : List Cls} {fs : List Fld} {of : Int → Option Str} : ∀ {gs : List (Str × Val)} {m : Nat} {vs vs' : List Val}, Fits cs fs of vs → giv cs fs of gs m vs = some vs' → Fits cs fs of vs'
  | [], m, vs, vs', h1, h => by simp only [giv, Option.some.injEq] at h; subst h; exact h1
  | p :: t, m, vs, vs', h1, h => by
    simp only [giv] at h
    split at h
    · cases h
    · rename_i i hi
      split at h
      · cases h
      · rename_i f hf
        split at h
        · cases h
        · rename_i hn
          refine giv_fit (fun j g v hg hv => ?_) h
          by_cases e : i = j
          · subst e
            rw [hf] at hg; cases hg
            have : i < vs.length := by have := (List.getElem?_eq_some_iff.1 hv).1; simpa using this
            rw [List.getElem?_set_self this] at hv; cases hv
            simp only [Bool.or_eq_true, Bool.not_eq_true', not_or, Bool.not_eq_false] at hn
            exact hn.2
          · rw [List.getElem?_set_ne e] at hv
            exact h1 j g v hg hv
theorem given_fit {cs : List Cls} {nm : Str} {of : Int → Option Str} {gs : List (Str × Val)} {vs vs' : List Val} (h1 : Fits cs (fieldsOf cs nm) of vs) (h : given cs nm of gs vs = some vs') : Fits cs (fieldsOf cs nm) of vs' := by
  unfold given at h
  split at h
  · cases h
  · exact giv_fit h1 h
theorem fits_zero (cs : List Cls) (fs : List Fld) (of : Int → Option Str) : Fits cs fs of (zeros fs) := fun i f v _ hv => by
  have := List.mem_of_getElem? hv
  rw [List.eq_of_mem_replicate this]; exact fit_null _ _ _
theorem Fits.ck {cs : List Cls} {fs : List Fld} {of : Int → Option Str} {vs : List Val} (F : Fits cs fs of vs) (hl : vs.length ≤ fs.length) : ∀ y ∈ vs, ckV 30 y = true := fun y hy => by
  obtain ⟨i, hi⟩ := List.getElem?_of_mem hy
  have hlt := (List.getElem?_eq_some_iff.1 hi).1
  exact fit_ck (F i _ y (List.getElem?_eq_getElem (by omega)) hi)
theorem idx_nodup {s : Str} : ∀ {l : List Str} {i : Nat}, l.Nodup → l[i]? = some s → idx s l = some i
  | [], i, _, h => by simp at h
  | c :: l, 0, _, h => by simp at h; simp [idx, h]
  | c :: l, i + 1, nd, h => by
    simp at h
    have hm := List.mem_of_getElem? h
    have hne : c ≠ s := fun e => (List.nodup_cons.1 nd).1 (e ▸ hm)
    simp only [idx, if_neg hne, idx_nodup (List.nodup_cons.1 nd).2 h, Option.map_some]
theorem given_one {cs : List Cls} {nm : Str} {of : Int → Option Str} {vs : List Val} {i : Nat} {f : Fld} {v : Val} (nd : (fnames (fieldsOf cs nm)).Nodup) (hf : (fieldsOf cs nm)[i]? = some f) (hv : fitV cs f v of = true) : given cs nm of [(f.name, v)] vs = some (vs.set i v) := by
  have hlt := (List.getElem?_eq_some_iff.1 hf).1
  have hi : idx f.name (fnames (fieldsOf cs nm)) = some i := idx_nodup nd (by simp [fnames, hf])
  unfold given
  have hg : ¬ (fieldsOf cs nm).length < [(f.name, v)].length := by rw [List.length_singleton]; omega
  rw [if_neg hg]
  simp [giv, hi, hf, hv]
theorem dm_one {old new : List Val} {i : Nat} (hl : old.length = new.length) (hi : i < new.length) (hne : old[i]? ≠ new[i]?) (hj : ∀ j, j ≠ i → old[j]? = new[j]?) : dm old new new.length = 2 ^ i := by
  apply Nat.eq_of_testBit_eq
  intro j
  rw [dm_bit, Nat.testBit_two_pow]
  by_cases e : i = j
  · subst e; rw [decide_eq_true ⟨hi, hne⟩]; simp
  · have : ¬ old[j]? ≠ new[j]? := fun q => q (hj j fun w => e w.symm)
    simp [e, this]
theorem res2 {a v u : AV} {m : Nat} {K : Kont} {h : AHeap} (e : loadA h true m a = some v) (s : K (.tup [v, u]) h = true) : optR (resV h [(a, some (true, m)), (u, none)]) h K = true := by
  have : resV h [(a, some (true, m)), (u, none)] = some [v, u] := by simp only [resV, e]
  rw [this]; exact s
abbrev zF : List AV := [AV.int .i64 0, .str [], .nilSlc, .bool false, .int .i64 0, .nilSlc]
section
variable {B b : Nat} {τ : Nat → Tag} {o : Nat} {h0 h h' : AHeap} {T : SD} {K : Kont} {n : Nat} {cs : List Cls} {k : Int}
theorem c17 (O : SO B τ o h0 h T) (hst : ∀ x, lkG T.fs k = some x → x.stamps.length < 1000000) (hB : B < 100000000) (hn : B + 200 ≤ n) (hL : n + 10 < lim)
    (k0 : lkG T.fs k = none → ∀ h', Ext h h' → h'.Ok → K (.tup [.agg zF, .bool false]) h' = true)
    (k1 : ∀ x, lkG T.fs k = some x → ∀ h' vv sv, Ext h h' → h'.Ok → Tld h h' x vv sv → K (.tup [.agg [.int .i64 k, .str x.cls, vv, .bool x.stated, .int .i64 (x.born : Int), sv], .bool true]) h' = true) :
    callN E (n + 3) (.func 17) [.ptr T.p 0 0 0, .int .i64 k] h K = true := by
  apply d17
  unfold s17
  obtain ⟨h1, q1, V1, e1, o1, z1⟩ := alloc_v (z := zF) O.ok (by decide) rfl
  refine z_p q1 ?_
  have O1 := O.ext e1 o1
  have L := O1.lkf k
  cases hx : lkG T.fs k with
  | none =>
    rw [hx] at L
    have L : lookA h1 (.leaf .int) true .nilPtr (.map T.fm) (.int .i64 k) = some (.tup [.nilPtr, .bool false]) := L
    have bv : buildV [.int .i64 0, .str [], .nilSlc, .bool false, .int .i64 0, .nilSlc] [] = some (.agg zF) := rfl
    refine z_nil ?_; refine z_fadr ?_; refine z_of O1.l4 ?_; refine z_of L ?_; refine z_ext0 ?_; refine z_ext1 ?_; refine z_notF ?_; refine z_cT ?_; refine z_of bv ?_
    obtain ⟨h2, w2, V2, b2, o2, z2⟩ := V1.wrs o1 (n := 6) (v := .agg zF) rfl rfl rfl
    refine z_u w2 ?_
    have V2 : Var h2 h.sz zF := V2
    refine res2 (V2.all rfl) ?_
    exact k0 hx h2 (b2.ext e1 O.ok (Nat.le_refl _)) o2
  | some x =>
    rw [hx] at L
    have L : lookA h1 (.leaf .int) true .nilPtr (.map T.fm) (.int .i64 k) = some (.tup [.ptr x.id 0 0 0, .bool true]) := L
    have F := O1.f k x (lkG_mem hx)
    refine z_nil ?_; refine z_fadr ?_; refine z_of O1.l4 ?_; refine z_of L ?_; refine z_ext0 ?_; refine z_ext1 ?_; refine z_notT ?_; refine z_cF ?_
    refine c36 (n := n) F o1 (hst x hx) hB (by omega) (by omega) fun h2 vv sv e2 o2 D => ?_
    have lv := D.l
    have ls := D.v.leaf
    obtain ⟨h3, w3, V3, b3, o3, z3⟩ := (V1.ext e2).wrs o2 (n := 6) (v := .agg [.int .i64 k, .str x.cls, vv, .bool x.stated, .int .i64 (x.born : Int), sv]) rfl rfl (by show allLeaf [.int .i64 k, .str x.cls, vv, .bool x.stated, .int .i64 (x.born : Int), sv] = true; simp only [allLeaf, lv, ls]; rfl)
    refine z_u w3 ?_
    have V3 : Var h3 h.sz [.int .i64 k, .str x.cls, vv, .bool x.stated, .int .i64 (x.born : Int), sv] := V3
    refine res2 (V3.all rfl) ?_
    have e02 := ext_two e1 e2
    obtain ⟨lo, hi, G, q1, q2, q3, q4⟩ := D.g
    have f3 : Fr (fun j => j = h.sz) h2 h3 := Fr.of_but rfl b3
    have dr : ∀ j, inRow sv j → ¬ j = h.sz := fun j q w => by have := q4 j q; omega
    refine k1 x hx h3 vv sv (b3.ext e02 O.ok (Nat.le_refl _)) o3 ⟨⟨lo, hi, G.fr (Kp.of_but b3 (by omega)), by omega, q2, by omega, fun j q => ⟨(q4 j q).1, by have := (q4 j q).2; omega⟩⟩, lv, f3.view D.v fun id g s l c ex e => dr id (by rw [e]; exact inRow_slc.2 rfl), fun ne => (D.m ne).fr f3 dr⟩
theorem c38 {a : List AV} {x : Val} (ho : h.Ok) (R : RV h a x) (hn : szV x + 30 ≤ n) (hL : n < lim) (k : ∀ h', Ext h h' → h'.Ok → K (.bool (!ckV 30 x)) h' = true) : callN E (n + 3) (.func 38) [.agg a] h K = true := by
  obtain ⟨r1, r2, r3, r4⟩ := R.agg
  have hel : a.length = 5 := by rw [← r4]; exact r2
  apply d38
  unfold s38
  obtain ⟨h1, q1, V1, e1, o1, z1⟩ := box_v (n := 5) (v := .agg a) ho r2 (by decide) r3
  refine z_p q1 ?_
  rw [r4] at V1
  refine z_of (V1.all hel) ?_
  refine u41 (n := n) (R.ext e1) o1 hn hL fun h2 e2 o2 => ?_
  refine z_not ?_
  exact k h2 (ext_two e1 e2) o2
theorem c37 {v : AV} {l : List Val} (ho : h.Ok) (V : VV h v l) (hck : ∀ y ∈ l, ckV 30 y = true) (hB : szVs l < 1000000000) (hn : szVs l + 40 ≤ n) (hL : n + 10 < lim) (k : ∀ h', Ext h h' → h'.Ok → K (.bool false) h' = true) : callN E (n + 5) (.func 37) [v, .fn (.func 38) [] []] h K = true := by
  have hlm : lim = 4611686018427387904 := rfl
  have hlen := szVs_len l
  apply d37
  unfold s37
  apply d63
  unfold s63
  refine z_of V.len ?_
  suffices H : ∀ m i g, l.length - i < m → i ≤ l.length → Ext h g → g.Ok → l63_6 (callN E (n + 3)) (n + 3) m v (.fn (.func 38) [] []) (.int .i64 (l.length : Int)) (.int .i64 (i : Int)) g (fun v1 h => optB (binA .geq v1 (.int .i64 0)) fun v2 => K v2 h) = true from
    H (n + 3) 0 h (by omega) (Nat.zero_le _) (Ext.refl _) ho
  intro m
  induction m with
  | zero => intro i g hm; omega
  | succ m ih =>
    intro i g hm hi e o
    unfold l63_6 b63_6
    refine z_lss ?_
    by_cases hlt : i < l.length
    · refine z_ct (decide_eq_true (by omega)) ?_
      obtain ⟨id, gg, j, ee, p1, p2, R⟩ := (V.ext e).at (List.getElem?_eq_getElem hlt)
      have A : loadA g true 5 (.ptr id gg j 0) = some (.agg ee) := by rw [p2]; exact R.agg.1
      have hs := szVs_mem (List.getElem_mem hlt)
      refine z_of (p1 .i64) ?_; refine z_of A ?_; refine z_cv ?_
      refine c38 (n := n) o R (by omega) (by omega) fun g2 e2 o2 => ?_
      rw [hck _ (List.getElem_mem hlt), Bool.not_true]
      refine z_cF ?_; refine z_of (inc64 (i := i) (by omega)) ?_
      exact ih (i + 1) g2 (by omega) (by omega) (ext_two e e2) o2
    · refine z_cf (decide_eq_false (by omega)) ?_
      refine z_geq ?_
      rw [show decide ((0 : Int) ≤ -1) = false from rfl]
      exact k g e o
def eql (T : SD) (c : Str) (l : List Val) : List Int := match T.row (.k (c, spV l)) with
  | some r => r.l
  | none => []
theorem eql_mem {c : Str} {l : List Val} {y : Int} : y ∈ eql T c l ↔ InR T (.k (c, spV l)) y := by
  unfold eql InR
  cases T.row (.k (c, spV l)) with
  | none => simp
  | some r => simp
theorem eql_srt {c : Str} {l : List Val} (O : SO B τ o h0 h T) : Srt (eql T c l) := by
  unfold eql
  cases e : T.row (.k (c, spV l)) with
  | none => exact .nil
  | some r => exact (O.r _ r e).rn.srt
theorem c19 {c : Str} {v : AV} {l : List Val} (O : SO B τ o h0 h T) (I : SI cs b T) (V : VV h v l) (hck : ∀ y ∈ l, ckV 30 y = true) (hN : T.next < 500000) (hB : szVs l < 1000000000) (hn : szVs l + 42 ≤ n) (hL : n + 20 < lim)
    (k : ∀ h' w, Ext h h' → h'.Ok → View h' 1 w (ints (eql T c l)) → (∀ j, inRow w j → h.sz ≤ j) → K w h' = true) : callN E (n + 6) (.func 19) [.ptr T.p 0 0 0, .str c, v] h K = true := by
  have hlm : lim = 4611686018427387904 := rfl
  apply d19
  unfold s19
  refine c37 (n := n) O.ok V hck hB (by omega) (by omega) fun h1 e1 o1 => ?_
  have O1 := O.ext e1 o1
  refine z_cF ?_; refine z_nil ?_; refine z_fadr ?_; refine z_of O1.l7 ?_
  refine c40 (n := n + 1) (V.ext e1) o1 (by omega) (by omega) (by omega) fun h2 e2 o2 => ?_
  have O2 := O1.ext e2 o2
  refine z_same O2.l7 (same_map _) ?_
  cases hr : T.row (.k (c, spV l)) with
  | none =>
    have L : lookA h2 (.st [.str, .str]) false .nilPtr (.map T.sm) (.agg [.str c, .str (spV l)]) = some .nilPtr := O2.lks0 hr
    refine z_of L ?_; refine z_eqn ?_; refine z_cT ?_
    exact k h2 _ (ext_two e1 e2) o2 (by unfold eql; rw [hr]; exact View.nil _ _) fun j q => absurd q inRow_nil
  | some r =>
    have L : lookA h2 (.st [.str, .str]) false .nilPtr (.map T.sm) (.agg [.str c, .str (spV l)]) = some (.ptr r.id 0 0 0) := O2.lks hr
    have R := (O2.r _ r hr).rn
    have A0 : loadA h2 false 1 (.ptr r.id 0 0 0) = some r.v := R.var.get rfl
    have hl := I.len O hr
    refine z_of L ?_; refine z_eqp ?_; refine z_cF ?_; refine z_nil ?_; refine z_fadr ?_; refine z_of A0 ?_
    refine c41 (n := n + 4) o2 R.buf.view (by rw [ints_len]; omega) fun h3 w e3 o3 W _ r3 => ?_
    exact k h3 w (ext_two (ext_two e1 e2) e3) o3 (by unfold eql; rw [hr]; exact W) fun j q => by have := r3 j q; have := e1.1; have := e2.1; omega
end
end Go.Proofs.Ythifmankpcadjaa
namespace Go.Proofs.Ythifmankpcadjaa
open Go.Ab
set_option linter.unusedSimpArgs false
set_option linter.unusedVariables false
theorem St.lt {τ τ' : Nat → Tag} {o : Nat} {h h' : AHeap} (s : St o τ τ' h h') : Lt (fun j => τ j = .out) h h' := Lt.of_fr s.fr fun j ⟨t, e⟩ q => by rw [show τ j = .out from q] at e; cases e
structure Asd (τ : Nat → Tag) (g : AHeap) (qo qx : Nat) (co cx : List AV) (vv sv fv : AV) (vs : List Val) (st : List Int) (F : List Fld) : Prop where
  vo : Var g qo co
  to : τ qo = .out
  vx : Var g qx cx
  tx : τ qx = .out
  dv : DV (Out τ) g vv vs
  sx : View g 1 sv (ints st)
  ts : ∀ j, inRow sv j → τ j = .out
  fw : View g 3 fv (F.map encF)
  tf : ∀ j, inRow fv j → τ j = .out
theorem Asd.st {τ τ' : Nat → Tag} {o : Nat} {g g' : AHeap} {qo qx : Nat} {co cx : List AV} {vv sv fv : AV} {vs : List Val} {st : List Int} {F : List Fld} (A : Asd τ g qo qx co cx vv sv fv vs st F) (ok : g.Ok) (s : St o τ τ' g g') : Asd τ' g' qo qx co cx vv sv fv vs st F :=
  have no : ∀ {j}, τ j = .out → ¬ ∃ t, τ j = .own o t := fun e ⟨t, q⟩ => by rw [e] at q; cases q
  ⟨s.fr.var A.vo (no A.to), (s.old _ (A.vo.lt ok)).trans A.to, s.fr.var A.vx (no A.tx), (s.old _ (A.vx.lt ok)).trans A.tx, A.dv.st ok s, A.sx.lt s.lt A.ts, fun j i => (s.old _ (A.sx.rlt ok i)).trans (A.ts j i), A.fw.lt s.lt A.tf, fun j i => (s.old _ (A.fw.rlt ok i)).trans (A.tf j i)⟩
theorem Asd.ext {τ : Nat → Tag} {g g' : AHeap} {qo qx : Nat} {co cx : List AV} {vv sv fv : AV} {vs : List Val} {st : List Int} {F : List Fld} (A : Asd τ g qo qx co cx vv sv fv vs st F) (e : Ext g g') : Asd τ g' qo qx co cx vv sv fv vs st F :=
  ⟨A.vo.ext e, A.to, A.vx.ext e, A.tx, let ⟨es, a, b, c⟩ := A.dv; ⟨es, a.ext e, b, c.mono fun _ _ r => r.ext e⟩, A.sx.ext e, A.ts, A.fw.ext e, A.tf⟩
theorem sq_one {τ : Nat → Tag} {g : AHeap} {w : AV} {nm : Str} {ee : List AV} {x : Val} (ok : g.Ok) (V : View g 6 w [AV.str nm :: ee]) (hw : ∀ j, inRow w j → τ j = .out) (D : DX (Out τ) g ee x) : Sq (fun j => τ j = .out ∧ j < g.sz) g w [(nm, x)] := fun h' L =>
  ⟨_, V.lt L fun j i => ⟨hw j i, V.rlt ok i⟩, .cons ⟨ee, rfl, D h' fun j o q e => L j o ⟨q, ok.lt e⟩ e⟩ .nil⟩
structure EqI (T : SD) (nm : Str) (vs : List Val) (bo : Nat) (i pa : Nat) (tb : AV) : Prop where
  a : ∃ x, lkG T.fs 1 = some x ∧ x.cls = nm ∧ x.vs = vs ∧ x.born = bo
  b : ∃ x, lkG T.fs 2 = some x ∧ x.cls = nm ∧ x.vs = vs
  only : ∀ k x, lkG T.fs k = some x → k = 1 ∨ k = 2
  c1 : 2 ≤ T.clock
  c2 : T.clock ≤ 2 + 2 * i
  nx : T.next = 2
  p : T.p = pa
  tb : T.tb = tb
section
variable {B b : Nat} {τ τ' : Nat → Tag} {o : Nat} {h0 h h' : AHeap} {T T' : SD} {K : Kont} {n : Nat} {cs : List Cls} {k : Int} {nm : Str} {vs ws : List Val} {bo i j pa : Nat} {tb : AV}
theorem EqI.up (E : EqI T nm vs bo i pa tb) (q : i ≤ j) : EqI T nm vs bo j pa tb := ⟨E.a, E.b, E.only, E.c1, by have := E.c2; omega, E.nx, E.p, E.tb⟩
theorem EqI.eq (E : EqI T nm vs bo i pa tb) (O : SO B τ o h0 h T) (I : SI cs b T) : eql T nm vs = [1, 2] := by
  refine srt_ext (eql_srt O) (by decide) fun y => ?_
  rw [eql_mem, I.rw]
  obtain ⟨xa, a1, a2, a3, _⟩ := E.a
  obtain ⟨xb, b1, b2, b3⟩ := E.b
  constructor
  · rintro ⟨x, e, _⟩
    rcases E.only y x e with q | q <;> simp [q]
  · intro q
    simp only [List.mem_cons, List.not_mem_nil, or_false] at q
    rcases q with rfl | rfl
    · exact ⟨xa, a1, by show (xa.cls, spV xa.vs) = _; rw [a2, a3]⟩
    · exact ⟨xb, b1, by show (xb.cls, spV xb.vs) = _; rw [b2, b3]⟩
theorem EqI.ne {x : FD} (E : EqI T nm vs bo i pa tb) (O : SO B τ o h0 h T) (I : SI cs b T) (O' : SO B τ' o h0 h' T') (I' : SI cs b T') (U : UpdT T T' 1 x ws) (hx : x.cls = nm) (c : ∀ y ∈ vs, ckV 30 y = true) (c' : ∀ y ∈ ws, ckV 30 y = true) (hne : ws ≠ vs) : eql T' nm vs = [2] := by
  refine srt_ext (eql_srt O') (by decide) fun y => ?_
  rw [eql_mem, I'.rw]
  obtain ⟨xa, a1, a2, a3, _⟩ := E.a
  obtain ⟨xb, b1, b2, b3⟩ := E.b
  obtain ⟨x', u1, u2, u3, _⟩ := U.fs
  rw [u1, lkG_up]
  have Fa := O.f 1 xa (lkG_mem a1)
  have Fa' := O'.f 1 x' (by rw [u1]; exact lkG_mem (by rw [lkG_up, if_pos rfl]))
  constructor
  · rintro ⟨z, e, w⟩
    by_cases q : y = 1
    · rw [if_pos q] at e
      cases e
      have w : (x'.cls, spV x'.vs) = (nm, spV vs) := w
      rw [Prod.mk.injEq, u3] at w
      have V1 := Fa.vals.now
      have V2 := Fa'.vals.now
      rw [a3] at V1
      rw [u3] at V2
      exact absurd (spV_inj V2 V1 c' c w.2) hne
    · rw [if_neg q] at e
      rcases E.only y z e with q' | q'
      · exact absurd q' q
      · simp [q']
  · intro q
    simp only [List.mem_cons, List.not_mem_nil, or_false] at q
    subst q
    rw [if_neg (by decide)]
    exact ⟨xb, b1, by show (xb.cls, spV xb.vs) = _; rw [b2, b3]⟩
theorem nst_at {old new : List Val} {c : Int} {st : List Int} (hl : i < st.length) (hne : old[i]? ≠ new[i]?) : (nst old new c st)[i]? = some c := by
  unfold nst
  rw [List.getElem?_mapIdx, List.getElem?_eq_getElem hl]
  simp [hne]
theorem c7' {h : AHeap} (k : K (.bool true) h = true) : callN E (n + 8) (.func 7) [] h K = true := c7 (n := n + 7) k
end
end Go.Proofs.Ythifmankpcadjaa
namespace Go.Proofs.Ythifmankpcadjaa
open Go.Ab
set_option linter.unusedSimpArgs false
set_option linter.unusedVariables false
theorem set_back {l : List Val} {i : Nat} {z v : Val} (h : l[i]? = some v) : (l.set i z).set i v = l := by
  rw [List.set_set]
  apply List.ext_getElem?
  intro j
  have hlt := (List.getElem?_eq_some_iff.1 h).1
  by_cases e : i = j
  · subst e; rw [List.getElem?_set_self hlt, h]
  · rw [List.getElem?_set_ne e]
theorem m_shlu {i : Nat} (h : i < 64) : binA .shl (.int .u64 1) (.int .u64 (i : Int)) = some (.int .u64 ((2 ^ i : Nat) : Int)) := by
  have := m_shl h
  rw [shl_eq] at this ⊢
  exact this
theorem cv_u64 {i : Nat} (h : i < 64) : convA .u64 (.int .i64 (i : Int)) = some (.int .u64 (i : Int)) := by
  show some (AV.int .u64 (wrapA .u64 (i : Int))) = _
  rw [wrapu]
  congr 2
  omega
abbrev cX (nm : Str) (vv : AV) (bo : Nat) (sv : AV) : List AV := [.int .i64 1, .str nm, vv, .bool true, .int .i64 (bo : Int), sv]
abbrev z6 : List AV := [.str [], .int .i64 0, .bool false, .int .i64 0, .str [], .nilSlc]
section
variable {cs : List Cls} {B b n : Nat} {h0 : AHeap} {tb : AV} {K : Kont} {qo qx pa : Nat} {co : List AV} {nm : Str} {vs : List Val} {F : List Fld} {vv sv fv : AV} {bo : Nat} {st : List Int}
theorem l4 (X : Fix cs B b h0 tb) (hF : fieldsOf cs nm = F) (nd : (fnames F).Nodup) (fit : ∀ of, Fits cs F of vs) (hvl : vs.length = F.length) (hvb : ∀ v ∈ vs, szV v ≤ b) (hco : nth co 1 = some (.str nm)) (hst : st = List.replicate vs.length 1)
    (hn : 3 * B + 3000000 ≤ n) (hL : n + 300 < lim)
    (fin : ∀ g τ T, SO B τ 0 h0 g T → SI cs b T → Asd τ g qo qx co (cX nm vv bo sv) vv sv fv vs st F → EqI T nm vs bo 62 pa tb → p4_105 (callN E (n + 8)) (n + 8) (.ptr pa 0 0 0) (.ptr qo 0 0 0) (.int .i64 1) (.int .i64 2) (.ptr qx 0 0 0) g K = true) :
    ∀ m i g τ T, F.length - i < m → i ≤ F.length → SO B τ 0 h0 g T → SI cs b T → Asd τ g qo qx co (cX nm vv bo sv) vv sv fv vs st F → EqI T nm vs bo i pa tb →
      l4_68 (callN E (n + 8)) (n + 8) m (.ptr pa 0 0 0) (.ptr qo 0 0 0) (.int .i64 1) (.int .i64 2) (.ptr qx 0 0 0) fv (.int .i64 (i : Int)) g K = true := by
  have hlm : lim = 4611686018427387904 := rfl
  have hB := X.B
  have hbB := X.bB
  have hb1 := X.b1
  have hf62 := X.f62 nm
  rw [hF] at hf62
  have ck : ∀ y ∈ vs, ckV 30 y = true := (fit (fun _ => none)).ck (by omega)
  have hszv : szVs vs ≤ B := by
    have h1 := sz_all hvb
    have h2 : vs.length * b ≤ 62 * b := Nat.mul_le_mul_right b (by omega)
    omega
  intro m
  induction m with
  | zero => intro i g τ T hm; omega
  | succ m ih =>
    intro i g τ T hm hi O I A Ei
    unfold l4_68 b4_68
    have Lw : lenA g 1 fv = some (.int .i64 (F.length : Int)) := by have := A.fw.len; rwa [List.length_map] at this
    refine z_of Lw ?_; refine z_lss ?_
    by_cases hlt : i < F.length
    rotate_left
    · refine z_cf (decide_eq_false (by omega)) ?_
      exact fin g τ T O I A (Ei.up (by omega))
    refine z_ct (decide_eq_true (by omega)) ?_
    obtain ⟨v, hv⟩ : ∃ v, vs[i]? = some v := ⟨_, List.getElem?_eq_getElem (by omega)⟩
    obtain ⟨es, Vv, tv, Dv⟩ := A.dv
    obtain ⟨ee, he, De⟩ := Dv.get hv
    have hvm := List.mem_of_getElem? hv
    have hsv := hvb v hvm
    obtain ⟨kd, bb, nn, tt, ll⟩ := v
    obtain ⟨lv, rfl, VVl, _⟩ := De.now.cells
    have lvl := VVl.leaf
    obtain ⟨id, gg, j, u⟩ := Vv.atE he
    obtain ⟨p1, p2⟩ := u g (Ext.refl g)
    have X2 : loadA g false 1 (.ptr qx 0 0 2) = some vv := A.vx.get rfl
    have K0 : loadA g false 1 (.ptr id gg j 0) = some (.int .i64 kd) := by rw [p2]; rfl
    refine z_fadr ?_; refine z_of X2 ?_; refine z_of (p1 .i64) ?_; refine z_fadr ?_; refine z_of K0 ?_; refine z_eql ?_
    have nx : ∀ g τ T, SO B τ 0 h0 g T → SI cs b T → Asd τ g qo qx co (cX nm vv bo sv) vv sv fv vs st F → EqI T nm vs bo (i + 1) pa tb → p4_104 (callN E (n + 8)) (n + 8) (fun x5 x7 x8 x9 x10 x12 x13 h => l4_68 (callN E (n + 8)) (n + 8) m x5 x7 x8 x9 x10 x12 x13 h K) (.ptr pa 0 0 0) (.ptr qo 0 0 0) (.int .i64 1) (.int .i64 2) (.ptr qx 0 0 0) fv (.int .i64 (i : Int)) g K = true := by
      intro g τ T O I A Ei
      unfold p4_104
      refine z_of (inc64 (i := i) (by omega)) ?_
      exact ih (i + 1) g τ T (by omega) (by omega) O I A Ei
    by_cases hk : kd = 0
    · refine z_ct (decide_eq_true hk) ?_
      exact nx g τ T O I A (Ei.up (by omega))
    refine z_cf (decide_eq_false hk) ?_
    generalize hvv : Val.mk kd bb nn tt ll = v at *
    have hvz : v ≠ zV := fun q => by rw [← hvv] at q; cases q; exact hk rfl
    have hf : F[i]? = some F[i] := List.getElem?_eq_getElem hlt
    obtain ⟨id2, gg2, j2, u2⟩ := A.fw.atE (i := i) (e := encF F[i]) (by simp [hlt])
    obtain ⟨y1, y2⟩ := u2 g (Ext.refl g)
    have N0 : loadA g false 1 (.ptr id2 gg2 j2 0) = some (.str F[i].name) := by rw [y2]; rfl
    generalize hfn : F[i] = f at *
    have bv0 : buildV z6 [(0, 1, .str f.name)] = some (.agg (.str f.name :: z5)) := rfl
    refine z_of (y1 .i64) ?_; refine z_fadr ?_; refine z_of N0 ?_; refine z_of bv0 ?_
    obtain ⟨w1, g1, b1, W1, e1, o1, z1, hw1⟩ := bslice1_v (sz := 6) (z := z6) (v := .agg (.str f.name :: z5)) O.ok rfl (by decide) (by decide) rfl rfl rfl
    refine z_p b1 ?_
    have A1 := A.ext e1
    obtain ⟨y1', y2'⟩ := u2 g1 e1
    obtain ⟨p1', p2'⟩ := u g1 e1
    have N1 : loadA g1 false 1 (.ptr id2 gg2 j2 0) = some (.str f.name) := by rw [y2']; rfl
    have X21 : loadA g1 false 1 (.ptr qx 0 0 2) = some vv := A1.vx.get rfl
    have L5 : loadA g1 true 5 (.ptr id gg j 0) = some (.agg [.int .i64 kd, .bool bb, .int .i64 nn, .str tt, lv]) := by rw [p2']; rfl
    have lall : allLeaf [.int .i64 kd, .bool bb, .int .i64 nn, .str tt, lv] = true := by simp only [allLeaf, lvl]; rfl
    have bv1 : buildV z6 [(0, 1, .str f.name), (1, 5, .agg [.int .i64 kd, .bool bb, .int .i64 nn, .str tt, lv])] = some (.agg [.str f.name, .int .i64 kd, .bool bb, .int .i64 nn, .str tt, lv]) := by
      have c3 : (AV.str f.name).cells = [AV.str f.name] := rfl
      have c4 : (AV.agg [.int .i64 kd, .bool bb, .int .i64 nn, .str tt, lv]).cells = [.int .i64 kd, .bool bb, .int .i64 nn, .str tt, lv] := rfl
      simp only [buildV, fillV, c3, c4, List.length_cons, List.length_nil, allLeaf, lvl, lay]
      rfl
    refine z_of (y1' .i64) ?_; refine z_fadr ?_; refine z_of N1 ?_; refine z_fadr ?_; refine z_of X21 ?_; refine z_of (p1' .i64) ?_; refine z_of L5 ?_; refine z_of bv1 ?_
    obtain ⟨w2, g2, b2, W2, e2, o2, z2, hw2⟩ := bslice1_v (sz := 6) (z := z6) (v := .agg [.str f.name, .int .i64 kd, .bool bb, .int .i64 nn, .str tt, lv]) o1 rfl (by decide) (by decide) rfl rfl (by show allLeaf [.str f.name, .int .i64 kd, .bool bb, .int .i64 nn, .str tt, lv] = true; simp only [allLeaf, lvl]; rfl)
    refine z_p b2 ?_
    have e02 := ext_two e1 e2
    have O2 := O.ext e02 o2
    have A2 := A.ext e02
    have tw1 : ∀ j, inRow w1 j → τ j = .out := fun j q => by rw [hw1] at q; exact O.hi j (by rw [← inRow_slc.1 q]; exact Nat.le_refl _)
    have tw2 : ∀ j, inRow w2 j → τ j = .out := fun j q => by rw [hw2] at q; exact O.hi j (by rw [← inRow_slc.1 q]; have := e1.1; omega)
    have S1 : Sq (fun j => τ j = .out ∧ j < g2.sz) g2 w1 [(f.name, zV)] := sq_one o2 (W1.ext e2) tw1 (dx_zero _ _)
    have S2 : Sq (fun j => τ j = .out ∧ j < g2.sz) g2 w2 [(f.name, v)] := sq_one o2 W2 tw2 (De.ext e02)
    have hp := Ei.p
    have tr : ∀ {T1 : SD}, T1.tb = tb → TableRep h0 T1.tb cs := fun e => by rw [e]; exact X.tr
    obtain ⟨xa, xa1, xa2, xa3, xa4⟩ := Ei.a
    have gz : ∀ of, given cs nm of [(f.name, zV)] vs = some (vs.set i zV) := fun of => given_one (by rw [hF]; exact nd) (by rw [hF]; exact hf) (fit_null _ _ _)
    have gv : ∀ of, given cs nm of [(f.name, v)] (vs.set i zV) = some vs := fun of => by
      rw [given_one (by rw [hF]; exact nd) (by rw [hF]; exact hf) (fit of i f v hf hv), set_back hv]
    have gs : ∀ of, given cs nm of [(f.name, v)] vs = some vs := fun of => by
      rw [given_one (by rw [hF]; exact nd) (by rw [hF]; exact hf) (fit of i f v hf hv)]
      congr 1
      apply List.ext_getElem?
      intro j
      by_cases e : i = j
      · subst e; rw [List.getElem?_set_self (by omega), hv]
      · rw [List.getElem?_set_ne e]
    have hzl : (vs.set i zV).length = vs.length := List.length_set
    have hzi : (vs.set i zV)[i]? = some zV := List.getElem?_set_self (by omega)
    have hzn : vs.set i zV ≠ vs := fun q => by rw [q, hv] at hzi; cases hzi; exact hvz rfl
    have dm1 : dm vs (vs.set i zV) (vs.set i zV).length = 2 ^ i := dm_one hzl.symm (by omega) (by rw [hzi, hv]; exact fun q => hvz (Option.some.inj q)) fun j q => (List.getElem?_set_ne (Ne.symm q)).symm
    have dm2 : dm (vs.set i zV) vs vs.length = 2 ^ i := dm_one hzl (by omega) (by rw [hzi, hv]; exact fun q => hvz (Option.some.inj q).symm) fun j q => List.getElem?_set_ne (Ne.symm q)
    have c1 := Ei.c1
    have c2 := Ei.c2
    have nx2 := Ei.nx
    rw [← hp]
    refine c11 (n := n) (k := 1) O2 I (tr Ei.tb) X.asc X.len X.f62 S1 (fun j q => q.2) (fun p hp => by rw [List.mem_singleton] at hp; subst hp; exact hb1) hbB (by omega) (by omega) hB hn (by omega) (fun q => by rw [xa1] at q; cases q) (fun x q w => ?_) (fun x q w => ?_) fun x ws q w hwl hne g3 τ3 T3 O3 s3 I3 U3 => ?_
    · rw [xa1] at q; cases q; rw [xa2, xa3, gz] at w; cases w
    · rw [xa1] at q; cases q; rw [xa2, xa3, gz] at w; exact absurd (Option.some.inj w) hzn
    rw [xa1] at q; cases q
    rw [xa2, xa3, gz] at w
    cases w
    rw [xa3, dm1]
    obtain ⟨x3, f3, a31, a32, a33, a34, a35⟩ := U3.fs
    obtain ⟨d1, d2, d3, d4, d5⟩ := U3.sc
    have lk3 : lkG T3.fs 1 = some x3 := by rw [f3, lkG_up, if_pos rfl]
    have A3 := A2.st o2 s3
    have eq3 : eql T3 nm vs = [2] := Ei.ne O I O3 I3 U3 xa2 ck (fun y hy => by
      rcases List.mem_or_eq_of_mem_set hy with e | e
      · exact ck y e
      · rw [e]; rfl) hzn
    have o31 : loadA g3 false 1 (.ptr qo 0 0 1) = some (.str nm) := A3.vo.get hco
    have X23 : loadA g3 false 1 (.ptr qx 0 0 2) = some vv := A3.vx.get rfl
    refine z_ext0 ?_; refine z_ext1 ?_; refine z_fadr ?_; refine z_of o31 ?_; refine z_fadr ?_; refine z_of X23 ?_
    rw [← d1]
    refine c19 (n := n + 2) O3 I3 A3.dv.now ck (by omega) (by omega) (by omega) (by omega) fun g4 w4 e4 o4 W4 r4 => ?_
    rw [eq3] at W4
    have O4 := O3.ext e4 o4
    have L4 : Lt (fun j => τ j = .out ∧ j < g2.sz) g2 g4 := fun j o q e => e4.2 j o (s3.lt j o q.1 e)
    have S4 : Sq (fun j => τ j = .out ∧ j < g2.sz) g4 w2 [(f.name, v)] := fun h'' L => S2 h'' (L4.trans L)
    have sz24 : g2.sz ≤ g4.sz := Nat.le_trans s3.fr.sz e4.1
    refine c11 (n := n) (k := 1) O4 I3 (tr (by rw [d2]; exact Ei.tb)) X.asc X.len X.f62 S4 (fun j q => by have := q.2; omega) (fun p hp => by rw [List.mem_singleton] at hp; subst hp; exact hsv) hbB (by omega) (by omega) hB hn (by omega) (fun q => by rw [lk3] at q; cases q) (fun x q w => ?_) (fun x q w => ?_) fun x ws q w hwl hne g5 τ5 T5 O5 s5 I5 U5 => ?_
    · rw [lk3] at q; cases q; rw [a31, xa2, a32, gv] at w; cases w
    · rw [lk3] at q; cases q; rw [a31, xa2, a32, gv] at w; exact absurd (Option.some.inj w).symm hzn
    rw [lk3] at q; cases q
    rw [a31, xa2, a32, gv] at w
    cases w
    rw [a32, dm2]
    obtain ⟨x5, f5, a51, a52, a53, a54, a55⟩ := U5.fs
    obtain ⟨k1, k2, k3, k4, k5⟩ := U5.sc
    have lk5 : lkG T5.fs 1 = some x5 := by rw [f5, lkG_up, if_pos rfl]
    have A5 := (A3.ext e4).st o4 s5
    have p5 : T5.p = T.p := by rw [k1, d1]
    have lko : ∀ y, y ≠ 1 → lkG T5.fs y = lkG T.fs y := fun y q => by rw [f5, lkG_up, if_neg q, f3, lkG_up, if_neg q]
    have E5 : EqI T5 nm vs bo (i + 1) pa tb := by
      refine ⟨⟨x5, lk5, by rw [a51, a31, xa2], a52, by rw [a54, a34, xa4]⟩, ?_, fun y z q => ?_, by omega, by omega, by omega, by rw [p5]; exact hp, by rw [k2, d2]; exact Ei.tb⟩
      · obtain ⟨xb, q1, q2⟩ := Ei.b
        exact ⟨xb, by rw [lko 2 (by decide)]; exact q1, q2⟩
      · by_cases e : y = 1
        · exact .inl e
        · rw [lko y e] at q; exact Ei.only y z q
    obtain ⟨_, m2, m3, m4⟩ := I5.fc 1 x5 (lkG_mem lk5)
    refine z_ext0 ?_; refine z_ext1 ?_
    rw [d1, ← p5]
    refine c17 (n := n + 5) (k := 1) O5 (fun x q => by rw [lk5] at q; cases q; rw [m3, a52]; omega) hB (by omega) (by omega) (fun q => by rw [lk5] at q; cases q) fun x q g6 vy svy e6 o6 D6 => ?_
    rw [lk5] at q; cases q
    refine z_ext0 ?_; refine z_ext1 ?_
    obtain ⟨g7, q7, V7, e7, o7, z7⟩ := alloc_v (z := zF) o6 (by decide) rfl
    refine z_p q7 ?_
    have lvy := D6.l
    have lsy := D6.v.leaf
    obtain ⟨g8, w8, V8, b8, o8, z8⟩ := V7.wrs o7 (n := 6) (v := .agg [.int .i64 1, .str x5.cls, vy, .bool x5.stated, .int .i64 (x5.born : Int), svy]) rfl rfl (by show allLeaf [.int .i64 1, .str x5.cls, vy, .bool x5.stated, .int .i64 (x5.born : Int), svy] = true; simp only [allLeaf, lvy, lsy]; rfl)
    refine z_u w8 ?_
    have V8 : Var g8 g6.sz [.int .i64 1, .str x5.cls, vy, .bool x5.stated, .int .i64 (x5.born : Int), svy] := V8
    have e68 : Ext g6 g8 := b8.ext e7 o6 (Nat.le_refl _)
    have e58 := ext_two e6 e68
    have O8 := O5.ext e58 o8
    have L8 : Lt (fun j => τ j = .out ∧ j < g2.sz) g4 g8 := fun j o q e => e58.2 j o (s5.lt j o (show τ3 j = .out by rw [s3.old j q.2]; exact q.1) e)
    have S8 : Sq (fun j => τ j = .out ∧ j < g2.sz) g8 w2 [(f.name, v)] := fun h'' L => S4 h'' (L8.trans L)
    have sz28 : g2.sz ≤ g8.sz := Nat.le_trans sz24 (Nat.le_trans s5.fr.sz e58.1)
    refine c11 (n := n) (k := 1) O8 I5 (tr (by rw [k2, d2]; exact Ei.tb)) X.asc X.len X.f62 S8 (fun j q => by have := q.2; omega) (fun p hp => by rw [List.mem_singleton] at hp; subst hp; exact hsv) hbB (by omega) (by omega) hB hn (by omega) (fun q => by rw [lk5] at q; cases q) (fun x q w => ?_) (fun x q w g9 e9 o9 => ?_) fun x ws q w hwl hne => ?_
    · rw [lk5] at q; cases q; rw [a51, a31, xa2, a52, gs] at w; cases w
    rotate_left
    · rw [lk5] at q; cases q; rw [a51, a31, xa2, a52, gs] at w; exact absurd (by rw [a52]; exact Option.some.inj w) hne
    rw [lk5] at q; cases q
    have e59 := ext_two e58 e9
    have A9 := A5.ext e59
    have V9 := V8.ext e9
    refine z_ext0 ?_; refine z_ext1 ?_; refine z_neq ?_
    rw [show (!decide ((0 : Int) = 0)) = false from rfl]
    refine z_gff ?_; refine z_some ?_; refine z_gff ?_; refine z_some ?_; refine z_gff ?_; refine z_of (cv_u64 (i := i) (by omega)) ?_; refine z_gff ?_; refine z_of (m_shlu (i := i) (by omega)) ?_; refine z_gff ?_; refine z_neq ?_; refine z_kf ?_
    rw [show (!decide (((2 ^ i : Nat) : Int) = ((2 ^ i : Nat) : Int))) = false by simp]
    refine z_gff ?_; refine z_some ?_; refine z_gff ?_; refine z_some ?_; refine z_pff ?_
    obtain ⟨w10, g10, b10, W10, e10, o10, z10, _⟩ := bslice1_v (sz := 1) (z := [AV.int .i64 0]) (v := .int .i64 2) o9 rfl (by decide) (by decide) rfl rfl rfl
    refine z_p b10 ?_
    have W4' : View g10 1 w4 (ints [2]) := ((W4.lt s5.lt fun j q => O3.hi j (r4 j q)).ext e59).ext e10
    refine z_rff ?_
    refine c18 (n := n + 7) (l := [2]) (l' := [2]) W4' W10 (by decide) (by show 1 < n + 7; omega) fun r hr => ?_
    rw [hr.2 rfl]
    refine z_gff ?_; refine z_notT ?_; refine z_kf ?_; refine z_gff ?_; refine z_some ?_; refine z_gff ?_; refine z_neq ?_; refine z_kf ?_
    rw [show (!decide ((0 : Int) = 0)) = false from rfl]
    refine z_gff ?_; refine z_some ?_; refine z_gff ?_; refine z_some ?_; refine z_gff ?_; refine z_neq ?_; refine z_kf ?_
    rw [show (!decide (((2 ^ i : Nat) : Int) = ((2 ^ i : Nat) : Int))) = false by simp]
    refine z_gff ?_; refine z_some ?_; refine z_gff ?_; refine z_neq ?_; refine z_kf ?_
    rw [show (!decide ((0 : Int) = 0)) = false from rfl]
    refine z_gff ?_; refine z_some ?_; refine z_gff ?_; refine z_neq ?_; refine z_kf ?_
    rw [show (!decide ((0 : Int) = 0)) = false from rfl]
    have V10 := V9.ext e10
    have A10 := A9.ext e10
    have e610 : Ext g6 g10 := ext_two (ext_two e68 e9) e10
    have TT5 : loadA g10 false 1 (.ptr g6.sz 0 0 5) = some svy := V10.get rfl
    have XS5 : loadA g10 false 1 (.ptr qx 0 0 5) = some sv := A10.vx.get rfl
    have hy5 : x5.stamps[i]? = some ((T3.clock + 1 : Nat) : Int) := by
      rw [a55]
      obtain ⟨_, _, q3, _⟩ := I3.fc 1 x3 (lkG_mem lk3)
      exact nst_at (by rw [q3, a32, hzl]; omega) (by rw [a32, hzi, hv]; exact fun q => hvz (Option.some.inj q).symm)
    obtain ⟨idy, ggy, jy, t1, t2⟩ := (D6.v.ext e610).at (i := i) (e := [AV.int .i64 ((T3.clock + 1 : Nat) : Int)]) (by simp [ints, hy5])
    obtain ⟨idx', ggx, jx, t3, t4⟩ := A10.sx.at (i := i) (e := [AV.int .i64 1]) (by rw [hst]; simp only [ints, List.map_replicate]; rw [List.getElem?_replicate, if_pos (by omega)])
    have TY : loadA g10 false 1 (.ptr idy ggy jy 0) = some (.int .i64 ((T3.clock + 1 : Nat) : Int)) := by rw [t2]; rfl
    have TX : loadA g10 false 1 (.ptr idx' ggx jx 0) = some (.int .i64 1) := by rw [t4]; rfl
    refine z_gff ?_; refine z_fadr ?_; refine z_gff ?_; refine z_of TT5 ?_; refine z_gff ?_; refine z_some ?_; refine z_gff ?_; refine z_of (t1 .i64) ?_; refine z_gff ?_; refine z_of TY ?_; refine z_gff ?_; refine z_fadr ?_; refine z_gff ?_; refine z_of XS5 ?_; refine z_gff ?_; refine z_some ?_; refine z_gff ?_; refine z_of (t3 .i64) ?_; refine z_gff ?_; refine z_of TX ?_; refine z_gff ?_; refine z_leq ?_; refine z_kf ?_
    rw [decide_eq_false (show ¬ ((T3.clock + 1 : Nat) : Int) ≤ 1 by omega)]
    have Y2 : loadA g10 false 1 (.ptr g6.sz 0 0 2) = some vy := V10.get rfl
    have XV : loadA g10 false 1 (.ptr qx 0 0 2) = some vv := A10.vx.get rfl
    refine z_gff ?_; refine z_fadr ?_; refine z_gff ?_; refine z_of Y2 ?_; refine z_gff ?_; refine z_fadr ?_; refine z_gff ?_; refine z_of XV ?_; refine z_rff ?_
    obtain ⟨lo, hi', G6, _⟩ := D6.g
    have VVy : VV g10 vy vs := by have := G6.now.ext e610; rwa [a52] at this
    refine eqVals B (n + 7) VVy A10.dv.now o10 hszv (by omega) (by omega) (by omega) fun g11 r e11 o11 hr => ?_
    rw [hr.2 rfl]
    have V11 := V10.ext e11
    have A11 := A10.ext e11
    have Y4 : loadA g11 false 1 (.ptr g6.sz 0 0 4) = some (.int .i64 (x5.born : Int)) := V11.get rfl
    have XB : loadA g11 false 1 (.ptr qx 0 0 4) = some (.int .i64 (bo : Int)) := A11.vx.get rfl
    refine z_gff ?_; refine z_notT ?_; refine z_kf ?_; refine z_gff ?_; refine z_fadr ?_; refine z_gff ?_; refine z_of Y4 ?_; refine z_gff ?_; refine z_fadr ?_; refine z_gff ?_; refine z_of XB ?_; refine z_gff ?_; refine z_neq ?_; refine z_kf ?_
    rw [show (!decide ((x5.born : Int) = (bo : Int))) = false by rw [a54, a34, xa4]; simp]
    refine z_cF ?_
    rw [E5.p]
    exact nx g11 τ5 _ (O5.ext (ext_two (ext_two e59 e10) e11) o11) I5 A11 E5
end
end Go.Proofs.Ythifmankpcadjaa
namespace Go.Proofs.Ythifmankpcadjaa
open Go.Ab
set_option linter.unusedSimpArgs false
set_option linter.unusedVariables false
theorem giv_mono {cs : List Cls} {fs : List Fld} {of of' : Int → Option Str} (hm : ∀ x c, of x = some c → of' x = some c) : ∀ {gs : List (Str × Val)} {m : Nat} {vs vs' : List Val}, giv cs fs of gs m vs = some vs' → giv cs fs of' gs m vs = some vs'
  | [], m, vs, vs', h => h
  | p :: t, m, vs, vs', h => by
    simp only [giv] at h ⊢
    split at h
    · cases h
    · rename_i i hi
      split at h
      · cases h
      · rename_i f hf
        split at h
        · cases h
        · rename_i hn
          have h1 : m.testBit i = false := by cases q : m.testBit i <;> simp_all
          have h2 : fitV cs f p.2 of = true := by cases q : fitV cs f p.2 of <;> simp_all
          rw [h1, fit_mono hm h2]
          exact giv_mono hm h
theorem given_mono {cs : List Cls} {nm : Str} {of of' : Int → Option Str} {gs : List (Str × Val)} {vs vs' : List Val} (hm : ∀ x c, of x = some c → of' x = some c) (h : given cs nm of gs vs = some vs') : given cs nm of' gs vs = some vs' := by
  unfold given at h ⊢
  split at h
  · cases h
  · rename_i hg
    rw [if_neg hg]; exact giv_mono hm h
theorem two_row {h : AHeap} (o : h.Ok) (a b : Int) : ∃ w h', bsliceV h 2 1 [AV.int .i64 0] [(0, .int .i64 a), (1, .int .i64 b)] = some (w, h') ∧ View h' 1 w (ints [a, b]) ∧ Ext h h' ∧ h'.Ok := by
  obtain ⟨v, e, V⟩ := bslice_view (h := h) (n := 2) (sz := 1) (z := [AV.int .i64 0]) (ps := [(0, .int .i64 a), (1, .int .i64 b)]) (es := ints [a, b]) rfl (by decide) (by decide) rfl rfl rfl
  exact ⟨v, _, e, V, ext_newRow o _ _, ok_newRow o _ _⟩
theorem view_det {h : AHeap} {n : Nat} {v : AV} {es es' : List (List AV)} (V : View h n v es) (W : View h n v es') : es = es' := by
  rcases V with ⟨rfl, rfl | rfl⟩ | ⟨id, g, s, cap, ex, r, rfl, h2, h3, h4, h5, h6⟩
  · rcases W with ⟨rfl, _⟩ | ⟨id', g', s', cap', ex', r', e, _⟩
    · rfl
    · cases e
  · rcases W with ⟨rfl, _⟩ | ⟨id', g', s', cap', ex', r', e, _⟩
    · rfl
    · cases e
  · rcases W with ⟨_, e | e⟩ | ⟨id', g', s', cap', ex', r', e, w2, w3, w4, w5, w6⟩
    · cases e
    · cases e
    · obtain ⟨rfl, rfl, rfl, hl, rfl, rfl⟩ := AV.slc.inj e
      rw [h2] at w2; cases w2
      rw [← h5, ← w5, hl]
theorem Ow.rows {k lo hi : Nat} {h : AHeap} {v : AV} {l : List Val} (O : Ow k lo hi h v l) {j : Nat} (i : inRow v j) : lo ≤ j ∧ j < hi := by
  cases k with
  | zero => obtain ⟨rfl, _⟩ := O; exact absurd i inRow_nil
  | succ k => obtain ⟨es, reg, a1, a2, _⟩ := O; exact ⟨own_row a1 i, a2 j i⟩
theorem Tld.dv {τ : Nat → Tag} {h h2 : AHeap} {x : FD} {vv sv : AV} (D : Tld h h2 x vv sv) (out : ∀ j, h.sz ≤ j → τ j = .out) : DV (Out τ) h2 vv x.vs ∧ ∀ j, inRow sv j → τ j = .out := by
  obtain ⟨lo, hi, G, r1, r2, r3, r4⟩ := D.g
  obtain ⟨es, V, A⟩ := G.now
  obtain ⟨k, O⟩ := G.ow
  refine ⟨⟨es, V, fun j q => out j (by have := (O.rows q).1; omega), all2_of A.length fun i e x he hx h' L => ?_⟩, fun j q => out j (by have := (r4 j q).1; omega)⟩
  have kp : Kp lo hi h2 h' := fun j ob a1 a2 q => L j ob (out j (by omega)) q
  obtain ⟨es', V', A'⟩ := G.rd h' kp
  have : es = es' := view_det (V.lt L fun j q => out j (by have := (O.rows q).1; omega)) V'
  subst this
  obtain ⟨e', he', R⟩ := A'.get hx
  rw [he] at he'; cases he'
  exact R
section
variable {cs : List Cls} {B b n : Nat} {h0 g : AHeap} {τ : Nat → Tag} {T : SD} {tb : AV} {K : Kont} {qo qx pa : Nat} {co : List AV} {nm : Str} {vs : List Val} {F : List Fld} {vv sv fv : AV} {bo : Nat} {st : List Int}
theorem p105 (X : Fix cs B b h0 tb) (hck : ∀ y ∈ vs, ckV 30 y = true) (hsz : szVs vs ≤ B) (hco : nth co 1 = some (.str nm)) (hn : 3 * B + 3000000 ≤ n) (hL : n + 300 < lim)
    (O : SO B τ 0 h0 g T) (I : SI cs b T) (A : Asd τ g qo qx co (cX nm vv bo sv) vv sv fv vs st F) (Ei : EqI T nm vs bo 62 pa tb) (kk : ∀ h, K (.bool true) h = true) :
    p4_105 (callN E (n + 8)) (n + 8) (.ptr pa 0 0 0) (.ptr qo 0 0 0) (.int .i64 1) (.int .i64 2) (.ptr qx 0 0 0) g K = true := by
  have hlm : lim = 4611686018427387904 := rfl
  have hB := X.B
  have c2 := Ei.c2
  have nx2 := Ei.nx
  obtain ⟨xa, xa1, xa2, xa3, xa4⟩ := Ei.a
  unfold p4_105
  rw [← Ei.p]
  refine c12 (k := 1) O I (by omega) (by omega) (by omega) (by omega) (by omega) (fun w => by rw [xa1] at w; cases w) fun y hy h1 τ1 T1 O1 s1 I1 D1 => ?_
  obtain ⟨d1, d2, d3, d4, d5⟩ := D1.sc
  have lk1 : lkG T1.fs 1 = none := by rw [D1.fs, lkG_dl O.nf, if_pos rfl]
  have A1 := A.st O.ok s1
  refine z_neq ?_
  rw [show (!decide ((0 : Int) = 0)) = false from rfl]
  refine z_gff ?_; refine z_some ?_; refine z_gff ?_; refine z_some ?_; refine z_rff ?_
  rw [← d1]
  refine c12 (k := 1) O1 I1 (by omega) (by omega) (by omega) (by omega) (by omega) (fun _ => ?_) fun y hy => by rw [lk1] at hy; cases hy
  refine z_gff ?_; refine z_neq ?_; refine z_kf ?_
  rw [show (!decide ((7 : Int) = 7)) = false from rfl]
  refine z_cF ?_
  refine c17 (n := n + 5) (k := 1) O1 (fun x q => by rw [lk1] at q; cases q) hB (by omega) (by omega) (fun _ h2 e2 o2 => ?_) fun x q => by rw [lk1] at q; cases q
  refine z_ext0 ?_; refine z_ext1 ?_
  obtain ⟨h3, q3, V3, e3, o3, z3⟩ := alloc_v (z := zF) o2 (by decide) rfl
  refine z_p q3 ?_
  obtain ⟨h4, w4, V4, b4, o4, z4⟩ := V3.wrs o3 (n := 6) (v := .agg zF) rfl rfl rfl
  refine z_u w4 ?_
  have e14 : Ext h1 h4 := ext_two e2 (b4.ext e3 o2 (Nat.le_refl _))
  have A4 := A1.ext e14
  have X1 : loadA h4 false 1 (.ptr qo 0 0 1) = some (.str nm) := A4.vo.get hco
  have X2 : loadA h4 false 1 (.ptr qx 0 0 2) = some vv := A4.vx.get rfl
  refine z_notF ?_; refine z_gtt ?_; refine z_some ?_; refine z_gtt ?_; refine z_fadr ?_; refine z_gtt ?_; refine z_of X1 ?_; refine z_gtt ?_; refine z_fadr ?_; refine z_gtt ?_; refine z_of X2 ?_; refine z_rtt ?_
  have eq1 : eql T1 nm vs = [2] := by
    refine srt_ext (eql_srt O1) (by decide) fun y => ?_
    rw [eql_mem, D1.rw, ← eql_mem, Ei.eq O I]
    simp only [List.mem_cons, List.not_mem_nil, or_false]
    omega
  have O4 := O1.ext e14 o4
  refine c19 (n := n + 2) O4 I1 A4.dv.now hck (by omega) (by omega) (by omega) (by omega) fun h5 w5 e5 o5 W5 _ => ?_
  rw [eq1] at W5
  refine z_gtt ?_; refine z_some ?_; refine z_ptt ?_
  obtain ⟨w6, h6, b6, W6, e6, o6, z6, _⟩ := bslice1_v (sz := 1) (z := [AV.int .i64 0]) (v := .int .i64 2) o5 rfl (by decide) (by decide) rfl rfl rfl
  refine z_p b6 ?_
  refine z_rtt ?_
  refine c18 (n := n + 7) (l := [2]) (l' := [2]) (W5.ext e6) W6 (by decide) (by show 1 < n + 7; omega) fun r hr => ?_
  rw [hr.2 rfl]
  refine z_kt ?_; refine z_rtt ?_
  refine c7' ?_
  refine z_kt ?_
  exact kk h6
theorem p42 (X : Fix cs B b h0 tb) (hF : fieldsOf cs nm = F) (nd : (fnames F).Nodup) {set : List (Str × Val)} {d k : Int} {sv0 : AV} {st0 : Bool} {xa : FD} (hi : (idx nm (names cs)).isSome) (hg : given cs nm (fun _ => none) set (zeros F) = some vs) (G : GV h0 sv0 set) (hsb : ∀ q ∈ set, szV q.2 ≤ b)
    (hn : 3 * B + 3000000 ≤ n) (hL : n + 300 < lim) (O : SO B τ 0 h0 g T) (I : SI cs b T) (Vo : Var g qo [.int .i64 d, .str nm, sv0, .int .i64 k, .bool st0]) (to : τ qo = .out)
    (hfs : T.fs = [(1, xa)]) (h1 : xa.cls = nm) (h2 : xa.vs = vs) (h3 : xa.stated = true) (h4 : xa.stamps = List.replicate vs.length 1) (hnx : T.next = 1) (hck : T.clock = 1) (hmo : T.most = 8) (htb : T.tb = tb) (hpa : T.p = pa) (kk : ∀ h, K (.bool true) h = true) :
    p4_42 (callN E (n + 8)) (n + 8) tb (.ptr pa 0 0 0) (.ptr qo 0 0 0) (.int .i64 1) g K = true := by
  have hlm : lim = 4611686018427387904 := rfl
  have hB := X.B
  have hf62 := X.f62 nm
  rw [hF] at hf62
  have fit0 : Fits cs F (fun _ => none) vs := by
    have := given_fit (by rw [hF]; exact fits_zero cs F (fun _ => none)) hg
    rwa [hF] at this
  have fit : ∀ of, Fits cs F of vs := fun of i f v a1 a2 => fit_mono (fun _ _ q => by cases q) (fit0 i f v a1 a2)
  have fc := I.fc 1 xa (by rw [hfs]; exact List.mem_singleton.2 rfl)
  obtain ⟨_, fc2, fc3, fc4⟩ := fc
  rw [h2, h1, hF] at fc2
  rw [h2] at fc4
  have ck : ∀ y ∈ vs, ckV 30 y = true := fit0.ck (by omega)
  have hszv : szVs vs ≤ B := by
    have h1 := sz_all fc4
    have h2 : vs.length * b ≤ 62 * b := Nat.mul_le_mul_right b (by omega)
    have := X.bB
    omega
  have tr : ∀ {T1 : SD}, T1.tb = tb → TableRep h0 T1.tb cs := fun e => by rw [e]; exact X.tr
  unfold p4_42
  have o1 : loadA g false 1 (.ptr qo 0 0 1) = some (.str nm) := Vo.get rfl
  have o2 : loadA g false 1 (.ptr qo 0 0 2) = some sv0 := Vo.get rfl
  refine z_fadr ?_; refine z_of o1 ?_; refine z_fadr ?_; refine z_of o2 ?_
  have hg1 : ∀ of, given cs nm of set (zeros (fieldsOf cs nm)) = some vs := fun of => by rw [hF]; exact given_mono (fun _ _ q => by cases q) hg
  rw [← hpa]
  refine c10 (Q := fun j => j < h0.sz) O I (tr htb) X.asc X.len X.f62 (G.sq O.k0 O.e) (fun j q => by have := O.e.1; omega) hsb X.b1 X.bB (by omega) (by omega) (by omega) (by omega) (by omega) (fun w => by rw [w] at hi; cases hi) (fun _ w => by rw [hg1] at w; cases w) (fun vs _ _ w => by rw [hmo, hfs, List.length_singleton] at w; omega) fun vs' _ w _ g2 τ2 T2 O2 s2 I2 N2 => ?_
  rw [hg1] at w; cases w
  obtain ⟨xb, f2, b1, b2, b3, b4, b5⟩ := N2.fs
  obtain ⟨d1, d2, d3, d4, d5⟩ := N2.sc
  rw [hfs, hnx] at f2
  have f2 : T2.fs = [(1, xa), (2, xb)] := f2
  have lk1 : lkG T2.fs 1 = some xa := by rw [f2]; simp [lkG]
  have lk2 : lkG T2.fs 2 = some xb := by rw [f2]; simp [lkG]
  have Vo2 : Var g2 qo [.int .i64 d, .str nm, sv0, .int .i64 k, .bool st0] := s2.fr.var Vo (fun ⟨t, q⟩ => by rw [to] at q; cases q)
  have to2 : τ2 qo = .out := (s2.old _ (Vo.lt O.ok)).trans to
  have n2 : ((T.next + 1 : Nat) : Int) = 2 := by rw [hnx]; rfl
  rw [n2]
  refine z_ext0 ?_; refine z_ext1 ?_
  rw [← d1]
  refine c17 (n := n + 5) (k := 1) O2 (fun x q => by rw [lk1] at q; cases q; rw [fc3, h2]; omega) hB (by omega) (by omega) (fun q => by rw [lk1] at q; cases q) fun x q g3 vv sv e3 o3 D3 => ?_
  rw [lk1] at q; cases q
  refine z_ext0 ?_; refine z_ext1 ?_
  obtain ⟨g4, q4, V4, e4, o4, z4⟩ := alloc_v (z := zF) o3 (by decide) rfl
  refine z_p q4 ?_
  have lvy := D3.l
  have lsy := D3.v.leaf
  obtain ⟨g5, w5, V5, b5', o5, z5⟩ := V4.wrs o4 (n := 6) (v := .agg [.int .i64 1, .str xa.cls, vv, .bool xa.stated, .int .i64 (xa.born : Int), sv]) rfl rfl (by show allLeaf [.int .i64 1, .str xa.cls, vv, .bool xa.stated, .int .i64 (xa.born : Int), sv] = true; simp only [allLeaf, lvy, lsy]; rfl)
  refine z_u w5 ?_
  have V5 : Var g5 g3.sz [.int .i64 1, .str xa.cls, vv, .bool xa.stated, .int .i64 (xa.born : Int), sv] := V5
  rw [h1, h3] at V5
  have e35 : Ext g3 g5 := b5'.ext e4 o3 (Nat.le_refl _)
  have e25 := ext_two e3 e35
  have O5 := O2.ext e25 o5
  have Ei : EqI T2 nm vs xa.born 0 pa tb := by
    refine ⟨⟨xa, lk1, h1, h2, rfl⟩, ⟨xb, lk2, b1, b2⟩, fun y z q => ?_, by omega, by omega, by omega, by rw [d1]; exact hpa, by rw [d2]; exact htb⟩
    rw [f2] at q
    simp only [lkG] at q
    by_cases c1 : y = 1
    · exact .inl c1
    · rw [if_neg c1] at q
      by_cases c2 : y = 2
      · exact .inr c2
      · rw [if_neg c2] at q; cases q
  obtain ⟨dv3, ts3⟩ := D3.dv (τ := τ2) O2.hi
  rw [h2] at dv3
  have A5 : Asd τ2 g5 qo g3.sz [.int .i64 d, .str nm, sv0, .int .i64 k, .bool st0] (cX nm vv xa.born sv) vv sv .nilSlc vs xa.stamps [] :=
    ⟨Vo2.ext e25, to2, V5, O2.hi _ e3.1, let ⟨es, a, b, c⟩ := dv3; ⟨es, a.ext e35, b, c.mono fun _ _ r => r.ext e35⟩, D3.v.ext e35, ts3, View.nil _ _, fun j q => absurd q inRow_nil⟩
  refine z_neq ?_
  rw [show (!decide ((0 : Int) = 0)) = false from rfl]
  have o51 : loadA g5 false 1 (.ptr qo 0 0 1) = some (.str nm) := A5.vo.get rfl
  have X52 : loadA g5 false 1 (.ptr g3.sz 0 0 2) = some vv := A5.vx.get rfl
  refine z_gff ?_; refine z_some ?_; refine z_gff ?_; refine z_notT ?_; refine z_kf ?_; refine z_gff ?_; refine z_some ?_; refine z_gff ?_; refine z_fadr ?_; refine z_gff ?_; refine z_of o51 ?_; refine z_gff ?_; refine z_fadr ?_; refine z_gff ?_; refine z_of X52 ?_; refine z_rff ?_
  refine c19 (n := n + 2) O5 I2 A5.dv.now ck (by omega) (by omega) (by omega) (by omega) fun g6 w6 e6 o6 W6 _ => ?_
  rw [Ei.eq O2 I2] at W6
  refine z_gff ?_; refine z_some ?_; refine z_gff ?_; refine z_some ?_; refine z_pff ?_
  obtain ⟨w7, g7, b7, W7, e7, o7⟩ := two_row o6 1 2
  refine z_p b7 ?_
  refine z_rff ?_
  refine c18 (n := n + 7) (l := [1, 2]) (l' := [1, 2]) (W6.ext e7) W7 (by decide) (by show 2 < n + 7; omega) fun r hr => ?_
  rw [hr.2 rfl]
  refine z_gff ?_; refine z_notT ?_; refine z_kf ?_; refine z_cF ?_
  unfold p4_54
  have e57 := ext_two e6 e7
  have A7 := A5.ext e57
  have O7 := O5.ext e57 o7
  have o71 : loadA g7 false 1 (.ptr qo 0 0 1) = some (.str nm) := A7.vo.get rfl
  refine z_fadr ?_; refine z_of o71 ?_
  refine u16o (n := n + 6) (X.tr.ext O7.e) X.asc o7 (by have := X.len; omega) (by rw [hF]; omega) (fun e => by rw [e] at hi; cases hi) fun ci g8 fv _ e8 o8 W8 => ?_
  rw [hF] at W8
  have V8 := W8.view
  refine z_ext0 ?_; refine z_ext1 ?_; refine z_neq ?_
  rw [show (!decide ((0 : Int) = 0)) = false from rfl]
  refine z_cF ?_
  unfold p4_64
  have A8 := A7.ext e8
  have O8 := O7.ext e8 o8
  have r8 : ∀ j, inRow fv j → τ2 j = .out := fun j q => O7.hi j (own_row W8 q)
  rw [d1, hpa]
  refine l4 (F := F) (bo := xa.born) (st := xa.stamps) X hF nd fit (by omega) fc4 rfl h4 hn hL (fun g τ T O I A Ei => p105 X ck hszv rfl hn hL O I A Ei kk) (n + 8) 0 g8 τ2 T2 (by omega) (Nat.zero_le _) O8 I2 ⟨A8.vo, A8.to, A8.vx, A8.tx, A8.dv, A8.sx, A8.ts, V8, r8⟩ Ei
theorem c4 {h : AHeap} {lv dv nv hv : AV} {mo : Int} {l : List OpP} (hs : h.Ok) (C : CV h lv cs) (D : OV h dv l) (hlf : allLeaf [lv, .int .i64 mo, dv, nv, hv] = true) (hb : ∀ p ∈ l, (∀ q ∈ p.set, szV q.2 ≤ b) ∧ p.set.length ≤ n) (hcl : cs.length ≤ n) (b1 : 1 ≤ b) (bB : 62 * b ≤ B) (hB : B < 100000000) (hn : 3 * B + 3000000 ≤ n) (hL : n + 300 < lim)
    (hnm : ∀ c ∈ cs, c.name.length ≤ n ∧ ∀ f ∈ c.fields, f.name.length ≤ n)
    (kk : ∀ h, K (.bool true) h = true) : callN E (n + 9) (.func 4) [.agg [lv, .int .i64 mo, dv, nv, hv]] h K = true := by
  have hlm : lim = 4611686018427387904 := rfl
  apply d4
  unfold s4
  obtain ⟨h1, q1, V1, e1, o1, z1⟩ := box_v (n := 5) (v := .agg [lv, .int .i64 mo, dv, nv, hv]) hs rfl (by decide) hlf
  have V1 : Var h1 h.sz [lv, .int .i64 mo, dv, nv, hv] := V1
  refine z_p q1 ?_
  have A : loadA h1 true 5 (.ptr h.sz 0 0 0) = some (.agg [lv, .int .i64 mo, dv, nv, hv]) := V1.all rfl
  have kw : ∀ h, callN E (n + 8) (.func 7) [] h (fun v h => K v h) = true := fun h => c7' (kk h)
  refine z_of A ?_
  refine c6 (n := n + 5) o1 (C.ext e1) (D.ext e1) hlf (fun p hp => ⟨(hb p hp).1, by have := (hb p hp).2; omega⟩) (by omega) (by omega) (by omega) fun c h2 e2 o2 => ?_
  cases c with
  | false =>
    refine z_notF ?_; refine z_gtf ?_; refine z_gtf ?_; refine z_gtf ?_; refine z_gtf ?_; refine z_kt ?_; refine z_cT ?_
    exact kw h2
  | true =>
    have A0 : loadA h2 false 1 (.ptr h.sz 0 0 0) = some lv := (V1.ext e2).get rfl
    have A2 : loadA h2 false 1 (.ptr h.sz 0 0 2) = some dv := (V1.ext e2).get rfl
    obtain ⟨es, W, AA⟩ := (D.ext e1).ext e2
    have hl : lenA h2 1 dv = some (.int .i64 (l.length : Int)) := by rw [W.len, AA.length]
    refine z_notT ?_; refine z_gff ?_; refine z_fadr ?_; refine z_gff ?_; refine z_of A2 ?_; refine z_gff ?_; refine z_of hl ?_; refine z_gff ?_; refine z_eql ?_; refine z_kf ?_
    by_cases hl0 : (l.length : Int) = 0
    · rw [decide_eq_true hl0]
      refine z_cT ?_
      exact kw h2
    rw [decide_eq_false hl0]
    refine z_cF ?_
    unfold p4_10
    refine z_fadr ?_; refine z_of A0 ?_
    have C2 := (C.ext e1).ext e2
    refine u11 (n := n + 2) o2 C2 ⟨by omega, by omega, fun c hc => ⟨by have := (hnm c hc).1; omega, fun f hf => by have := (hnm c hc).2 f hf; omega⟩⟩ (fun _ h3 e3 o3 => ?_) fun hv' G h3 t e3 o3 TR => ?_
    · refine z_ext0 ?_; refine z_ext1 ?_; refine z_neq ?_
      rw [show (!decide ((10 : Int) = 0)) = true from rfl]
      refine z_gtf ?_; refine z_gtf ?_; refine z_kt ?_; refine z_cT ?_
      exact kw h3
    obtain ⟨tid, tl, tm, rfl, _, _, _⟩ := id TR
    refine z_ext0 ?_; refine z_ext1 ?_; refine z_neq ?_
    rw [show (!decide ((0 : Int) = 0)) = false from rfl]
    refine z_gff ?_; refine z_some ?_; refine z_gff ?_; refine z_eqp ?_; refine z_kf ?_; refine z_cF ?_
    unfold p4_20
    have X : Fix cs B b h3 (.ptr tid 0 0 0) := ⟨TR, G.asc, by
      have := hv'
      unfold valid at this
      simp only [Bool.and_eq_true, decide_eq_true_eq] at this
      exact this.1, fields62 hv' G, b1, bB, hB⟩
    refine c9 (B := B) (τ := fun _ => .out) (o := 0) (n := n + 6) o3 o3 (Ext.refl _) (fun _ _ => rfl) (fun _ _ => rfl) (fun w => absurd (by decide) w) fun _ _ h4 τ4 T P4 s4 a1 a2 a3 a4 a5 a6 a7 a8 => ?_
    refine z_ext0 ?_; refine z_ext1 ?_; refine z_neq ?_
    rw [show (!decide ((0 : Int) = 0)) = false from rfl]
    refine z_gff ?_; refine z_some ?_; refine z_gff ?_; refine z_eqp ?_; refine z_kf ?_; refine z_cF ?_
    unfold p4_30
    have I4 : SI cs b T := SI.nil a5 a6 a7 a8
    obtain ⟨p, hp⟩ : ∃ p, l[0]? = some p := ⟨l[0]'(by omega), List.getElem?_eq_getElem (by omega)⟩
    obtain ⟨ee, he, R⟩ := AA.get hp
    obtain ⟨hbp, _⟩ := hb p (List.mem_of_getElem? hp)
    obtain ⟨sv, rfl, Gs⟩ := R
    obtain ⟨id, gg, j, u⟩ := W.atE he
    have e24 := ext_two e3 P4.e
    obtain ⟨p1, p2⟩ := u h4 e24
    have p1 : iadrA h4 5 dv (.int .i64 0) = some (.ptr id gg j 0) := p1 .i64
    have lsv : sv.leaf = true := by obtain ⟨_, w, _⟩ := Gs; exact w.leaf
    have Lo : loadA h4 true 5 (.ptr id gg j 0) = some (.agg [.int .i64 p.d, .str p.cls, sv, .int .i64 p.k, .bool p.st]) := by rw [p2]; rfl
    have A24 : loadA h4 false 1 (.ptr h.sz 0 0 2) = some dv := ((V1.ext e2).ext e24).get rfl
    refine z_fadr ?_; refine z_of A24 ?_; refine z_of p1 ?_; refine z_of Lo ?_
    obtain ⟨h5, q5, V5, e5, o5, z5⟩ := alloc_v (z := [AV.int .i64 0, .str [], .nilSlc, .int .i64 0, .bool false]) P4.ok (by decide) rfl
    refine z_p q5 ?_
    obtain ⟨h6, w6, V6, b6, o6, z6⟩ := V5.wrs o5 (n := 5) (v := .agg [.int .i64 p.d, .str p.cls, sv, .int .i64 p.k, .bool p.st]) rfl rfl (by show allLeaf [.int .i64 p.d, .str p.cls, sv, .int .i64 p.k, .bool p.st] = true; simp only [allLeaf, lsv]; rfl)
    refine z_u w6 ?_
    have V6 : Var h6 h4.sz [.int .i64 p.d, .str p.cls, sv, .int .i64 p.k, .bool p.st] := V6
    have e46 : Ext h4 h6 := b6.ext e5 P4.ok (Nat.le_refl _)
    have P6 := P4.ext e46 o6
    have L1 : loadA h6 false 1 (.ptr h4.sz 0 0 1) = some (.str p.cls) := V6.get rfl
    have L2 : loadA h6 false 1 (.ptr h4.sz 0 0 2) = some sv := V6.get rfl
    refine z_fadr ?_; refine z_of L1 ?_; refine z_fadr ?_; refine z_of L2 ?_
    have G3 : GV h3 sv p.set := Gs.ext e3
    have of0 : ofT T = fun _ => none := by funext k; unfold ofT; rw [a5]; rfl
    refine c10 (Q := fun j => j < h3.sz) P6 I4 (by rw [a1]; exact X.tr) X.asc X.len X.f62 (G3.sq P6.k0 P6.e) (fun j q => by have := P6.e.1; omega) hbp X.b1 X.bB (by omega) (by omega) (by omega) (by omega) (by omega) (fun w h' e o => ?_) (fun _ w h' e o => ?_) (fun vs _ _ w => by rw [a2, a5, List.length_nil] at w; omega) fun vs hi hg _ g τ' T1 O1 s1 I1 N1 => ?_
    · refine z_ext0 ?_; refine z_ext1 ?_; refine z_neq ?_
      rw [show (!decide ((10 : Int) = 0)) = true from rfl]
      refine z_cT ?_
      exact kw h'
    · refine z_ext0 ?_; refine z_ext1 ?_; refine z_neq ?_
      rw [show (!decide ((11 : Int) = 0)) = true from rfl]
      refine z_cT ?_
      exact kw h'
    obtain ⟨xa, f1, b1, b2, b3, b4, b5⟩ := N1.fs
    obtain ⟨d1, d2, d3, d4, d5⟩ := N1.sc
    rw [a5, a3] at f1
    rw [of0] at hg
    rw [a3]
    refine z_ext0 ?_; refine z_ext1 ?_; refine z_neq ?_
    rw [show (!decide ((0 : Int) = 0)) = false from rfl]
    refine z_cF ?_
    obtain ⟨ci, hci⟩ := Option.isSome_iff_exists.1 hi
    exact p42 (F := fieldsOf cs p.cls) X rfl (fields_ok hv' G ci hci).1 hi hg G3 hbp hn hL O1 I1 (s1.fr.var V6 fun ⟨t, q⟩ => by rw [P4.hi _ (Nat.le_refl _)] at q; cases q) ((s1.old _ (V6.lt o6)).trans (P4.hi _ (Nat.le_refl _))) f1 b1 b2 b3 (by rw [b5, a4]; rfl) (by omega) (by omega) (by rw [d3, a2]) (by rw [d2, a1]) d1 kk
end
end Go.Proofs.Ythifmankpcadjaa
namespace Go.Proofs
open Go.Shelf
def Ythifmankpcadjaa.insL_ren : Go.Shelf.Ren := ⟨fun | 21 => 59 | 27 => 72 | 28 => 73 | 35 => 86 | 39 => 95 | n => n, fun | 22 => 25 | 3 => 3 | 4 => 4 | 0 => 0 | n => n, fun | n => n⟩
theorem Ythifmankpcadjaa.insL : Go.Proofs.Lays2.n21 Try.prog Ythifmankpcadjaa.insL_ren := {
  mixed := by kernel_rfl
  f21 := Try.func59.trans (congrArg some (by kernel_rfl))
  f27 := Try.func72.trans (congrArg some (by kernel_rfl))
  f28 := Try.func73.trans (congrArg some (by kernel_rfl))
  f35 := Try.func86.trans (congrArg some (by kernel_rfl))
  f39 := Try.func95.trans (congrArg some (by kernel_rfl))
  t0 := Try.underlying0
  a0 := Try.isAgg0
  z0 := Try.sizeOf0
  v0 := Try.zeroValue0
  t3 := Try.underlying3
  a3 := Try.isAgg3
  z3 := Try.sizeOf3
  v3 := Try.zeroValue3
  t4 := Try.underlying4
  a4 := Try.isAgg4
  z4 := Try.sizeOf4
  v4 := Try.zeroValue4
  t22 := Try.underlying25
  a22 := Try.isAgg25
  z22 := Try.sizeOf25
  v22 := Try.zeroValue25
  i3 := by kernel_rfl }
end Go.Proofs
namespace Go.Proofs
open Go.Shelf
def Ythifmankpcadjaa.sortL_ren : Go.Shelf.Ren := ⟨fun | 189 => 47 | 125 => 69 | 257 => 68 | 128 => 84 | 129 => 85 | 294 => 75 | 295 => 76 | 296 => 77 | 297 => 78 | 298 => 79 | 299 => 80 | 216 => 81 | 300 => 82 | 301 => 83 | 328 => 89 | 329 => 90 | 330 => 91 | 331 => 92 | 332 => 93 | 215 => 94 | 343 => 96 | n => n, fun | 28 => 25 | 3 => 3 | 46 => 68 | 0 => 0 | 51 => 146 | 53 => 42 | 4 => 4 | 183 => 139 | 182 => 138 | 131 => 119 | 5 => 5 | 9 => 9 | 218 => 150 | 222 => 154 | 228 => 157 | 229 => 158 | n => n, fun | n => n⟩
theorem Ythifmankpcadjaa.sortL : Go.Proofs.Lays.n189 Try.prog Ythifmankpcadjaa.sortL_ren := {
  mixed := by kernel_rfl
  f125 := Try.func69.trans (congrArg some (by kernel_rfl))
  f128 := Try.func84.trans (congrArg some (by kernel_rfl))
  f129 := Try.func85.trans (congrArg some (by kernel_rfl))
  f189 := Try.func47.trans (congrArg some (by kernel_rfl))
  f215 := Try.func94.trans (congrArg some (by kernel_rfl))
  f216 := Try.func81.trans (congrArg some (by kernel_rfl))
  f257 := Try.func68.trans (congrArg some (by kernel_rfl))
  f294 := Try.func75.trans (congrArg some (by kernel_rfl))
  f295 := Try.func76.trans (congrArg some (by kernel_rfl))
  f296 := Try.func77.trans (congrArg some (by kernel_rfl))
  f297 := Try.func78.trans (congrArg some (by kernel_rfl))
  f298 := Try.func79.trans (congrArg some (by kernel_rfl))
  f299 := Try.func80.trans (congrArg some (by kernel_rfl))
  f300 := Try.func82.trans (congrArg some (by kernel_rfl))
  f301 := Try.func83.trans (congrArg some (by kernel_rfl))
  f328 := Try.func89.trans (congrArg some (by kernel_rfl))
  f329 := Try.func90.trans (congrArg some (by kernel_rfl))
  f330 := Try.func91.trans (congrArg some (by kernel_rfl))
  f331 := Try.func92.trans (congrArg some (by kernel_rfl))
  f332 := Try.func93.trans (congrArg some (by kernel_rfl))
  f343 := Try.func96.trans (congrArg some (by kernel_rfl))
  t0 := Try.underlying0
  a0 := Try.isAgg0
  z0 := Try.sizeOf0
  v0 := Try.zeroValue0
  t3 := Try.underlying3
  a3 := Try.isAgg3
  z3 := Try.sizeOf3
  v3 := Try.zeroValue3
  t4 := Try.underlying4
  a4 := Try.isAgg4
  z4 := Try.sizeOf4
  v4 := Try.zeroValue4
  t5 := Try.underlying5
  a5 := Try.isAgg5
  z5 := Try.sizeOf5
  v5 := Try.zeroValue5
  t9 := Try.underlying9
  a9 := Try.isAgg9
  z9 := Try.sizeOf9
  v9 := Try.zeroValue9
  t28 := Try.underlying25
  a28 := Try.isAgg25
  z28 := Try.sizeOf25
  v28 := Try.zeroValue25
  t46 := Try.underlying68
  a46 := Try.isAgg68
  z46 := Try.sizeOf68
  v46 := Try.zeroValue68
  t51 := Try.underlying146
  a51 := Try.isAgg146
  z51 := Try.sizeOf146
  v51 := Try.zeroValue146
  t53 := Try.underlying42
  a53 := Try.isAgg42
  z53 := Try.sizeOf42
  v53 := Try.zeroValue42
  t131 := Try.underlying119
  a131 := Try.isAgg119
  z131 := Try.sizeOf119
  v131 := Try.zeroValue119
  t182 := Try.underlying138
  a182 := Try.isAgg138
  z182 := Try.sizeOf138
  v182 := Try.zeroValue138
  t183 := Try.underlying139
  a183 := Try.isAgg139
  z183 := Try.sizeOf139
  v183 := Try.zeroValue139
  t218 := Try.underlying150
  a218 := Try.isAgg150
  z218 := Try.sizeOf150
  v218 := Try.zeroValue150
  t222 := Try.underlying154
  a222 := Try.isAgg154
  z222 := Try.sizeOf154
  v222 := Try.zeroValue154
  t228 := Try.underlying157
  a228 := Try.isAgg157
  z228 := Try.sizeOf157
  v228 := Try.zeroValue157
  t229 := Try.underlying158
  a229 := Try.isAgg158
  z229 := Try.sizeOf158
  v229 := Try.zeroValue158 }
end Go.Proofs
namespace Go.Proofs.Ythifmankpcadjaa
open Go.Ab
@[irreducible] noncomputable def A7 : AFun := (compFn Try.prog Try.f7).getD ⟨0, [], .skip⟩
noncomputable def tblW : List (Nat × AFun) := [(7, A7), (8, A8), (9, A9), (10, A10), (11, A11), (15, A15), (16, A16), (17, A17), (20, A20), (23, A23), (25, A25), (26, A26), (27, A27), (28, A28), (29, A29), (30, A30), (31, A31), (32, A32), (33, A33), (34, A34), (36, A36), (39, A39), (40, A40), (41, A41), (42, A42), (43, A43), (44, A44), (49, A49), (50, A50), (51, A51), (52, A52), (53, A53), (54, A54), (55, A55), (56, A56), (57, A57), (58, A58), (60, A60), (61, A61), (62, A62), (64, A64), (65, A65), (66, A66), (67, A67), (70, A70), (71, A71), (74, A74), (87, A87), (88, A88)]
set_option maxRecDepth 1000000 in
theorem runW : callN (envP tblW [(59, insP)]) 300 (.func 7) [] AHeap.empty (fun v _ => isTrue v) = true := by kernel_rfl
end Go.Proofs.Ythifmankpcadjaa
namespace Go.Proofs.Ythifmankpcadjaa
open Go.Ab
theorem tt3 : compFn Try.prog Try.f3 = some (stripF A3) := by kernel_rfl
theorem tt4 : compFn Try.prog Try.f4 = some (stripF A4) := by kernel_rfl
theorem tt5 : compFn Try.prog Try.f5 = some (stripF A5) := by kernel_rfl
theorem tt6 : compFn Try.prog Try.f6 = some (stripF A6) := by kernel_rfl
theorem tt7 : compFn Try.prog Try.f7 = some (stripF A7) := by kernel_rfl
theorem tt8 : compFn Try.prog Try.f8 = some (stripF A8) := by kernel_rfl
theorem tt9 : compFn Try.prog Try.f9 = some (stripF A9) := by kernel_rfl
theorem tt10 : compFn Try.prog Try.f10 = some (stripF A10) := by kernel_rfl
theorem tt11 : compFn Try.prog Try.f11 = some (stripF A11) := by kernel_rfl
theorem tt12 : compFn Try.prog Try.f12 = some (stripF A12) := by kernel_rfl
theorem tt13 : compFn Try.prog Try.f13 = some (stripF A13) := by kernel_rfl
theorem tt14 : compFn Try.prog Try.f14 = some (stripF A14) := by kernel_rfl
theorem tt15 : compFn Try.prog Try.f15 = some (stripF A15) := by kernel_rfl
theorem tt16 : compFn Try.prog Try.f16 = some (stripF A16) := by kernel_rfl
theorem tt17 : compFn Try.prog Try.f17 = some (stripF A17) := by kernel_rfl
theorem tt18 : compFn Try.prog Try.f18 = some (stripF A18) := by kernel_rfl
theorem tt19 : compFn Try.prog Try.f19 = some (stripF A19) := by kernel_rfl
theorem tt20 : compFn Try.prog Try.f20 = some (stripF A20) := by kernel_rfl
theorem tt21 : compFn Try.prog Try.f21 = some (stripF A21) := by kernel_rfl
theorem tt22 : compFn Try.prog Try.f22 = some (stripF A22) := by kernel_rfl
theorem tt23 : compFn Try.prog Try.f23 = some (stripF A23) := by kernel_rfl
theorem tt24 : compFn Try.prog Try.f24 = some (stripF A24) := by kernel_rfl
theorem tt25 : compFn Try.prog Try.f25 = some (stripF A25) := by kernel_rfl
theorem tt26 : compFn Try.prog Try.f26 = some (stripF A26) := by kernel_rfl
theorem tt27 : compFn Try.prog Try.f27 = some (stripF A27) := by kernel_rfl
theorem tt28 : compFn Try.prog Try.f28 = some (stripF A28) := by kernel_rfl
theorem tt29 : compFn Try.prog Try.f29 = some (stripF A29) := by kernel_rfl
theorem tt30 : compFn Try.prog Try.f30 = some (stripF A30) := by kernel_rfl
theorem tt31 : compFn Try.prog Try.f31 = some (stripF A31) := by kernel_rfl
theorem tt32 : compFn Try.prog Try.f32 = some (stripF A32) := by kernel_rfl
theorem tt33 : compFn Try.prog Try.f33 = some (stripF A33) := by kernel_rfl
theorem tt34 : compFn Try.prog Try.f34 = some (stripF A34) := by kernel_rfl
theorem tt35 : compFn Try.prog Try.f35 = some (stripF A35) := by kernel_rfl
theorem tt36 : compFn Try.prog Try.f36 = some (stripF A36) := by kernel_rfl
theorem tt37 : compFn Try.prog Try.f37 = some (stripF A37) := by kernel_rfl
theorem tt38 : compFn Try.prog Try.f38 = some (stripF A38) := by kernel_rfl
theorem tt39 : compFn Try.prog Try.f39 = some (stripF A39) := by kernel_rfl
theorem tt40 : compFn Try.prog Try.f40 = some (stripF A40) := by kernel_rfl
theorem tt41 : compFn Try.prog Try.f41 = some (stripF A41) := by kernel_rfl
theorem tt42 : compFn Try.prog Try.f42 = some (stripF A42) := by kernel_rfl
theorem tt43 : compFn Try.prog Try.f43 = some (stripF A43) := by kernel_rfl
theorem tt44 : compFn Try.prog Try.f44 = some (stripF A44) := by kernel_rfl
theorem tt45 : compFn Try.prog Try.f45 = some (stripF A45) := by kernel_rfl
theorem tt46 : compFn Try.prog Try.f46 = some (stripF A46) := by kernel_rfl
theorem tt48 : compFn Try.prog Try.f48 = some (stripF A48) := by kernel_rfl
theorem tt49 : compFn Try.prog Try.f49 = some (stripF A49) := by kernel_rfl
theorem tt50 : compFn Try.prog Try.f50 = some (stripF A50) := by kernel_rfl
theorem tt51 : compFn Try.prog Try.f51 = some (stripF A51) := by kernel_rfl
theorem tt52 : compFn Try.prog Try.f52 = some (stripF A52) := by kernel_rfl
theorem tt53 : compFn Try.prog Try.f53 = some (stripF A53) := by kernel_rfl
theorem tt54 : compFn Try.prog Try.f54 = some (stripF A54) := by kernel_rfl
theorem tt55 : compFn Try.prog Try.f55 = some (stripF A55) := by kernel_rfl
theorem tt56 : compFn Try.prog Try.f56 = some (stripF A56) := by kernel_rfl
theorem tt57 : compFn Try.prog Try.f57 = some (stripF A57) := by kernel_rfl
theorem tt58 : compFn Try.prog Try.f58 = some (stripF A58) := by kernel_rfl
theorem tt60 : compFn Try.prog Try.f60 = some (stripF A60) := by kernel_rfl
theorem tt61 : compFn Try.prog Try.f61 = some (stripF A61) := by kernel_rfl
theorem tt62 : compFn Try.prog Try.f62 = some (stripF A62) := by kernel_rfl
theorem tt63 : compFn Try.prog Try.f63 = some (stripF A63) := by kernel_rfl
theorem tt64 : compFn Try.prog Try.f64 = some (stripF A64) := by kernel_rfl
theorem tt65 : compFn Try.prog Try.f65 = some (stripF A65) := by kernel_rfl
theorem tt66 : compFn Try.prog Try.f66 = some (stripF A66) := by kernel_rfl
theorem tt67 : compFn Try.prog Try.f67 = some (stripF A67) := by kernel_rfl
theorem tt70 : compFn Try.prog Try.f70 = some (stripF A70) := by kernel_rfl
theorem tt71 : compFn Try.prog Try.f71 = some (stripF A71) := by kernel_rfl
theorem tt74 : compFn Try.prog Try.f74 = some (stripF A74) := by kernel_rfl
theorem tt87 : compFn Try.prog Try.f87 = some (stripF A87) := by kernel_rfl
theorem tt88 : compFn Try.prog Try.f88 = some (stripF A88) := by kernel_rfl
theorem tbl_ok : AllOK Try.prog tbl := ⟨⟨_, Try.func3, tt3⟩, ⟨_, Try.func4, tt4⟩, ⟨_, Try.func5, tt5⟩, ⟨_, Try.func6, tt6⟩, ⟨_, Try.func8, tt8⟩, ⟨_, Try.func9, tt9⟩, ⟨_, Try.func10, tt10⟩, ⟨_, Try.func11, tt11⟩, ⟨_, Try.func12, tt12⟩, ⟨_, Try.func13, tt13⟩, ⟨_, Try.func14, tt14⟩, ⟨_, Try.func15, tt15⟩, ⟨_, Try.func16, tt16⟩, ⟨_, Try.func17, tt17⟩, ⟨_, Try.func18, tt18⟩, ⟨_, Try.func19, tt19⟩, ⟨_, Try.func21, tt21⟩, ⟨_, Try.func22, tt22⟩, ⟨_, Try.func24, tt24⟩, ⟨_, Try.func26, tt26⟩, ⟨_, Try.func27, tt27⟩, ⟨_, Try.func28, tt28⟩, ⟨_, Try.func29, tt29⟩, ⟨_, Try.func30, tt30⟩, ⟨_, Try.func31, tt31⟩, ⟨_, Try.func32, tt32⟩, ⟨_, Try.func33, tt33⟩, ⟨_, Try.func34, tt34⟩, ⟨_, Try.func35, tt35⟩, ⟨_, Try.func36, tt36⟩, ⟨_, Try.func37, tt37⟩, ⟨_, Try.func38, tt38⟩, ⟨_, Try.func39, tt39⟩, ⟨_, Try.func40, tt40⟩, ⟨_, Try.func41, tt41⟩, ⟨_, Try.func42, tt42⟩, ⟨_, Try.func44, tt44⟩, ⟨_, Try.func45, tt45⟩, ⟨_, Try.func46, tt46⟩, ⟨_, Try.func48, tt48⟩, ⟨_, Try.func49, tt49⟩, ⟨_, Try.func50, tt50⟩, ⟨_, Try.func51, tt51⟩, ⟨_, Try.func52, tt52⟩, ⟨_, Try.func53, tt53⟩, ⟨_, Try.func54, tt54⟩, ⟨_, Try.func55, tt55⟩, ⟨_, Try.func56, tt56⟩, ⟨_, Try.func57, tt57⟩, ⟨_, Try.func58, tt58⟩, ⟨_, Try.func60, tt60⟩, ⟨_, Try.func61, tt61⟩, ⟨_, Try.func62, tt62⟩, ⟨_, Try.func63, tt63⟩, ⟨_, Try.func64, tt64⟩, ⟨_, Try.func65, tt65⟩, ⟨_, Try.func67, tt67⟩, ⟨_, Try.func70, tt70⟩, ⟨_, Try.func71, tt71⟩, ⟨_, Try.func74, tt74⟩, ⟨_, Try.func87, tt87⟩, ⟨_, Try.func88, tt88⟩, ⟨_, Try.func20, tt20⟩, ⟨_, Try.func23, tt23⟩, ⟨_, Try.func25, tt25⟩, ⟨_, Try.func43, tt43⟩, ⟨_, Try.func66, tt66⟩, trivial⟩
theorem tblW_ok : AllOK Try.prog tblW := ⟨⟨_, Try.func7, tt7⟩, ⟨_, Try.func8, tt8⟩, ⟨_, Try.func9, tt9⟩, ⟨_, Try.func10, tt10⟩, ⟨_, Try.func11, tt11⟩, ⟨_, Try.func15, tt15⟩, ⟨_, Try.func16, tt16⟩, ⟨_, Try.func17, tt17⟩, ⟨_, Try.func20, tt20⟩, ⟨_, Try.func23, tt23⟩, ⟨_, Try.func25, tt25⟩, ⟨_, Try.func26, tt26⟩, ⟨_, Try.func27, tt27⟩, ⟨_, Try.func28, tt28⟩, ⟨_, Try.func29, tt29⟩, ⟨_, Try.func30, tt30⟩, ⟨_, Try.func31, tt31⟩, ⟨_, Try.func32, tt32⟩, ⟨_, Try.func33, tt33⟩, ⟨_, Try.func34, tt34⟩, ⟨_, Try.func36, tt36⟩, ⟨_, Try.func39, tt39⟩, ⟨_, Try.func40, tt40⟩, ⟨_, Try.func41, tt41⟩, ⟨_, Try.func42, tt42⟩, ⟨_, Try.func43, tt43⟩, ⟨_, Try.func44, tt44⟩, ⟨_, Try.func49, tt49⟩, ⟨_, Try.func50, tt50⟩, ⟨_, Try.func51, tt51⟩, ⟨_, Try.func52, tt52⟩, ⟨_, Try.func53, tt53⟩, ⟨_, Try.func54, tt54⟩, ⟨_, Try.func55, tt55⟩, ⟨_, Try.func56, tt56⟩, ⟨_, Try.func57, tt57⟩, ⟨_, Try.func58, tt58⟩, ⟨_, Try.func60, tt60⟩, ⟨_, Try.func61, tt61⟩, ⟨_, Try.func62, tt62⟩, ⟨_, Try.func64, tt64⟩, ⟨_, Try.func65, tt65⟩, ⟨_, Try.func66, tt66⟩, ⟨_, Try.func67, tt67⟩, ⟨_, Try.func70, tt70⟩, ⟨_, Try.func71, tt71⟩, ⟨_, Try.func74, tt74⟩, ⟨_, Try.func87, tt87⟩, ⟨_, Try.func88, tt88⟩, trivial⟩
theorem body59 : ∃ c, Try.f59.body = some c := by
  have h : Try.f59.body.isSome = true := by kernel_rfl
  cases e : Try.f59.body with
  | none => rw [e] at h; cases h
  | some c => exact ⟨c, rfl⟩
theorem enter59 (args : Array Value) (w : World) : (callFunc 59 args).run Try.prog w = .ok (.enter 59 args) w := by
  obtain ⟨c, h⟩ := body59
  exact _root_.Go.MuLone.run_callFunc_enter Try.func59 (by kernel_rfl) h args w
theorem body47 : ∃ c, Try.f47.body = some c := by
  have h : Try.f47.body.isSome = true := by kernel_rfl
  cases e : Try.f47.body with
  | none => rw [e] at h; cases h
  | some c => exact ⟨c, rfl⟩
theorem enter47 (args : Array Value) (w : World) : (callFunc 47 args).run Try.prog w = .ok (.enter 47 args) w := by
  obtain ⟨c, h⟩ := body47
  exact _root_.Go.MuLone.run_callFunc_enter Try.func47 (by kernel_rfl) h args w
theorem ins_ok : PrimOK Try.prog 59 insP := insP_ok insL rfl enter59
theorem srt_ok : PrimOK Try.prog 47 sortI := sortI_ok sortL rfl enter47
theorem prims_ok : AllPrim Try.prog prims := ⟨ins_ok, srt_ok, saysT_ok Try.checked.mixed (envP_ok tblW_ok (ps := [(59, insP)]) (show AllPrim Try.prog [(59, insP)] from ⟨ins_ok, trivial⟩)) (fn := A7) rfl runW, trivial⟩
theorem env_ok : EnvOK Try.prog E := envP_ok tbl_ok prims_ok
end Go.Proofs.Ythifmankpcadjaa
