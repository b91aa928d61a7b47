/-
  Maps; equality.
-/
import Derived.Test.YtgmdelacokkenaaGreatDoorAbOps3
namespace Go.Ab
set_option linter.unusedSimpArgs false
set_option linter.unusedVariables false

section
variable {P : Program} {B : Base} {φ : Phi} {h h' : AHeap} {w : World} {v : AV}

/-! ### Leaves -/
theorem k0_type {t : TypeId} {k : K0} (hk : k0Of P t = some k) : (∃ i, k = .int ∧ P.underlying t = some (.int i)) ∨ (k = .str ∧ P.underlying t = some .string) ∨ (k = .bool ∧ P.underlying t = some .bool) := by
  unfold k0Of at hk
  split at hk
  · rename_i i hu; cases hk; exact .inl ⟨i, rfl, hu⟩
  · rename_i hu; cases hk; exact .inr (.inl ⟨rfl, hu⟩)
  · rename_i hu; cases hk; exact .inr (.inr ⟨rfl, hu⟩)
  · cases hk

theorem k0_agg {t : TypeId} {k : K0} (hk : k0Of P t = some k) : isAggT P t = some false := by
  unfold isAggT
  rcases k0_type hk with ⟨i, _, hu⟩ | ⟨_, hu⟩ | ⟨_, hu⟩ <;> rw [hu]

theorem leaf_equal {t : TypeId} {k : K0} (hk : k0Of P t = some k) {a b : AV} {ca cb : Value} (ha : RelV φ a ca) (hb : RelV φ b cb) (hf : fits0 k a = true) {r : Bool} (he : leafEq a b = some r) (d : Nat) :
    (Op.equalIn (d + 1) t ca cb).run P w = .ok r w ∧ (∀ td, P.underlying t = some td → Instr.sameNow td ca cb = some r) ∧ (r = true → ∀ n, Instr.sameBits n cb ca = true) := by
  rcases k0_type hk with ⟨i, rfl, hu⟩ | ⟨rfl, hu⟩ | ⟨rfl, hu⟩
  · cases a <;> simp [fits0] at hf
    cases b <;> simp only [leafEq] at he <;> try (cases he; done)
    rename_i k x j y
    cases hkj : Nat.beq (kidx k) (kidx j) with
    | false => rw [hkj] at he; cases he
    | true =>
      rw [hkj, cond_true] at he; cases he
      have := kidx_inj (nbeq_true.1 hkj); subst this
      cases ha; cases hb
      rw [ieqb_eq]
      refine ⟨run_equalIn_int w d t k i x y hu, fun td htd => ?_, fun hr n => ?_⟩
      · rw [hu] at htd; cases htd
        simp [Instr.sameNow]
      · have := eq_of_beq hr; subst this
        simp [Instr.sameBits]
  · cases a <;> simp [fits0] at hf
    cases b <;> simp only [leafEq] at he <;> try (cases he; done)
    cases he
    cases ha with
    | str ha =>
      cases hb with
      | str hb =>
        rename_i s1 s2
        rw [leqb_bytes ha hb]
        refine ⟨run_equalIn_string w d t _ _ hu, fun td htd => ?_, fun hr n => ?_⟩
        · rw [hu] at htd; cases htd
          simp [Instr.sameNow, beq_toListBytes]
        · have h0 := eq_of_beq hr
          unfold Instr.sameBits
          rw [beq_toListBytes, beq_iff_eq]
          exact h0.symm
  · cases a <;> simp [fits0] at hf
    cases b <;> simp only [leafEq] at he <;> try (cases he; done)
    cases he
    cases ha; cases hb
    rename_i x y
    refine ⟨run_equalIn_bool w d t x y hu, fun td htd => ?_, fun hr n => ?_⟩
    · rw [hu] at htd; cases htd
      simp [Instr.sameNow]
    · have := eq_of_beq hr; subst this
      simp [Instr.sameBits]

theorem struct_type {t : TypeId} {ks : List K0} (hs : structOf P t = some ks) : ∃ fs, P.underlying t = some (.struct fs) ∧ P.stoodInHeld t = false ∧ P.eqGuardType P.depth t = false ∧ k0sOf P 0 fs.toList = some ks := by
  unfold structOf at hs
  split at hs
  · rename_i fs hu
    cases hc : (!P.stoodInHeld t && !P.eqGuardType P.depth t) with
    | false => rw [hc] at hs; cases hs
    | true =>
      rw [hc, cond_true] at hs
      simp only [Bool.and_eq_true, Bool.not_eq_true'] at hc
      exact ⟨fs, hu, hc.1, hc.2, hs⟩
  · cases hs

theorem k0s_cons {n : Nat} {f : Field} {fs : List Field} {ks : List K0} (hs : k0sOf P n (f :: fs) = some ks) : ∃ k ks', f.offset = n ∧ f.name ≠ "_" ∧ k0Of P f.type = some k ∧ k0sOf P (n + 1) fs = some ks' ∧ ks = k :: ks' := by
  simp only [k0sOf] at hs
  cases hc : (Nat.beq f.offset n && (f.name != "_")) with
  | false => rw [hc] at hs; cases hs
  | true =>
    rw [hc, cond_true] at hs
    simp only [Bool.and_eq_true, nbeq_true, bne_iff_ne, ne_eq] at hc
    split at hs
    · rename_i k hk
      split at hs
      · rename_i ks' hks
        cases hs
        exact ⟨k, ks', hc.1, hc.2, hk, hks, rfl⟩
      · cases hs
    · cases hs

theorem fits0s_cons {k : K0} {ks : List K0} {l : List AV} (hf : fits0s (k :: ks) l = true) : ∃ a l', l = a :: l' ∧ fits0 k a = true ∧ fits0s ks l' = true := by
  cases l with
  | nil => cases hf
  | cons a l' =>
    simp only [fits0s] at hf
    cases hk : fits0 k a with
    | false => rw [hk] at hf; cases hf
    | true => rw [hk, cond_true] at hf; exact ⟨a, l', rfl, hk, hf⟩

theorem run_part_leaf {t : TypeId} {k : K0} (hk : k0Of P t = some k) {cs : Array Value} {n : Nat} {c : Value} (hc : cs[n]? = some c) : (part t cs n).run P w = .ok c w := by
  simp [part, Sem.run_bind, run_isAggT (k0_agg hk), hc]

/-- Struct by struct, from field n on. -/
theorem leaves_fields {d : Nat} {cl cm : List Value} : ∀ (fs : List Field) (n : Nat) (ks : List K0) (l m : List AV), k0sOf P n fs = some ks → fits0s ks l = true → RelVs φ l (cl.drop n) → RelVs φ m (cm.drop n) → ∀ r, leavesEq l m = some r →
      (Op.eqFields (d + 1) ⟨cl⟩ ⟨cm⟩ fs).run P w = .ok r w ∧ (r = true → ∀ nn, (cm.drop n).length = (cl.drop n).length ∧ (((cm.drop n).zip (cl.drop n)).all fun (x, y) => Instr.sameBits nn x y) = true)
  | [], n, ks, l, m, hk, hf, hl, hm, r, he => by
    simp [k0sOf] at hk; subst hk
    have hln : l = [] := by cases l with | nil => rfl | cons => cases hf
    subst hln
    cases m with
    | cons => simp [leavesEq] at he
    | nil =>
      simp [leavesEq] at he; subst he
      have e1 := hl.length; have e2 := hm.length
      simp only [List.length_nil] at e1 e2
      have f1 : cl.drop n = [] := List.length_eq_zero_iff.1 e1.symm
      have f2 : cm.drop n = [] := List.length_eq_zero_iff.1 e2.symm
      exact ⟨by simp [Op.eqFields], fun _ nn => by rw [f1, f2]; simp⟩
  | f :: fs, n, ks, l, m, hk, hf, hl, hm, r, he => by
    obtain ⟨k, ks', h1, h2, h3, h4, rfl⟩ := k0s_cons hk
    obtain ⟨a, l', rfl, h5, h6⟩ := fits0s_cons hf
    cases m with
    | nil => simp [leavesEq] at he
    | cons b m' =>
      generalize hcl : cl.drop n = cl' at hl
      generalize hcm : cm.drop n = cm' at hm
      cases hl with
      | cons ha hl' =>
        rename_i ca cl2
        cases hm with
        | cons hb hm' =>
          rename_i cb cm2
          have g1 : cl[n]? = some ca := by
            have := congrArg (fun x => x[0]?) hcl
            simpa [List.getElem?_drop] using this
          have g2 : cm[n]? = some cb := by
            have := congrArg (fun x => x[0]?) hcm
            simpa [List.getElem?_drop] using this
          have d1 : cl.drop (n + 1) = cl2 := by rw [← List.drop_drop, hcl]; rfl
          have d2 : cm.drop (n + 1) = cm2 := by rw [← List.drop_drop, hcm]; rfl
          have p1 : (part f.type ⟨cl⟩ f.offset).run P w = .ok ca w := by rw [h1]; exact run_part_leaf h3 (by simpa using g1)
          have p2 : (part f.type ⟨cm⟩ f.offset).run P w = .ok cb w := by rw [h1]; exact run_part_leaf h3 (by simpa using g2)
          simp only [leavesEq] at he
          split at he
          · rename_i hab
            obtain ⟨q1, q2, q3⟩ := leaf_equal (w := w) h3 ha hb h5 hab d
            obtain ⟨r1, r2⟩ := leaves_fields (d := d) fs (n + 1) ks' l' m' h4 h6 (by rw [d1]; exact hl') (by rw [d2]; exact hm') r he
            refine ⟨?_, fun hr nn => ?_⟩
            · simp only [Op.eqFields, ne_eq, h2, not_false_eq_true, if_true, Sem.run_bind, p1, Result.andThen_ok, p2, q1, Bool.not_true, Bool.false_eq_true, if_false, r1]
            · obtain ⟨s1, s2⟩ := r2 hr nn
              rw [d1, d2] at s1 s2
              refine ⟨by simp only [List.length_cons, s1], ?_⟩
              simp only [List.zip_cons_cons, List.all_cons, q3 rfl nn, Bool.true_and]
              exact s2
          · rename_i hab
            cases he
            obtain ⟨q1, q2, q3⟩ := leaf_equal (w := w) h3 ha hb h5 hab d
            refine ⟨?_, fun hr => by cases hr⟩
            simp only [Op.eqFields, ne_eq, h2, not_false_eq_true, if_true, Sem.run_bind, p1, Result.andThen_ok, p2, q1, Bool.not_false, Sem.run_pure]
          · cases he

theorem key_equal {t : TypeId} {kk : KK} (hk : kkOf P t = some kk) {a b : AV} {ca cb : Value} (ha : RelV φ a ca) (hb : RelV φ b cb) (hf : fitsKK kk a = true) {r : Bool} (he : keyEq a b = some r) :
    (Op.equal t ca cb).run P w = .ok r w ∧ ((∃ k, kk = .leaf k) → ∀ td, P.underlying t = some td → Instr.sameNow td ca cb = some r) ∧ (r = true → Instr.sameBits 10000 cb ca = true) := by
  unfold kkOf at hk
  split at hk
  · rename_i k hk0
    cases hk
    have hle : leafEq a b = some r := by
      unfold keyEq at he
      split at he
      · simp only [fitsKK] at hf
        cases k <;> simp [fits0] at hf
      · exact he
    obtain ⟨q1, q2, q3⟩ := leaf_equal (w := w) hk0 ha hb hf hle 9999
    exact ⟨q1, fun _ => q2, fun hr => q3 hr 10000⟩
  · split at hk
    · rename_i ks hs
      cases hk
      obtain ⟨fs, hu, s1, s2, s3⟩ := struct_type hs
      cases a <;> simp [fitsKK] at hf
      rename_i l
      cases b <;> simp only [keyEq, leafEq] at he <;> try (cases he; done)
      rename_i m
      cases ha with
      | agg hl =>
        cases hb with
        | agg hm =>
          rename_i cl cm
          have hfo : P.underlying t = some (.struct (P.fieldsOf t)) := by rw [hu]; simp [Program.fieldsOf, hu]
          have hfs : P.fieldsOf t = fs := by simp [Program.fieldsOf, hu]
          obtain ⟨r1, r2⟩ := leaves_fields (d := 9998) (P := P) (w := w) fs.toList 0 ks l m s3 hf (by simpa using hl) (by simpa using hm) r he
          refine ⟨?_, (fun ⟨k, hk⟩ => by cases hk), fun hr => ?_⟩
          · have := run_equalIn_agg (P := P) w 9999 t ⟨cl⟩ ⟨cm⟩ hfo s1
            rw [hfs] at this
            exact this.trans r1
          · obtain ⟨z1, z2⟩ := r2 hr 9999
            simp only [List.drop_zero] at z1 z2
            simp only [Instr.sameBits, List.size_toArray, z1, beq_self_eq_true, Bool.true_and]
            exact z2
    · cases hk

theorem check_fields {cl : List Value} {em : Bool} {d : Nat} : ∀ (fs : List Field) (n : Nat) (ks : List K0) (l : List AV), k0sOf P n fs = some ks → fits0s ks l = true → RelVs φ l (cl.drop n) →
      (forIn fs PUnit.unit fun (f : Field) (_ : PUnit) => (if f.name ≠ "_" then (do Instr.checkKey em (d + 1) f.type (← part f.type ⟨cl⟩ f.offset); Pure.pure (ForInStep.yield PUnit.unit)) else Pure.pure (ForInStep.yield PUnit.unit) : Sem (ForInStep PUnit))).run P w = .ok PUnit.unit w
  | [], n, ks, l, _, _, _ => by simp
  | f :: fs, n, ks, l, hk, hf, hl => by
    obtain ⟨k, ks', h1, h2, h3, h4, rfl⟩ := k0s_cons hk
    obtain ⟨a, l', rfl, h5, h6⟩ := fits0s_cons hf
    generalize hcl : cl.drop n = cl' at hl
    cases hl with
    | cons ha hl' =>
      rename_i ca cl2
      have g1 : cl[n]? = some ca := by
        have := congrArg (fun x => x[0]?) hcl
        simpa [List.getElem?_drop] using this
      have d1 : cl.drop (n + 1) = cl2 := by rw [← List.drop_drop, hcl]; rfl
      have p1 : (part f.type ⟨cl⟩ f.offset).run P w = .ok ca w := by rw [h1]; exact run_part_leaf h3 (by simpa using g1)
      have ih := check_fields (em := em) (d := d) fs (n + 1) ks' l' h4 h6 (by rw [d1]; exact hl')
      have hck : (Instr.checkKey em (d + 1) f.type ca).run P w = .ok () w := by
        rcases k0_type h3 with ⟨i, _, hu⟩ | ⟨_, hu⟩ | ⟨_, hu⟩ <;> simp [Instr.checkKey, Sem.run_bind, run_underlying hu]
      simp only [List.forIn_cons, ne_eq, h2, not_false_eq_true, if_true, Sem.run_bind, p1, Result.andThen_ok, hck, Sem.run_pure]
      exact ih

theorem run_checkKey {t : TypeId} {kk : KK} (hk : kkOf P t = some kk) {a : AV} {ca : Value} (ha : RelV φ a ca) (hf : fitsKK kk a = true) (em : Bool) (d : Nat) : (Instr.checkKey em (d + 2) t ca).run P w = .ok () w := by
  unfold kkOf at hk
  split at hk
  · rename_i k hk0
    rcases k0_type hk0 with ⟨i, _, hu⟩ | ⟨_, hu⟩ | ⟨_, hu⟩ <;> simp [Instr.checkKey, Sem.run_bind, run_underlying hu]
  · split at hk
    · rename_i ks hs
      cases hk
      obtain ⟨fs, hu, s1, s2, s3⟩ := struct_type hs
      cases a <;> simp [fitsKK] at hf
      rename_i l
      cases ha with
      | agg hl =>
        rename_i cl
        have := check_fields (P := P) (w := w) (em := em) (d := d) fs.toList 0 ks l s3 hf (by simpa using hl)
        unfold Instr.checkKey
        simp only [Sem.run_bind, run_underlying hu, Result.andThen_ok]
        rw [← Array.forIn_toList]
        exact (congrArg (fun r => Result.andThen r fun (_ : PUnit) w' => Sem.run P (Pure.pure () : Sem Unit) w') this).trans rfl
    · cases hk

/-! ### Finding a key -/
structure Found (φ : Phi) (k : AV) (es : List (AV × AV × Nat)) (cs : List MapEntry) (v : AV) (j : Nat) (e : MapEntry) : Prop where
  ce : cs[j]? = some e
  val : RelV φ v e.val
  ent : ∃ k', es[j]? = some (k', v, e.born) ∧ keyEq k k' = some true ∧ RelV φ k' e.key
  set : ∀ x, setE k x es = es.set j (k, x, e.born)
  del : delE k es = es.eraseIdx j

theorem find_sound {t : TypeId} {kk : KK} (hk : kkOf P t = some kk) {k : AV} {ck : Value} (ha : RelV φ k ck) (hf : fitsKK kk k = true) {td : TypeDesc} (hu : P.underlying t = some td) :
    ∀ {es : List (AV × AV × Nat)} {cs : List MapEntry}, RelEs φ es cs → ∀ {r : Option AV}, findE k es = some r → ∀ i0, ∃ r', (Instr.findAsking t ck cs i0).run P w = .ok r' w ∧ ((∃ kl, kk = .leaf kl) → Instr.findNow td ck cs i0 = some r') ∧
      ((r = none ∧ r' = none) ∨ ∃ v j e, r = some v ∧ r' = some (i0 + j, e.val) ∧ Found φ k es cs v j e)
  | _, _, .nil, r, he, i0 => by
    simp [findE] at he; subst he
    exact ⟨none, by simp [Instr.findAsking], fun _ => by simp [Instr.findNow], .inl ⟨rfl, rfl⟩⟩
  | _, _, .cons (k := k') (v := v') (b := b) (l := l) (e := e) (m := m) hk' hv' hb ht, r, he, i0 => by
    simp only [findE] at he
    split at he
    · rename_i hkeq
      cases he
      obtain ⟨q1, q2, _⟩ := key_equal (w := w) hk ha hk' hf hkeq
      refine ⟨some (i0, e.val), ?_, fun hl => ?_, .inr ⟨v', 0, e, rfl, rfl, ⟨by simp, hv', ⟨k', by simp [hb], hkeq, hk'⟩, fun x => by simp [setE, hkeq, hb], by simp [delE, hkeq]⟩⟩⟩
      · simp only [Instr.findAsking, Sem.run_bind, q1, Result.andThen_ok, if_true, Sem.run_pure]
      · simp only [Instr.findNow, q2 hl td hu]
    · rename_i hkeq
      obtain ⟨q1, q2, _⟩ := key_equal (w := w) hk ha hk' hf hkeq
      obtain ⟨r', f1, f2, f3⟩ := find_sound hk ha hf hu ht he (i0 + 1)
      refine ⟨r', ?_, fun hl => ?_, ?_⟩
      · simp only [Instr.findAsking, Sem.run_bind, q1, Result.andThen_ok, Bool.false_eq_true, if_false, f1]
      · simp only [Instr.findNow, q2 hl td hu, f2 hl]
      · rcases f3 with h0 | ⟨v, j, e2, g1, g2, g3⟩
        · exact .inl h0
        · refine .inr ⟨v, j + 1, e2, g1, by rw [g2]; congr 2; omega, ?_⟩
          obtain ⟨k2, z1, z2, z3⟩ := g3.ent
          exact ⟨by simpa using g3.ce, g3.val, ⟨k2, by simpa using z1, z2, z3⟩, fun x => by simp [setE, hkeq, g3.set x], by simp [delE, hkeq, g3.del]⟩
    · cases he

theorem findKey_sound {t : TypeId} {kk : KK} (hk : kkOf P t = some kk) {k : AV} {ck : Value} (ha : RelV φ k ck) (hf : fitsKK kk k = true) {es : List (AV × AV × Nat)} {cs : List MapEntry} (hr : RelEs φ es cs) {r : Option AV} (he : findE k es = some r) :
    ∃ r', (Instr.findKey t ck cs).run P w = .ok r' w ∧ ((r = none ∧ r' = none) ∨ ∃ v j e, r = some v ∧ r' = some (j, e.val) ∧ Found φ k es cs v j e) := by
  have hu : ∃ td, P.underlying t = some td ∧ ((∃ kl, kk = .leaf kl) ∨ ∃ fs, td = .struct fs) := by
    unfold kkOf at hk
    split at hk
    · rename_i k0 hk0
      cases hk
      rcases k0_type hk0 with ⟨i, _, hu⟩ | ⟨_, hu⟩ | ⟨_, hu⟩ <;> exact ⟨_, hu, .inl ⟨_, rfl⟩⟩
    · split at hk
      · rename_i ks hs
        cases hk
        obtain ⟨fs, hu, _⟩ := struct_type hs
        exact ⟨_, hu, .inr ⟨fs, rfl⟩⟩
      · cases hk
  obtain ⟨td, hu, hkind⟩ := hu
  obtain ⟨r', f1, f2, f3⟩ := find_sound (w := w) hk ha hf hu hr he 0
  refine ⟨r', ?_, ?_⟩
  · unfold Instr.findKey
    simp only [Sem.run_bind, run_underlying hu, Result.andThen_ok]
    rcases hkind with hl | ⟨fs, rfl⟩
    · rw [f2 hl]; rfl
    · cases hr with
      | nil =>
        simp [findE] at he; subst he
        rcases f3 with ⟨_, rfl⟩ | ⟨v, j, e, g1, _⟩
        · simp [Instr.findNow]
        · cases g1
      | cons =>
        have : ∀ (e : MapEntry) (l : List MapEntry), Instr.findNow (.struct fs) ck (e :: l) 0 = none := by
          intro e l
          simp [Instr.findNow, Instr.sameNow]
        rw [this]
        exact f1
  · rcases f3 with h0 | ⟨v, j, e, g1, g2, g3⟩
    · exact .inl h0
    · exact .inr ⟨v, j, e, g1, by simpa using g2, g3⟩

theorem RelEs.set {φ : Phi} {l : List (AV × AV × Nat)} {m : List MapEntry} (hr : RelEs φ l m) : ∀ (j : Nat) {k v : AV} {b : Nat} {e : MapEntry}, RelV φ k e.key → RelV φ v e.val → e.born = b → RelEs φ (l.set j (k, v, b)) (m.set j e) := by
  induction hr with
  | nil => intro j k v b e _ _ _; simp; exact .nil
  | cons h1 h2 h3 ht ih =>
    intro j k v b e g1 g2 g3
    cases j with
    | zero => simp; exact .cons g1 g2 g3 ht
    | succ j => simp; exact .cons h1 h2 h3 (ih j g1 g2 g3)

theorem RelEs.eraseIdx {φ : Phi} {l : List (AV × AV × Nat)} {m : List MapEntry} (hr : RelEs φ l m) : ∀ (j : Nat), RelEs φ (l.eraseIdx j) (m.eraseIdx j) := by
  induction hr with
  | nil => intro j; simp; exact .nil
  | cons h1 h2 h3 ht ih =>
    intro j
    cases j with
    | zero => simp; exact ht
    | succ j => simp; exact .cons h1 h2 h3 (ih j)

theorem RelEs.append {φ : Phi} {l : List (AV × AV × Nat)} {m : List MapEntry} (hr : RelEs φ l m) {l' : List (AV × AV × Nat)} {m' : List MapEntry} (hr' : RelEs φ l' m') : RelEs φ (l ++ l') (m ++ m') := by
  induction hr with
  | nil => exact hr'
  | cons h1 h2 h3 _ ih => exact .cons h1 h2 h3 ih

theorem run_setObj_map {r : Nat} {cs : Array MapEntry} {clock : Nat} (o : Obj) (hh : w.heap[r]? = some (.map cs clock)) : (setObj r o).run P w = .ok () (w.putObj r o) := by
  unfold setObj
  simp only [Sem.run, hh]
  rfl

/-- A map's object turned. -/
theorem map_put (H : RelH P B φ h w) {id : Nat} {es es' : List (AV × AV × Nat)} {clock clock' : Nat} (hget : h.get id = some (.map es clock)) {L : Loc} (hL : φ id 0 = some L) {cs' : Array MapEntry} (hr : RelEs φ es' cs'.toList) :
    RelH P B φ (h.put id (.map es' clock')) (w.putObj L.blk (.map cs' clock')) ∧ Gw B w (w.putObj L.blk (.map cs' clock')) := by
  obtain ⟨L', cs, l1, l2, l3⟩ := H.obj id _ hget
  rw [hL] at l1; cases l1
  have hlt : L.blk < w.heap.size := H.lt id 0 L hL
  have hB : B ≤ L.blk := (H.own id _ 0 L hget hL).1 rfl
  refine ⟨H.update hget rfl rfl φ.le_refl (fun _ _ _ => rfl) (fun g K e => .inl e) (by simp) (fun k _ hk => World.putObj_heap_other (fun e => hk 0 L hL e.symm)) (NoDef.put w (fun ds e => by cases e)) ⟨L, cs', hL, World.putObj_heap_same hlt, hr⟩, ?_⟩
  exact Gw.of_block l2 hB (fun ds e => by cases e) (fun r e => by cases e) (World.putObj_heap_same hlt) (fun _ _ _ e => by cases e) (fun _ _ _ e => by cases e) (fun k hk => World.putObj_heap_other hk) (by simp) rfl rfl rfl

theorem look_sound {t kt et : TypeId} {kk : KK} {ok : Bool} {z m k : AV} {cm ck : Value} (H : RelH P B φ h w) (hu : P.underlying t = some (.map kt et)) (hk : kkOf P kt = some kk) (hz : zeroT P et = some z) (hm : RelV φ m cm) (hkv : RelV φ k ck)
    (he : lookA h kk ok z m k = some v) : ∃ cv, (Instr.lookup t cm ck ok).run P w = .ok cv w ∧ RelV φ v cv := by
  unfold lookA at he
  cases hf : fitsKK kk k with
  | false => rw [hf] at he; cases he
  | true =>
    rw [hf, cond_true] at he
    obtain ⟨zv, it, z1, z2, z3, z4⟩ := run_zeroT hz w
    have hzr : RelV φ z zv := relV_avOf z2
    have main : ∀ (es : List (AV × AV × Nat)) (cs : Array MapEntry), RelEs φ es cs.toList → (∀ (r : Option (Nat × Value)), (Instr.findKey kt ck cs.toList).run P w = .ok r w →
          (Instr.lookup t cm ck ok).run P w = .ok (match r with | some (_, x) => if ok then .tuple #[x, .bool true] else x | none => if ok then .tuple #[zv, .bool false] else zv) w) →
        (match findE k es with | some (some v) => some (bif ok then AV.tup [v, .bool true] else v) | some none => some (bif ok then AV.tup [z, .bool false] else z) | none => none) = some v →
        ∃ cv, (Instr.lookup t cm ck ok).run P w = .ok cv w ∧ RelV φ v cv := by
      intro es cs hr hrun hv
      split at hv
      · rename_i u hfe
        obtain ⟨r', g1, g2⟩ := findKey_sound (w := w) hk hkv hf hr hfe
        rcases g2 with ⟨e, _⟩ | ⟨v2, j, e, e1, e2, e3⟩
        · cases e
        · cases e1
          subst e2
          cases hv
          refine ⟨_, hrun _ g1, ?_⟩
          cases ok with
          | true => exact .tup (.cons e3.val (.cons (.bool _) .nil))
          | false => exact e3.val
      · rename_i hfe
        obtain ⟨r', g1, g2⟩ := findKey_sound (w := w) hk hkv hf hr hfe
        rcases g2 with ⟨_, rfl⟩ | ⟨v2, j, e, e1, _⟩
        · cases hv
          refine ⟨_, hrun _ g1, ?_⟩
          cases ok with
          | true => exact .tup (.cons hzr (.cons (.bool _) .nil))
          | false => exact hzr
        · cases e1
      · cases hv
    have hck : ∀ em, (Instr.checkKey em 10000 kt ck).run P w = .ok () w := fun em => run_checkKey hk hkv hf em 9998
    cases m <;> simp only [mapOf] at he <;> try (cases he; done)
    · rename_i id
      split at he
      · rename_i es c hmo
        split at hmo
        · rename_i es' c' hget
          cases hmo
          cases hm with
          | map hL =>
            obtain ⟨L', cs, l1, l2, l3⟩ := H.obj id _ hget
            rw [hL] at l1; cases l1
            refine main es cs l3 (fun r hr => ?_) he
            unfold Instr.lookup
            simp only [Sem.run_bind, run_underlying hu, Result.andThen_ok, run_getObj_map l2, Sem.run_pure, hck, hr]
            cases r with
            | none => simp [z1]
            | some x => simp
        · rename_i es' c' hget
          cases hmo
          cases hm with
          | map hL =>
            obtain ⟨L', cs, l1, l2, l3⟩ := H.obj id _ hget
            rw [hL] at l1; cases l1
            refine main es cs l3 (fun r hr => ?_) he
            unfold Instr.lookup
            simp only [Sem.run_bind, run_underlying hu, Result.andThen_ok, run_getObj_map l2, Sem.run_pure, hck, hr]
            cases r with
            | none => simp [z1]
            | some x => simp
        · cases hmo
      · cases he
    · cases hm
      refine main [] #[] .nil (fun r hr => ?_) he
      unfold Instr.lookup
      simp only [Sem.run_bind, run_underlying hu, Result.andThen_ok, Sem.run_pure, hck, hr]
      cases r with
      | none => simp [z1]
      | some x => simp

theorem mupd_sound {t kt et : TypeId} {kk : KK} {m k u : AV} {cm ck cu : Value} (H : RelH P B φ h w) (hu : P.underlying t = some (.map kt et)) (hk : kkOf P kt = some kk) (hm : RelV φ m cm) (hkv : RelV φ k ck) (huv : RelV φ u cu)
    (he : mupdA h kk m k u = some h') : SimU P B φ h' w ((Instr.mapUpdate t cm ck cu).run P w) := by
  unfold mupdA at he
  cases hf : fitsKK kk k with
  | false => rw [hf] at he; cases he
  | true =>
    rw [hf, cond_true] at he
    have hck : ∀ em, (Instr.checkKey em 10000 kt ck).run P w = .ok () w := fun em => run_checkKey hk hkv hf em 9998
    split at he
    · rename_i id
      split at he
      · rename_i es c hget
        cases hm with
        | map hL =>
          rename_i L
          obtain ⟨L', cs, l1, l2, l3⟩ := H.obj id _ hget
          rw [hL] at l1; cases l1
          split at he
          · rename_i v0 hfe
            cases he
            obtain ⟨r', g1, g2⟩ := findKey_sound (w := w) hk hkv hf l3 hfe
            rcases g2 with ⟨e, _⟩ | ⟨v2, j, e, e1, e2, e3⟩
            · cases e
            · cases e1
              subst e2
              obtain ⟨k', z1, z2, z3⟩ := e3.ent
              have hsb := (key_equal (w := w) hk hkv z3 hf z2).2.2 rfl
              have hce : cs[j]? = some e := by simpa using e3.ce
              have hstay : (Instr.keyThatStays (((cs[j]?).map (·.key)).getD ck) ck).run P w = .ok ck w := by
                simp [hce, Instr.keyThatStays, hsb]
              have hmod : (cs.modify j fun e => { e with key := ck, val := cu }).toList = cs.toList.set j { e with key := ck, val := cu } := by
                apply List.ext_getElem?
                intro i
                rw [List.getElem?_set]
                by_cases hij : j = i
                · subst hij
                  have hlt : j < cs.toList.length := by simpa using (Array.getElem?_eq_some_iff.1 hce).1
                  rw [if_pos rfl, if_pos hlt, Array.getElem?_toList, Array.getElem?_modify, if_pos rfl, hce]
                  rfl
                · rw [if_neg hij, Array.getElem?_toList, Array.getElem?_modify, if_neg hij, Array.getElem?_toList]
              have hrel : RelEs φ (setE k u es) (cs.modify j fun e => { e with key := ck, val := cu }).toList := by
                rw [hmod, e3.set u]
                exact l3.set j hkv huv rfl
              obtain ⟨m1, m2⟩ := map_put (clock' := c) H hget hL hrel
              refine ⟨_, φ, ?_, m1, φ.le_refl, m2⟩
              unfold Instr.mapUpdate
              simp only [Sem.run_bind, run_underlying hu, Result.andThen_ok, run_getObj_map l2, hck, g1, hstay, run_setObj_map _ l2]
          · rename_i hfe
            cases he
            obtain ⟨r', g1, g2⟩ := findKey_sound (w := w) hk hkv hf l3 hfe
            rcases g2 with ⟨_, rfl⟩ | ⟨v2, j, e, e1, _⟩
            · have hrel : RelEs φ (es ++ [(k, u, c)]) (cs.push { key := ck, val := cu, born := c }).toList := by
                rw [Array.toList_push]
                exact l3.append (.cons hkv huv rfl .nil)
              obtain ⟨m1, m2⟩ := map_put (clock' := c + 1) H hget hL hrel
              refine ⟨_, φ, ?_, m1, φ.le_refl, m2⟩
              unfold Instr.mapUpdate
              simp only [Sem.run_bind, run_underlying hu, Result.andThen_ok, run_getObj_map l2, hck, g1, run_setObj_map _ l2]
            · cases e1
          · cases he
      · cases he
    · cases he

theorem putObj_self {L : Nat} {o : Obj} (hh : w.heap[L]? = some o) : w.putObj L o = w := by
  unfold World.putObj
  obtain ⟨hlt, hv⟩ := Array.getElem?_eq_some_iff.1 hh
  cases w with
  | mk heap tape drawn os output =>
    congr 1
    apply Array.ext_getElem?
    intro i
    by_cases hi : L = i
    · subst hi
      simp only at hh hlt ⊢
      rw [hh]; simp [hlt]
    · exact Array.getElem?_setIfInBounds_ne hi

theorem del_sound {t kt et ty t2 : TypeId} {kk : KK} {m k : AV} {cm ck : Value} (H : RelH P B φ h w) (hu : P.underlying t = some (.map kt et)) (hk : kkOf P kt = some kk) (hm : RelV φ m cm) (hkv : RelV φ k ck)
    (he : delA h kk m k = some h') : ∃ w', (Builtin.delete_ #[t, t2] ty #[cm, ck]).run P w = .ok (.tuple #[]) w' ∧ RelH P B φ h' w' ∧ Gw B w w' := by
  unfold delA at he
  cases hf : fitsKK kk k with
  | false => rw [hf] at he; cases he
  | true =>
    rw [hf, cond_true] at he
    have hck : ∀ em, (Instr.checkKey em 10000 kt ck).run P w = .ok () w := fun em => run_checkKey hk hkv hf em 9998
    split at he
    · cases he; cases hm
      refine ⟨w, ?_, H, Gw.refl B w⟩
      simp only [Builtin.delete_, List.getElem?_toArray, List.getElem?_cons_zero, List.getElem?_cons_succ, Sem.run_bind, run_underlying hu, Result.andThen_ok, hck, Sem.run_pure]
    · rename_i id
      split at he
      · rename_i es c hget
        cases hm with
        | map hL =>
          rename_i L
          obtain ⟨L', cs, l1, l2, l3⟩ := H.obj id _ hget
          rw [hL] at l1; cases l1
          split at he
          · rename_i v0 hfe
            cases he
            obtain ⟨r', g1, g2⟩ := findKey_sound (w := w) hk hkv hf l3 hfe
            rcases g2 with ⟨e, _⟩ | ⟨v2, j, e, e1, e2, e3⟩
            · cases e
            · cases e1
              subst e2
              have hce : cs[j]? = some e := by simpa using e3.ce
              have hlt : j < cs.size := (Array.getElem?_eq_some_iff.1 hce).1
              have hrel : RelEs φ (delE k es) (cs.eraseIdxIfInBounds j).toList := by
                rw [e3.del]
                have : (cs.eraseIdxIfInBounds j).toList = cs.toList.eraseIdx j := by
                  rw [Array.eraseIdxIfInBounds, dif_pos hlt]; simp
                rw [this]
                exact l3.eraseIdx j
              obtain ⟨m1, m2⟩ := map_put (clock' := c) H hget hL hrel
              refine ⟨_, ?_, m1, m2⟩
              simp only [Builtin.delete_, List.getElem?_toArray, List.getElem?_cons_zero, List.getElem?_cons_succ, Sem.run_bind, run_underlying hu, Result.andThen_ok, run_getObj_map l2, hck, g1, run_setObj_map _ l2, Sem.run_pure]
          · rename_i hfe
            cases he
            obtain ⟨r', g1, g2⟩ := findKey_sound (w := w) hk hkv hf l3 hfe
            rcases g2 with ⟨_, rfl⟩ | ⟨v2, j, e, e1, _⟩
            · refine ⟨w, ?_, H, Gw.refl B w⟩
              simp only [Builtin.delete_, List.getElem?_toArray, List.getElem?_cons_zero, List.getElem?_cons_succ, Sem.run_bind, run_underlying hu, Result.andThen_ok, run_getObj_map l2, hck, g1, run_setObj_map _ l2, Sem.run_pure, putObj_self l2]
            · cases e1
          · cases he
      · cases he
    · cases he

end
end Go.Ab
