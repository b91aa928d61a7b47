/-
  Equality; walks over a map; every operation but a call: 'evalA_sound'.
-/
import Derived.Test.YtgmdelacokkenaaGreatDoorAbOps4
namespace Go.Ab
set_option linter.unusedSimpArgs false
set_option linter.unusedVariables false

section
variable {P : Program} {B : Base} {φ : Phi} {h h' : AHeap} {w : World} {v : AV}

theorem own_cells {id : Nat} {r : Row} (H : RelH P B φ h w) (hr : h.row id = some r) (hrw : r.rw = true) {L : Loc} (hL : φ id r.g = some L) : ∃ c t, w.heap[L.blk]? = some (.cells c t (0, 0)) := by
  have hrow : RelRow φ id r w := H.obj id _ (AHeap.row_some.1 hr)
  obtain ⟨_, c, t, h1, _⟩ := hrow.own hrw r.g L hrow.mg hL
  exact ⟨c, t, h1⟩

theorem run_sameAddr_apart {a b : Addr} {c d : Array Value} {t u : TypeId} (ha : w.heap[a.block]? = some (.cells c t (0, 0))) (hb : w.heap[b.block]? = some (.cells d u (0, 0))) (hne : a.block ≠ b.block) : (sameAddr a b).run P w = .ok false w := by
  have hne' : (a.block == b.block) = false := by simp [hne]
  have f1 : ∀ o, w.frozen? ⟨a.block, o, none⟩ = false := fun o => by simp [World.frozen?, ha]
  have f2 : ∀ o, w.frozen? ⟨b.block, o, none⟩ = false := fun o => by simp [World.frozen?, hb]
  have g1 : w.frozen? a = false := by simp [World.frozen?, ha]
  have g2 : w.frozen? b = false := by simp [World.frozen?, hb]
  have s1 : w.shape? a.block = some (t, c.size) := by simp [World.shape?, ha]
  have s2 : w.shape? b.block = some (u, d.size) := by simp [World.shape?, hb]
  simp [sameAddr, hne', Sem.run_bind, g1, g2, noView, viewAt, s1, s2, mayBeOne, stringish, f1, f2]

theorem equal_of {t : TypeId} {cx cy : Value} {s : Sem Bool} (hh : ∀ d, (Op.equalIn (d + 1) t cx cy).run P w = s.run P w) : (Op.equal t cx cy).run P w = s.run P w := hh 9999
theorem equal_ok {t : TypeId} {cx cy : Value} {r : Bool} (hh : ∀ d, (Op.equalIn (d + 1) t cx cy).run P w = .ok r w) : (Op.equal t cx cy).run P w = .ok r w := hh 9999

theorem eq_main {op : BinOp} {neg : Bool} (hop : (op = .eql ∧ neg = false) ∨ (op = .neq ∧ neg = true)) {t : TypeId} {cx cy : Value} {r : Bool} (ox oy : Operand) (hg : (eqGuard op t ox oy cx cy).run P w = .ok () w)
    (h1 : ∀ (k : IntKind) (n : Int), cx ≠ .int k n) (h2 : ∀ k n, cx ≠ .float k n) (h3 : ∀ k a b, cx ≠ .complex k a b) (h4 : ∀ s, cx ≠ .string s) (he : (Op.equal t cx cy).run P w = .ok r w) :
    (do eqGuard op t ox oy cx cy; binOp op t cx cy : Sem Value).run P w = .ok (.bool (bif neg then !r else r)) w := by
  have hb1 : binOp .eql t cx cy = (do Pure.pure (.bool (← Op.equal t cx cy))) := by
    cases cx <;> first | rfl | exact absurd rfl (h1 _ _) | exact absurd rfl (h2 _ _) | exact absurd rfl (h3 _ _ _) | exact absurd rfl (h4 _)
  have hb2 : binOp .neq t cx cy = (do Pure.pure (.bool (!(← Op.equal t cx cy)))) := by
    cases cx <;> first | rfl | exact absurd rfl (h1 _ _) | exact absurd rfl (h2 _ _) | exact absurd rfl (h3 _ _ _) | exact absurd rfl (h4 _)
  rcases hop with ⟨rfl, rfl⟩ | ⟨rfl, rfl⟩
  · simp [Sem.run_bind, hg, hb1, he]
  · simp [Sem.run_bind, hg, hb2, he]

theorem guard_plain {op : BinOp} {t : TypeId} {cx cy : Value} (ox oy : Operand) (h1 : ∀ a, cx ≠ .agg a) (h2 : cx ≠ .nilIface) : (eqGuard op t ox oy cx cy).run P w = .ok () w := by
  unfold eqGuard
  cases op <;> simp
  all_goals
    cases cx <;> first | rfl | exact absurd rfl (h1 _) | exact absurd rfl h2

theorem guard_ifn {op : BinOp} {t : TypeId} {cx cy : Value} (ox oy : Operand) (hco : okIfn .ifn ox oy = true) (h1 : ∀ a, cx ≠ .agg a) : (eqGuard op t ox oy cx cy).run P w = .ok () w := by
  have hc : ((ox matches .const _) || (oy matches .const _)) = true := by
    cases ox <;> cases oy <;> first | rfl | cases hco
  unfold eqGuard
  cases op <;> simp
  all_goals
    cases cx <;> first | rfl | exact absurd rfl (h1 _) | skip
  all_goals
    cases cy <;> first | rfl | (simp only [hc]; rfl) | (cases ox <;> cases oy <;> first | rfl | cases hco)

theorem eqPtr_sound {t e : TypeId} {n : Nat} {x y : AV} {cx cy : Value} (H : RelH P B φ h w) (hu : P.underlying t = some (.pointer e)) (hs : sizeT P e = some (n + 1)) (hx : RelV φ x cx) (hy : RelV φ y cy) {r : Bool} (he : eqPtr h x y = some r) :
    (Op.equal t cx cy).run P w = .ok r w ∧ ∃ p, cx = .pointer p := by
  unfold eqPtr at he
  split at he
  · cases he; cases hx; cases hy
    exact ⟨equal_ok fun d => by simp [Op.equalIn, run_underlying hu], _, rfl⟩
  · cases he; cases hx; cases hy
    exact ⟨equal_ok fun d => by simp [Op.equalIn, run_underlying hu], _, rfl⟩
  · cases he; cases hx; cases hy
    exact ⟨equal_ok fun d => by simp [Op.equalIn, run_underlying hu], _, rfl⟩
  · rename_i id g i o id' g' i' o'
    cases hx with
    | ptr hL hi =>
      rename_i L
      cases hy with
      | ptr hL' hi' =>
        rename_i L'
        refine ⟨?_, _, rfl⟩
        have hred : (Op.equal t (.pointer (some ⟨L.blk, L.base + i * L.sz + o, none⟩)) (.pointer (some ⟨L'.blk, L'.base + i' * L'.sz + o', none⟩))).run P w = (sameAddr ⟨L.blk, L.base + i * L.sz + o, none⟩ ⟨L'.blk, L'.base + i' * L'.sz + o', none⟩).run P w :=
          equal_of fun d => by simp [Op.equalIn, run_underlying hu, run_sizeT hs]
        rw [hred]
        cases hid : Nat.beq id id' with
        | true =>
          rw [hid, cond_true] at he
          have := nbeq_true.1 hid; subst this
          split at he
          · rename_i rw hrow
            cases hc : (Nat.beq g rw.g && Nat.beq g' rw.g && Nat.blt o rw.sz && Nat.blt o' rw.sz) with
            | false => rw [hc] at he; cases he
            | true =>
              rw [hc, cond_true] at he; cases he
              simp only [Bool.and_eq_true, nbeq_true, nblt_true] at hc
              obtain ⟨⟨⟨rfl, rfl⟩, c3⟩, c4⟩ := hc
              rw [hL] at hL'; cases hL'
              have hr : RelRow φ id rw w := H.obj id _ (AHeap.row_some.1 hrow)
              have hsz : L.sz = rw.sz := (hr.gen _ L hL).2
              have hbb : (L.blk == L.blk) = true := by simp
              simp only [sameAddr, hbb, if_true, Sem.run_pure]
              congr 1
              rw [Bool.eq_iff_iff]
              simp only [beq_iff_eq, Addr.mk.injEq, true_and, and_true, Bool.and_eq_true, nbeq_true, hsz]
              constructor
              · intro e
                have e2 : i * rw.sz + o = i' * rw.sz + o' := by omega
                have d1 : (i * rw.sz + o) / rw.sz = i := by rw [Nat.mul_comm, Nat.mul_add_div hr.sz, Nat.div_eq_of_lt c3, Nat.add_zero]
                have d2 : (i' * rw.sz + o') / rw.sz = i' := by rw [Nat.mul_comm, Nat.mul_add_div hr.sz, Nat.div_eq_of_lt c4, Nat.add_zero]
                have : i = i' := by rw [← d1, ← d2, e2]
                subst this
                exact ⟨rfl, by omega⟩
              · rintro ⟨rfl, rfl⟩; rfl
          · cases he
        | false =>
          rw [hid, cond_false] at he
          have hid := nbeq_false.1 hid
          split at he
          · rename_i r1 r2 hr1 hr2
            cases hc : (r1.rw && r2.rw && Nat.beq g r1.g && Nat.beq g' r2.g) with
            | false => rw [hc] at he; cases he
            | true =>
              rw [hc, cond_true] at he; cases he
              simp only [Bool.and_eq_true, nbeq_true] at hc
              obtain ⟨⟨⟨c1, c2⟩, rfl⟩, rfl⟩ := hc
              obtain ⟨c, tt, q1⟩ := own_cells H hr1 c1 hL
              obtain ⟨d, uu, q2⟩ := own_cells H hr2 c2 hL'
              exact run_sameAddr_apart q1 q2 (fun e => hid (H.disj id _ id' _ _ L L' (AHeap.row_some.1 hr1) c1 hL hL' e))
          · cases he
  · cases he

theorem eqKX_spec {t : TypeId} {x y : Operand} {k : EqK} (h : eqKX P t x y = some k) : eqKOf P t = some k ∧ okIfn k x y = true := by
  unfold eqKX at h
  split at h
  · rename_i k' hk
    cases ho : okIfn k' x y with
    | true => rw [ho, cond_true] at h; cases h; exact ⟨hk, ho⟩
    | false => rw [ho] at h; cases h
  · cases h

theorem eq_sound {op : BinOp} {neg : Bool} (hop : (op = .eql ∧ neg = false) ∨ (op = .neq ∧ neg = true)) {t : TypeId} {k : EqK} {x y : AV} {cx cy : Value} (H : RelH P B φ h w) (hk : eqKOf P t = some k) (hx : RelV φ x cx) (hy : RelV φ y cy) {r : Bool} (he : eqA h k x y = some r) (ox oy : Operand) (hco : okIfn k ox oy = true) :
    (do eqGuard op t ox oy cx cy; binOp op t cx cy : Sem Value).run P w = .ok (.bool (bif neg then !r else r)) w := by
  unfold eqKOf at hk
  split at hk
  · rename_i hu
    cases hk
    simp only [eqA, eqBool] at he
    split at he
    · cases he; cases hx; cases hy
      exact eq_main hop ox oy (guard_plain ox oy (by simp) (by simp)) (by simp) (by simp) (by simp) (by simp) (run_equal_bool w t _ _ hu)
    · cases he
  · rename_i e hu
    split at hk
    · rename_i n hs
      cases hk
      simp only [eqA] at he
      obtain ⟨h1, p, rfl⟩ := eqPtr_sound H hu hs hx hy he
      exact eq_main hop ox oy (guard_plain ox oy (by simp) (by simp)) (by simp) (by simp) (by simp) (by simp) h1
    · cases hk
  · rename_i e hu
    cases hk
    simp only [eqA, eqSlc] at he
    split at he
    · cases he; cases hx; cases hy
      exact eq_main hop ox oy (guard_plain ox oy (by simp) (by simp)) (by simp) (by simp) (by simp) (by simp) (equal_ok fun d => by simp [Op.equalIn, run_underlying hu])
    · cases he; cases hx; cases hy
      exact eq_main hop ox oy (guard_plain ox oy (by simp) (by simp)) (by simp) (by simp) (by simp) (by simp) (equal_ok fun d => by simp [Op.equalIn, run_underlying hu])
    · cases he; cases hx; cases hy
      exact eq_main hop ox oy (guard_plain ox oy (by simp) (by simp)) (by simp) (by simp) (by simp) (by simp) (equal_ok fun d => by simp [Op.equalIn, run_underlying hu])
    · cases he; cases hx; cases hy
      exact eq_main hop ox oy (guard_plain ox oy (by simp) (by simp)) (by simp) (by simp) (by simp) (by simp) (equal_ok fun d => by simp [Op.equalIn, run_underlying hu])
    · cases he; cases hx; cases hy
      exact eq_main hop ox oy (guard_plain ox oy (by simp) (by simp)) (by simp) (by simp) (by simp) (by simp) (equal_ok fun d => by simp [Op.equalIn, run_underlying hu])
    · cases he
  · rename_i e f hu
    cases hk
    simp only [eqA, eqMap] at he
    split at he
    · cases he; cases hx; cases hy
      exact eq_main hop ox oy (guard_plain ox oy (by simp) (by simp)) (by simp) (by simp) (by simp) (by simp) (equal_ok fun d => by simp [Op.equalIn, run_underlying hu])
    · cases he; cases hx; cases hy
      exact eq_main hop ox oy (guard_plain ox oy (by simp) (by simp)) (by simp) (by simp) (by simp) (by simp) (equal_ok fun d => by simp [Op.equalIn, run_underlying hu])
    · cases he; cases hx; cases hy
      exact eq_main hop ox oy (guard_plain ox oy (by simp) (by simp)) (by simp) (by simp) (by simp) (by simp) (equal_ok fun d => by simp [Op.equalIn, run_underlying hu])
    · cases he
  · rename_i e f g hu
    cases hk
    simp only [eqA, eqFn] at he
    split at he
    · cases he; cases hx; cases hy
      exact eq_main hop ox oy (guard_plain ox oy (by simp) (by simp)) (by simp) (by simp) (by simp) (by simp) (equal_ok fun d => by simp [Op.equalIn, run_underlying hu])
    · cases he; cases hy
      cases hx <;> exact eq_main hop ox oy (guard_plain ox oy (by simp) (by simp)) (by simp) (by simp) (by simp) (by simp) (equal_ok fun d => by simp [Op.equalIn, run_underlying hu])
    · cases he; cases hx
      cases hy <;> exact eq_main hop ox oy (guard_plain ox oy (by simp) (by simp)) (by simp) (by simp) (by simp) (by simp) (equal_ok fun d => by simp [Op.equalIn, run_underlying hu])
    · cases he
  · rename_i ms hu
    cases hk
    simp only [eqA, eqIfn] at he
    split at he
    · cases he; cases hx; cases hy
      exact eq_main hop ox oy (guard_ifn ox oy hco (by simp)) (by simp) (by simp) (by simp) (by simp) (equal_ok fun d => by simp [Op.equalIn, run_underlying hu])
    · cases he; cases hx; cases hy
      exact eq_main hop ox oy (guard_ifn ox oy hco (by simp)) (by simp) (by simp) (by simp) (by simp) (equal_ok fun d => by simp [Op.equalIn, run_underlying hu])
    · cases he; cases hx; cases hy
      exact eq_main hop ox oy (guard_ifn ox oy hco (by simp)) (by simp) (by simp) (by simp) (by simp) (equal_ok fun d => by simp [Op.equalIn, run_underlying hu])
    · cases he
  · rename_i fs hu
    split at hk
    · rename_i ks hs
      cases hk
      obtain ⟨fs', hu', s1, s2, s3⟩ := struct_type hs
      simp only [eqA, eqAgg] at he
      split at he
      · rename_i l m
        cases hf : fits0s ks l with
        | false => rw [hf] at he; cases he
        | true =>
          rw [hf, cond_true] at he
          have hkk : kkOf P t = some (.st ks) := by
            unfold kkOf
            have : k0Of P t = none := by unfold k0Of; rw [hu]
            rw [this, hs]
          have := (key_equal (w := w) hkk hx hy (by simpa [fitsKK] using hf) (by simpa [keyEq] using he)).1
          cases hx; cases hy
          exact eq_main hop ox oy (run_eqGuard_agg w _ _ _ _ _ _ s2) (by simp) (by simp) (by simp) (by simp) this
      · cases he
    · cases hk
  · cases hk

/-! ### Walks over a map -/
theorem rng_sound {t kt et : TypeId} {x : AV} {cx : Value} (H : RelH P B φ h w) (hu : P.underlying t = some (.map kt et)) (hx : RelV φ x cx) (he : rngA h x = some (v, h')) : SimV P B φ h' v w ((Instr.range t cx).run P w) := by
  unfold rngA at he
  split at he
  · cases he; cases hx
    have hle := Phi.le_add (φ := φ) (id := h.sz) (g := 0) ⟨w.heap.size, 0, 0, 0, 0⟩ (H.fresh 0)
    have hp := H.push (o := .iter none 0 [] 0) rfl (L := ⟨w.heap.size, 0, 0, 0, 0⟩) (ob := .mapIter none 0 #[] 0) rfl (fun ds e => by cases e) ⟨_, Phi.add_same _ _ _ _, none, heap_alloc_new w _, rfl⟩
    exact ⟨_, _, _, by simp [Instr.range, run_underlying hu], .itr (Phi.add_same _ _ _ _), hp, hle, Gw.alloc H.base (fun _ _ _ e => by cases e)⟩
  · rename_i id
    split at he
    · rename_i es c hget
      cases he
      cases hx with
      | map hL =>
        rename_i L
        obtain ⟨L', cs, l1, l2, l3⟩ := H.obj id _ hget
        rw [hL] at l1; cases l1
        have hle := Phi.le_add (φ := φ) (id := h.sz) (g := 0) ⟨w.heap.size, 0, 0, 0, 0⟩ (H.fresh 0)
        have hp := H.push (o := .iter (some id) c [] c) rfl (L := ⟨w.heap.size, 0, 0, 0, 0⟩) (ob := .mapIter (some L.blk) c #[] c) rfl (fun ds e => by cases e) ⟨_, Phi.add_same _ _ _ _, some L.blk, heap_alloc_new w _, ⟨L, hle _ _ _ hL, rfl⟩⟩
        exact ⟨_, _, _, by simp [Instr.range, run_underlying hu, run_getObj_map l2], .itr (Phi.add_same _ _ _ _), hp, hle, Gw.alloc H.base (fun _ _ _ e => by cases e)⟩
    · cases he
  · cases he

theorem run_getObj_iter {r : Nat} {m : Option Nat} {s : Nat} {seen : Array Nat} {st : Nat} (hh : w.heap[r]? = some (.mapIter m s seen st)) : (getObj r).run P w = .ok (.mapIter m s seen st) w := by
  unfold getObj
  simp only [Sem.run, hh]

theorem findBorn_sound {b : Nat} : ∀ {es : List (AV × AV × Nat)} {cs : List MapEntry}, RelEs φ es cs → ∀ {e : AV × AV × Nat}, findBorn b es = some e → ∃ ce, cs.find? (·.born == b) = some ce ∧ RelV φ e.1 ce.key ∧ RelV φ e.2.1 ce.val ∧ ce.born = e.2.2
  | _, _, .nil, e, he => by simp [findBorn] at he
  | _, _, .cons (b := b') (e := ce) hk hv hb ht, e, he => by
    simp only [findBorn] at he
    cases hc : Nat.beq b' b with
    | true =>
      rw [hc, cond_true] at he; cases he
      have := nbeq_true.1 hc; subst this
      exact ⟨ce, by simp [List.find?, hb], hk, hv, hb⟩
    | false =>
      rw [hc, cond_false] at he
      obtain ⟨ce', h1, h2⟩ := findBorn_sound ht he
      refine ⟨ce', ?_, h2⟩
      have : (ce.born == b) = false := by rw [hb]; simpa using nbeq_false.1 hc
      simp [List.find?, this, h1]

theorem ent_sound {x : AV} {cx : Value} (H : RelH P B φ h w) (hx : RelV φ x cx) (he : entA h x = some v) : ∃ cv, (Instr.entry cx).run P w = .ok cv w ∧ RelV φ v cv := by
  unfold entA at he
  split at he
  · rename_i id
    split at he
    · rename_i m since b seen stepped hget
      split at he
      · rename_i es clock hgm
        cases hc : Nat.beq clock stepped with
        | false => rw [hc] at he; cases he
        | true =>
          rw [hc, cond_true] at he
          have := nbeq_true.1 hc; subst this
          split at he
          · rename_i e hfb
            cases he
            cases hx with
            | itr hL =>
              rename_i L
              obtain ⟨L', l1, cm, l2, l3⟩ := H.obj id _ hget
              rw [hL] at l1; cases l1
              obtain ⟨Lm, l4, rfl⟩ := l3
              obtain ⟨Lm', cs, m1, m2, m3⟩ := H.obj m _ hgm
              rw [l4] at m1; cases m1
              obtain ⟨ce, f1, f2, f3, f4⟩ := findBorn_sound m3 hfb
              refine ⟨.tuple #[ce.key, ce.val], ?_, .tup (.cons f2 (.cons f3 .nil))⟩
              have hb : (b :: seen).reverse.toArray.back? = some b := by simp
              have hf : cs.find? (·.born == b) = some ce := by rw [← Array.find?_toList]; exact f1
              unfold Instr.entry
              simp only [Sem.run_bind, run_getObj_iter l2, Result.andThen_ok, hb, run_getObj_map m2]
              simp [hf]
          · cases he
      · cases he
    · cases he
  · cases he

theorem RelEs.filter {φ : Phi} {l : List (AV × AV × Nat)} {m : List MapEntry} (hr : RelEs φ l m) (p : Nat → Bool) : RelEs φ (l.filter fun e => p e.2.2) (m.filter fun e => p e.born) := by
  induction hr with
  | nil => exact .nil
  | cons h1 h2 h3 ht ih =>
    rename_i b _ e _
    simp only [List.filter_cons, h3]
    split
    · exact .cons h1 h2 h3 ih
    · exact ih

theorem RelEs.get {φ : Phi} {l : List (AV × AV × Nat)} {m : List MapEntry} (hr : RelEs φ l m) : ∀ {j : Nat} {e : MapEntry}, m[j]? = some e → ∃ k v, l[j]? = some (k, v, e.born) ∧ RelV φ k e.key ∧ RelV φ v e.val := by
  induction hr with
  | nil => intro j e he; simp at he
  | cons h1 h2 h3 ht ih =>
    intro j e he
    cases j with
    | zero => simp at he; subst he; exact ⟨_, _, by simp [h3], h1, h2⟩
    | succ j => simp at he; obtain ⟨k, v, a, b⟩ := ih he; exact ⟨k, v, by simpa using a, b⟩

theorem memN_eq (n : Nat) : ∀ l : List Nat, memN n l = l.contains n
  | [] => rfl
  | m :: l => by
    simp only [memN, List.contains_cons, memN_eq n l]
    cases hc : Nat.beq n m with
    | true => have := nbeq_true.1 hc; subst this; simp
    | false => have := nbeq_false.1 hc; simp [this]

theorem nblt_eq (a b : Nat) : Nat.blt a b = decide (a < b) := by rw [Bool.eq_iff_iff, nblt_true]; simp

/-- One step of a walk: whichever entry the model draws, the abstract machine has asked at it. -/
theorem next_sound {ty : TypeId} {x : AV} {cx : Value} {K : Kont} (H : RelH P B φ h w) (hx : RelV φ x cx) (hn : nextA h x K = true) : ∃ v h', K v h' = true ∧ SimV P B φ h' v w ((Instr.next cx false ty).run P w) := by
  unfold nextA at hn
  split at hn
  · rename_i id
    split at hn
    · rename_i s1 s2 s3 hget
      cases hx with
      | itr hL =>
        rename_i L
        obtain ⟨L', l1, cm, l2, l3⟩ := H.obj id _ hget
        rw [hL] at l1; cases l1
        subst l3
        refine ⟨_, _, hn, SimV.pure H (cv := .tuple #[.bool false]) ?_ (.tup (.cons (.bool _) .nil))⟩
        simp [Instr.next, Sem.run_bind, run_getObj_iter l2]
    · rename_i m since seen last hget
      split at hn
      · rename_i es clock hgm
        cases hx with
        | itr hL =>
          rename_i L
          obtain ⟨L', l1, cm, l2, l3⟩ := H.obj id _ hget
          rw [hL] at l1; cases l1
          obtain ⟨Lm, l4, rfl⟩ := l3
          obtain ⟨Lm', cs, m1, m2, m3⟩ := H.obj m _ hgm
          rw [l4] at m1; cases m1
          have hlen := m3.length
          simp only [Array.length_toList] at hlen
          cases hc : (!seen.isEmpty && !es.isEmpty && es.all (fun e => !Nat.blt e.2.2 last)) with
          | true => rw [hc] at hn; cases hn
          | false =>
            rw [hc, cond_false] at hn
            have hcond : (!(seen.reverse.toArray).isEmpty && !cs.isEmpty && cs.all (fun e => decide (e.born ≥ last))) = false := by
              have e1 : (seen.reverse.toArray).isEmpty = seen.isEmpty := by cases seen <;> simp
              have e2 : cs.isEmpty = es.isEmpty := by
                rw [Bool.eq_iff_iff, Array.isEmpty_iff_size_eq_zero, List.isEmpty_iff_length_eq_zero, hlen]
              have e3 : cs.all (fun e => decide (e.born ≥ last)) = es.all (fun e => !Nat.blt e.2.2 last) := by
                rw [← Array.all_toList]
                have gen : ∀ {l : List (AV × AV × Nat)} {mm : List MapEntry}, RelEs φ l mm → mm.all (fun e => decide (e.born ≥ last)) = l.all (fun e => !Nat.blt e.2.2 last) := by
                  intro l mm hh
                  induction hh with
                  | nil => rfl
                  | cons h1 h2 h3 _ ih =>
                    simp only [List.all_cons, ih, h3]
                    congr 1
                    rw [nblt_eq, Bool.eq_iff_iff]; simp
                exact gen m3
              rw [e1, e2, e3]; exact hc
            -- the candidates
            have hleft := m3.filter (fun b => !memN b seen)
            have hold := hleft.filter (fun b => Nat.blt b since)
            have hnew := hleft.filter (fun b => !Nat.blt b since)
            have c1 : (cs.filter fun e => !(seen.reverse.toArray).contains e.born).toList = cs.toList.filter (fun e => !memN e.born seen) := by
              rw [Array.toList_filter]
              congr 1
              funext e
              rw [memN_eq]
              simp
            have c2 : ((cs.filter fun e => !(seen.reverse.toArray).contains e.born).filter (fun e => decide (e.born < since))).toList = (cs.toList.filter (fun e => !memN e.born seen)).filter (fun e => Nat.blt e.born since) := by
              rw [Array.toList_filter, c1]
              congr 1
              funext e
              rw [nblt_eq]
            have c3 : ((cs.filter fun e => !(seen.reverse.toArray).contains e.born).filter (fun e => decide (e.born ≥ since))).toList = (cs.toList.filter (fun e => !memN e.born seen)).filter (fun e => !Nat.blt e.born since) := by
              rw [Array.toList_filter, c1]
              congr 1
              funext e
              rw [nblt_eq]
              rw [Bool.eq_iff_iff]; simp
            generalize hO : ((cs.filter fun e => !(seen.reverse.toArray).contains e.born).filter (fun e => decide (e.born < since))) = O at c2
            generalize hN : ((cs.filter fun e => !(seen.reverse.toArray).contains e.born).filter (fun e => decide (e.born ≥ since))) = N at c3
            rw [← c2] at hold
            rw [← c3] at hnew
            generalize hCd : (if O.isEmpty then #[none] else #[]) ++ (O ++ N).map some = Cd
            have hCdl : Cd.toList = (if O.toList = [] then [none] else []) ++ (O.toList ++ N.toList).map some := by
              rw [← hCd]
              by_cases hO0 : O = #[]
              · subst hO0; simp
              · have : O.toList ≠ [] := by simpa using hO0
                simp [this, hO0]
            have hpos : 0 < Cd.size := by
              have hl : Cd.size = Cd.toList.length := by simp
              rw [hl, hCdl]
              by_cases hO0 : O.toList = []
              · simp [hO0]
              · have := List.length_pos_iff.2 hO0
                simp [hO0]; simp at this; omega
            -- the draw
            have hdraw : ∃ i w1, i < Cd.size ∧ (choose (.mapNext Cd.size)).run P w = .ok i w1 ∧ w1.heap = w.heap ∧ Gw B w w1 := by
              by_cases hf : (Question.mapNext Cd.size).forced = true
              · exact ⟨0, w, hpos, by simp [choose, Sem.run, hf], rfl, Gw.refl B w⟩
              · exact ⟨_, w.drew, Nat.mod_lt (w.tape w.drawn (.mapNext Cd.size)) hpos, by simp [choose, Sem.run, hf, Question.cut], rfl, Gw.drew B w⟩
            obtain ⟨i, w1, hi, hch, hw1, hgw⟩ := hdraw
            have H1 := H.heap hw1
            have hget : ∃ c, Cd.toList[i]? = some c := ⟨_, List.getElem?_eq_getElem (by simpa using hi)⟩
            obtain ⟨c, hcget⟩ := hget
            have hcget' : Cd[i]? = some c := by simpa using hcget
            have habs : ∀ cand, cand ∈ cands es since seen → (match cand with | none => K (.tup [.bool false]) h | some e => K (.tup [.bool true, e.1, e.2.1]) (h.put id (.iter (some m) since (e.2.2 :: seen) clock))) = true := by
              intro cand hmem
              have := List.all_eq_true.1 hn cand hmem
              cases cand <;> exact this
            have hrunto : ∀ (rest : Option (Option MapEntry) → Sem Value), (Instr.next (.pointer (some ⟨L.blk, 0, none⟩)) false ty).run P w = (match Cd[i]? with
                | some (some e) => (do setObj L.blk (.mapIter (some Lm.blk) since ((seen.reverse.toArray).push e.born) clock); Pure.pure (.tuple #[.bool true, e.key, e.val]) : Sem Value).run P w1
                | some none => .ok (.tuple #[.bool false]) w1
                | none => (stuck "Next: no such candidate" : Sem Value).run P w1) := by
              intro _
              unfold Instr.next
              simp only [Sem.run_bind, run_getObj_iter l2, Result.andThen_ok, run_getObj_map m2, hcond, Bool.false_eq_true, if_false]
              rw [hO, hN, hCd, hch]
              simp only [Result.andThen_ok]
              cases Cd[i]? with
              | none => rfl
              | some o =>
                cases o with
                | none => rfl
                | some e => simp only [Sem.run_bind]
            have hrun := hrunto (fun _ => stuck "")
            rw [hcget'] at hrun
            cases c with
            | none =>
              have hmem : none ∈ cands es since seen := by
                have : (none : Option MapEntry) ∈ Cd.toList := List.mem_of_getElem? hcget
                rw [hCdl] at this
                have hO0 : O.toList = [] := by
                  rcases List.mem_append.1 this with h1 | h1
                  · by_cases hO0 : O.toList = []
                    · exact hO0
                    · simp [hO0] at h1
                  · simp at h1
                have : ((es.filter fun e => !memN e.2.2 seen).filter fun e => Nat.blt e.2.2 since) = [] := by
                  have := hold.length
                  rw [hO0] at this
                  exact List.length_eq_zero_iff.1 this
                unfold cands
                simp only [this]
                simp
              exact ⟨_, _, habs none hmem, _, w1, φ, hrun, .tup (.cons (.bool _) .nil), H1, φ.le_refl, hgw⟩
            | some e =>
              have hmem : ∃ k u, (some (k, u, e.born)) ∈ cands es since seen ∧ RelV φ k e.key ∧ RelV φ u e.val := by
                have : (some e : Option MapEntry) ∈ Cd.toList := List.mem_of_getElem? hcget
                rw [hCdl] at this
                have hin : e ∈ O.toList ++ N.toList := by
                  rcases List.mem_append.1 this with h1 | h1
                  · by_cases hO0 : O.toList = []
                    · simp [hO0] at h1
                    · simp [hO0] at h1
                  · simpa using h1
                have hcat := hold.append hnew
                obtain ⟨j, hj⟩ := List.getElem?_of_mem hin
                obtain ⟨k, u, g1, g2, g3⟩ := hcat.get hj
                refine ⟨k, u, ?_, g2, g3⟩
                unfold cands
                exact List.mem_append_right _ (List.mem_map.2 ⟨_, List.mem_of_getElem? g1, rfl⟩)
              obtain ⟨k, u, g1, g2, g3⟩ := hmem
              have hk := habs _ g1
              have hblk : L.blk < w1.heap.size := H1.lt id 0 L hL
              have l2' : w1.heap[L.blk]? = some (.mapIter (some Lm.blk) since seen.reverse.toArray last) := by rw [hw1]; exact l2
              have hset : (setObj L.blk (.mapIter (some Lm.blk) since ((seen.reverse.toArray).push e.born) clock)).run P w1 = .ok () (w1.putObj L.blk (.mapIter (some Lm.blk) since ((seen.reverse.toArray).push e.born) clock)) := by
                unfold setObj
                simp only [Sem.run, l2']
                rfl
              have hB : B ≤ L.blk := (H.own id _ 0 L hget hL).1 rfl
              have hseen : ((seen.reverse.toArray).push e.born) = (e.born :: seen).reverse.toArray := by
                apply Array.ext'; simp
              have hobj : RelO P φ id (.iter (some m) since (e.born :: seen) clock) (w1.putObj L.blk (.mapIter (some Lm.blk) since ((seen.reverse.toArray).push e.born) clock)) :=
                ⟨L, hL, some Lm.blk, by rw [← hseen]; exact World.putObj_heap_same hblk, ⟨Lm, l4, rfl⟩⟩
              refine ⟨_, _, hk, .tuple #[.bool true, e.key, e.val], w1.putObj L.blk (.mapIter (some Lm.blk) since ((seen.reverse.toArray).push e.born) clock), φ, hrun.trans (by simp only [Sem.run_bind, hset, Result.andThen_ok, Sem.run_pure]), .tup (.cons (.bool _) (.cons g2 (.cons g3 .nil))), ?_, φ.le_refl, hgw.trans ?_⟩
              · exact H1.update hget rfl rfl φ.le_refl (fun _ _ _ => rfl) (fun g K' e' => .inl e') (by simp) (fun k' _ hk' => World.putObj_heap_other (fun e' => hk' 0 L hL e'.symm)) (NoDef.put w1 (fun ds e' => by cases e')) hobj
              · exact Gw.of_block l2' hB (fun ds e' => by cases e') (fun r e' => by cases e') (World.putObj_heap_same hblk) (fun _ _ _ e' => by cases e') (fun _ _ _ e' => by cases e') (fun k' hk' => World.putObj_heap_other hk') (by simp) rfl rfl rfl
      · cases hn
    · cases hn
  · cases hn

end
end Go.Ab
