/-
  A region that draws its order: whatever the order, it comes out as planned.
-/
import Derived.Test.YtbamgdknkhhikaaAbFill
namespace Go.Ab
set_option linter.unusedSimpArgs false
set_option linter.unusedVariables false

/-! ### What an operation waits for -/
theorem maskOf_spec {ms : List Nat} {i : Nat} : ∀ {l : List Edge}, (maskOf ms l).testBit i = true → ∃ e ∈ l, Region.binds .any e = true ∧ (e.on = i ∨ (mk ms e.on).testBit i = true)
  | [], k => by simp [maskOf] at k
  | e :: l, k => by
    simp only [maskOf] at k
    cases hb : Region.binds .any e with
    | false =>
      rw [hb] at k
      obtain ⟨e', h1, h2⟩ := maskOf_spec (show (maskOf ms l).testBit i = true from k)
      exact ⟨e', List.mem_cons_of_mem _ h1, h2⟩
    | true =>
      rw [hb, cond_true, Nat.testBit_or, Nat.testBit_or, Bool.or_eq_true, Bool.or_eq_true] at k
      rcases k with (k | k) | k
      · obtain ⟨e', h1, h2⟩ := maskOf_spec k
        exact ⟨e', List.mem_cons_of_mem _ h1, h2⟩
      · rw [Nat.testBit_two_pow] at k
        exact ⟨e, List.mem_cons_self, hb, .inl (by simpa using k)⟩
      · exact ⟨e, List.mem_cons_self, hb, .inr k⟩

def MaskOk (ops : List Oper) (ms : List Nat) : Prop := ∀ j i, (mk ms j).testBit i = true → ∃ o, ops[j]? = some o ∧ ∃ e ∈ o.after, Region.binds .any e = true ∧ (e.on = i ∨ (mk ms e.on).testBit i = true)

theorem mk_append {ms : List Nat} {x j : Nat} (h : j < ms.length) : mk (ms ++ [x]) j = mk ms j := by
  simp only [mk, nth_eq]; rw [List.getElem?_append_left h]

theorem mk_none {ms : List Nat} {j : Nat} (h : ms.length ≤ j) : mk ms j = 0 := by
  simp only [mk, nth_eq]; rw [List.getElem?_eq_none h]; rfl

theorem masks_spec : ∀ (l pre : List Oper) (ms : List Nat), ms.length = pre.length → MaskOk pre ms → MaskOk (pre ++ l) (masks l ms)
  | [], pre, ms, hl, hm => by simpa [masks] using hm
  | o :: l, pre, ms, hl, hm => by
    have := masks_spec l (pre ++ [o]) (ms ++ [maskOf ms o.after.toList]) (by simp [hl]) (by
      intro j i hj
      have lift : ∀ e : Edge, (mk ms e.on).testBit i = true → (mk (ms ++ [maskOf ms o.after.toList]) e.on).testBit i = true := by
        intro e he
        by_cases hlt : e.on < ms.length
        · rw [mk_append hlt]; exact he
        · rw [mk_none (Nat.le_of_not_lt hlt)] at he; simp at he
      by_cases hlt : j < ms.length
      · rw [mk_append hlt] at hj
        obtain ⟨o', h1, e, h2, h3, h4⟩ := hm j i hj
        exact ⟨o', by rw [List.getElem?_append_left (by omega)]; exact h1, e, h2, h3, h4.imp_right (lift e)⟩
      · by_cases heq : j = ms.length
        · subst heq
          have hx : mk (ms ++ [maskOf ms o.after.toList]) ms.length = maskOf ms o.after.toList := by simp [mk, nth_eq]
          rw [hx] at hj
          obtain ⟨e, h2, h3, h4⟩ := maskOf_spec hj
          exact ⟨o, by rw [hl]; simp, e, by simpa using h2, h3, h4.imp_right (lift e)⟩
        · rw [mk_none (by simp; omega)] at hj; simp at hj)
    simpa [masks] using this

theorem masks_ok (l : List Oper) : MaskOk l (masks l []) := by
  have := masks_spec l [] [] rfl (by intro j i hj; rw [mk_none (by simp)] at hj; simp at hj)
  simpa using this

theorem edgesOk_spec : ∀ {l : List Oper} {n : Nat}, edgesOk n l = true → ∀ j o, l[j]? = some o → ∀ e ∈ o.after, Region.binds .any e = true → e.on < n + j
  | [], _, _, j, o, hj, _, _, _ => by simp at hj
  | x :: l, n, k, j, o, hj, e, he, hb => by
    simp only [edgesOk, Bool.and_eq_true] at k
    cases j with
    | zero =>
      simp at hj; subst hj
      have := List.all_eq_true.1 k.1 e (by simpa using he)
      rw [hb] at this
      simpa using this
    | succ j =>
      have := edgesOk_spec k.2 j o (by simpa using hj) e he hb
      omega

section
variable {P : Program} {B B0 : Base} {N n : Nat} {ops : Array Oper} {as : List AOper} {ms el : List Nat} {call : CallFn}

abbrev Listed (s : Array Bool) (i : Nat) : Prop := s.getD i false = true

theorem ready_waits (hm : MaskOk ops.toList ms) {s : Array Bool} (hs : ∀ j i, Listed s j → (mk ms j).testBit i = true → Listed s i) {j : Nat} (hr : j ∈ Region.ready .any ops s) :
    ∀ i, (mk ms j).testBit i = true → Listed s i := by
  intro i hi
  obtain ⟨_, o, ho, hall⟩ := mem_ready.1 hr
  obtain ⟨o', h1, e, h2, h3, h4⟩ := hm j i hi
  have : o' = o := by
    rw [Array.getElem?_toList, ho] at h1
    exact (Option.some.inj h1).symm
  subst this
  have hl := hall e h2 h3
  rcases h4 with rfl | h4
  · exact hl
  · exact hs _ _ hl h4

theorem ready_not {s : Array Bool} {j : Nat} (hr : j ∈ Region.ready .any ops s) : ¬ Listed s j ∧ j < ops.size ∧ j < s.size := by
  obtain ⟨h0, o, ho, _⟩ := mem_ready.1 hr
  have hsz : j < s.size := by
    rcases Nat.lt_or_ge j s.size with h | h
    · exact h
    · simp [Array.getElem?_eq_none h] at h0
  refine ⟨?_, (Array.getElem?_eq_some_iff.1 ho).1, hsz⟩
  intro hl
  simp [Listed, hsz] at hl h0
  rw [hl] at h0; cases h0

theorem listed_set {s : Array Bool} {i j : Nat} (hi : i < s.size) : Listed (s.setIfInBounds i true) j ↔ (j = i ∨ Listed s j) := by
  by_cases h : j = i
  · subst h; simp [Listed, hi]
  · unfold Listed; rw [getD_set_ne false (Ne.symm h)]; simp [h]

/-- Where none may come, all have come. -/
theorem none_ready (he : edgesOk 0 ops.toList = true) {s : Array Bool} (hsz : s.size = ops.size) (hr : Region.ready .any ops s = []) : ∀ m j, j < m → j < ops.size → Listed s j := by
  intro m
  induction m with
  | zero => intro j h; omega
  | succ m ih =>
    intro j hj hlt
    by_cases hl : Listed s j
    · exact hl
    · exfalso
      have : j ∈ Region.ready .any ops s := by
        refine mem_ready.2 ⟨?_, ops[j], by simp [hlt], ?_⟩
        · simp [Listed, hsz, hlt] at hl ⊢; exact hl
        · intro e hem hb
          have hlt2 := edgesOk_spec he j ops[j] (by simp [hlt]) e hem hb
          exact ih e.on (by omega) (by omega)
      rw [hr] at this; cases this

/-! ### What has been reckoned ahead -/
/-- The operation, carried out now, would leave what is there. -/
def Fact (ρ : Regs) (h : AHeap) (o : AOper) : Prop :=
  ∃ b, wantedA ρ o.grd = some b ∧ ∃ v, (b = true → evalA ρ h o.op = some (v, h)) ∧ (b = false → v = .tup []) ∧ ∀ d, o.dst = some d → ρ.get d = some v

theorem Fact.agree {ρ ρ' : Regs} {h : AHeap} {o : AOper} (k : Fact ρ h o) (h1 : AgreeO ρ ρ' (looks o)) (h2 : AgreeO ρ ρ' (dsts o)) : Fact ρ' h o := by
  obtain ⟨b, hb, v, e1, e2, e3⟩ := k
  refine ⟨b, by rw [← looks_grd h1]; exact hb, v, fun t => by rw [← evalA_agree (looks_op h1)]; exact e1 t, e2, fun d hd => ?_⟩
  rw [← h2 d (mem_dsts.2 hd)]; exact e3 d hd

theorem agree_put {ρ : Regs} {d : Option Nat} {v : AV} {l : List Nat} (k : ∀ t, d = some t → t ∉ l) : AgreeO ρ (put ρ d v) l := by
  intro t ht
  rw [put_get (fun e => k t e ht)]

theorem agree_dsts {ρ : Regs} {o : AOper} {v : AV} {l : List Nat} (k : disjN (dsts o) l = true) : AgreeO ρ (put ρ o.dst v) l :=
  agree_put fun t ht => disjN_iff.1 k t (mem_dsts.2 ht)

theorem AgreeO.trans {ρ ρ' ρ'' : Regs} {l : List Nat} (h : AgreeO ρ ρ' l) (k : AgreeO ρ' ρ'' l) : AgreeO ρ ρ'' l := fun t ht => (h t ht).trans (k t ht)

/-- Reckoning ahead touches what those reckoned leave, alone; and each says what it left. -/
theorem calcA_spec : ∀ {l : List Nat} {ρ ρ2 : Regs} {h : AHeap}, calcA (l.map (ao as)) ρ h = some ρ2 → orderOk as l = true →
    (∀ L, (∀ j ∈ l, disjN (dsts (ao as j)) L = true) → AgreeO ρ ρ2 L) ∧ ∀ i ∈ l, clsOf (ao as i).op < 2 ∧ Fact ρ2 h (ao as i)
  | [], ρ, ρ2, h, hc, _ => by
    simp [calcA] at hc; subst hc
    exact ⟨fun _ _ _ _ => rfl, fun i hi => by cases hi⟩
  | i :: l, ρ, ρ2, h, hc, ho => by
    simp only [orderOk] at ho
    cases hg : disjN (dsts (ao as i)) (looks (ao as i)) && Nat.blt (clsOf (ao as i).op) 2 && allN l (apartA as i) with
    | false => rw [hg] at ho; cases ho
    | true =>
      rw [hg, cond_true] at ho
      simp only [Bool.and_eq_true] at hg
      obtain ⟨⟨g1, g2⟩, g3⟩ := hg
      have hcls : clsOf (ao as i).op < 2 := nblt_true.1 g2
      have hap := allN_iff.1 g3
      have key : ∀ v, calcA (l.map (ao as)) (put ρ (ao as i).dst v) h = some ρ2 → (∀ L, (∀ j ∈ i :: l, disjN (dsts (ao as j)) L = true) → AgreeO ρ ρ2 L) ∧
          (Fact (put ρ (ao as i).dst v) h (ao as i) → ∀ j ∈ i :: l, clsOf (ao as j).op < 2 ∧ Fact ρ2 h (ao as j)) := by
        intro v hv
        obtain ⟨k1, k2⟩ := calcA_spec hv ho
        refine ⟨fun L hL => (agree_dsts (hL i List.mem_cons_self)).trans (k1 L fun j hj => hL j (List.mem_cons_of_mem _ hj)), fun hf j hj => ?_⟩
        rcases List.mem_cons.1 hj with rfl | hj
        · refine ⟨hcls, hf.agree (k1 _ fun j' hj' => ?_) (k1 _ fun j' hj' => ?_)⟩
          · have := hap j' hj'; simp only [apartA, Bool.and_eq_true] at this; exact this.1
          · have := hap j' hj'; simp only [apartA, Bool.and_eq_true] at this; exact this.2
        · exact k2 j hj
      simp only [List.map_cons, calcA] at hc
      have stay : ∀ v, AgreeO ρ (put ρ (ao as i).dst v) (looks (ao as i)) := fun v => agree_dsts g1
      split at hc
      · rename_i hw
        split at hc
        · rename_i v h' hv
          obtain ⟨k1, k2⟩ := key v hc
          refine ⟨k1, k2 ⟨true, by rw [← looks_grd (stay v)]; exact hw, v, fun _ => ?_, fun e => (by cases e), fun d hd => (by rw [hd]; exact put_same)⟩⟩
          rw [← evalA_agree (looks_op (stay v)), hv, evalA_keeps hcls hv]
        · cases hc
      · rename_i hw
        obtain ⟨k1, k2⟩ := key _ hc
        exact ⟨k1, k2 ⟨false, by rw [← looks_grd (stay _)]; exact hw, .tup [], fun e => (by cases e), fun _ => rfl, fun d hd => by rw [hd]; exact put_same⟩⟩
      · cases hc

/-- Said again at another heap. -/
theorem Fact.again {ρ : Regs} {h g : AHeap} {o : AOper} (k : Fact ρ h o) (hc : clsOf o.op < 2) (ha : againOne ρ g o = true) : Fact ρ g o := by
  obtain ⟨b, hb, v, e1, e2, e3⟩ := k
  cases b with
  | false => exact ⟨false, hb, v, fun t => (by cases t), e2, e3⟩
  | true =>
    unfold againOne at ha
    rw [hb] at ha
    simp only at ha
    split at ha
    · rename_i u h' hu
      have := evalA_keeps hc hu
      subst this
      split at ha
      · rename_i d hd
        rw [e3 d hd] at ha
        simp only at ha
        exact ⟨true, hb, v, fun t => by rw [hu, same_eq _ _ ha], e2, e3⟩
      · rename_i hd
        exact ⟨true, hb, u, fun t => hu, fun e => (by cases e), fun d hd' => (by rw [hd] at hd'; cases hd')⟩
    · cases ha

theorem again_spec {ρ : Regs} {h : AHeap} : ∀ {l : List Nat}, again ρ h (l.map (ao as)) = true → ∀ i ∈ l, againOne ρ h (ao as i) = true
  | [], _, _, hi => by cases hi
  | j :: l, k, i, hi => by
    simp only [List.map_cons, again] at k
    cases hb : againOne ρ h (ao as j) with
    | false => rw [hb] at k; cases k
    | true =>
      rw [hb, cond_true] at k
      rcases List.mem_cons.1 hi with rfl | hi
      · exact hb
      · exact again_spec k i hi

theorem Fact.blind {ρ : Regs} {h g : AHeap} {o : AOper} (k : Fact ρ h o) (hc : clsOf o.op = 0) : Fact ρ g o := by
  obtain ⟨b, hb, v, e1, e2, e3⟩ := k
  exact ⟨b, hb, v, fun t => evalA_blind hc (e1 t), e2, e3⟩

/-! ### The order drawn -/
def opsOf (as : List AOper) (pl : Plan) : List (AOper × List AOper × List AOper) := pl.map fun (a, c, l) => (ao as a, c.map (ao as), l.map (ao as))

theorem bif_true {c x : Bool} (k : (bif c then x else false) = true) : c = true ∧ x = true := by
  cases c with
  | false => cases k
  | true => exact ⟨rfl, k⟩

theorem planOk_cons {seen : List Nat} {a : Nat} {chk ns : List Nat} {rest : Plan} (k : planOk as ms el seen ((a, chk, ns) :: rest) = true) :
    a ∉ seen ∧ orderOk as ns = true ∧ (∀ i ∈ ns, (mk ms i).testBit a = true) ∧
    (∀ i ∈ seen, ((mk ms a).testBit i = true ∧ a ∉ el) ∨ (disjN (dsts (ao as a)) (looks (ao as i)) = true ∧ disjN (dsts (ao as a)) (dsts (ao as i)) = true) ∧ (∀ j ∈ ns, disjN (dsts (ao as j)) (looks (ao as i)) = true ∧ disjN (dsts (ao as j)) (dsts (ao as i)) = true) ∧ (clsOf (ao as i).op = 0 ∨ clsOf (ao as i).op = 2 ∨ i ∈ chk)) ∧
    (∀ b ∈ rest.map (·.1), (mk ms b).testBit a = true ∨ a ∈ el) ∧ planOk as ms el (seen ++ a :: ns) rest = true ∧
    (a ∈ el → disjN (dsts (ao as a)) (looks (ao as a)) = true ∧ ∀ j ∈ ns, disjN (dsts (ao as j)) (looks (ao as a)) = true ∧ disjN (dsts (ao as j)) (dsts (ao as a)) = true) := by
  unfold planOk at k
  obtain ⟨hg, k⟩ := bif_true k
  simp only [Bool.and_eq_true] at hg
  obtain ⟨⟨⟨⟨⟨g1, g2⟩, g3⟩, g4⟩, g5⟩, g6⟩ := hg
  refine ⟨fun hm => ?_, g2, allN_iff.1 g3, fun i hi => ?_, fun b hb => ?_, k, fun hm => ?_⟩
  · rw [memN_iff.2 hm] at g1; cases g1
  · have := allN_iff.1 g4 i hi
    simp only [Bool.or_eq_true, Bool.and_eq_true] at this
    refine this.imp (fun ⟨t1, t2⟩ => ⟨t1, fun hm => ?_⟩) fun ⟨⟨t1, t2⟩, t3⟩ => ⟨?_, fun j hj => ?_, ?_⟩
    · rw [memN_iff.2 hm] at t2; cases t2
    · simpa [apartA] using t1
    · have := allN_iff.1 t2 j hj; simpa [apartA] using this
    · rcases t3 with (t3 | t3) | t3
      · exact .inl (nbeq_true.1 t3)
      · exact .inr (.inl (nbeq_true.1 t3))
      · exact .inr (.inr (memN_iff.1 t3))
  · have := allN_iff.1 g5 b hb
    simp only [Bool.or_eq_true] at this
    exact this.imp_right memN_iff.1
  · rw [memN_iff.2 hm] at g6
    simp only [Bool.not_true, Bool.false_or, Bool.and_eq_true] at g6
    refine ⟨g6.1, fun j hj => ?_⟩
    have := allN_iff.1 g6.2 j hj; simpa [apartA] using this

theorem planOk_fresh : ∀ {pl : Plan} {seen : List Nat}, planOk as ms el seen pl = true → ∀ b ∈ pl.map (·.1), b ∉ seen
  | [], _, _, b, hb => by cases hb
  | (a, chk, ns) :: rest, seen, k, b, hb => by
    obtain ⟨h1, _, _, _, _, h6, _⟩ := planOk_cons k
    rcases List.mem_cons.1 hb with rfl | hb
    · exact h1
    · intro hm
      exact planOk_fresh h6 b hb (List.mem_append_left _ hm)

theorem planOrder_acts : ∀ {pl : Plan} {seen : List Nat}, planOk as ms el seen pl = true → ∀ i ∈ planOrder pl, i ∈ pl.map (·.1) ∨ ∃ b ∈ pl.map (·.1), (mk ms i).testBit b = true
  | [], _, _, i, hi => by cases hi
  | (a, chk, ns) :: rest, seen, k, i, hi => by
    obtain ⟨_, _, h3, _, h5, h6, _⟩ := planOk_cons k
    simp only [planOrder, List.cons_append, List.mem_cons, List.mem_append] at hi
    rcases hi with rfl | hi | hi
    · exact .inl List.mem_cons_self
    · exact .inr ⟨a, List.mem_cons_self, h3 i hi⟩
    · rcases planOrder_acts h6 i hi with h | ⟨b, hb, hbit⟩
      · exact .inl (List.mem_cons_of_mem _ h)
      · exact .inr ⟨b, List.mem_cons_of_mem _ hb, hbit⟩

/-- What came ahead of its turn, its block to come. -/
def Pend (B : Base) (ρ : Regs) (o : AOper) (id : Nat) : Prop :=
  ∃ (hp : AHeap) (v : AV) (ob : AObj), hp.sz = id ∧ o.grd = none ∧ evalA ρ hp o.op = some (v, hp.push ob) ∧ B.gh id = some ob ∧ ∀ d, o.dst = some d → ρ.get d = some v

theorem Pend.agree {ρ ρ' : Regs} {o : AOper} {id : Nat} (k : Pend B ρ o id) (h1 : AgreeO ρ ρ' (looks o)) (h2 : AgreeO ρ ρ' (dsts o)) : Pend B ρ' o id := by
  obtain ⟨hp, v, ob, e1, e2, e3, e4, e5⟩ := k
  refine ⟨hp, v, ob, e1, e2, ?_, e4, fun d hd => ?_⟩
  · rw [← evalA_agree (looks_op h1)]; exact e3
  · rw [← h2 d (mem_dsts.2 hd)]; exact e5 d hd

theorem Pend.base {B' : Base} {ρ : Regs} {o : AOper} {id : Nat} (k : Pend B ρ o id) (h : B'.gh id = B.gh id) : Pend B' ρ o id := by
  obtain ⟨hp, v, ob, e1, e2, e3, e4, e5⟩ := k
  exact ⟨hp, v, ob, e1, e2, e3, h.trans e4, e5⟩

theorem earlies_spec {i : Nat} (h : i ∈ earlies ops) : ∃ o, ops[i]? = some o ∧ earlyO o = true := by
  unfold earlies at h
  have := (List.mem_filter.1 h).2
  split at this
  · rename_i o ho; exact ⟨o, ho, this⟩
  · cases this

theorem early_cls {o : Oper} {x : AOper} (hc : compOper P N ops o = some x) (he : earlyO o = true) : clsOf x.op = 2 ∧ isCall x.op = false := by
  obtain ⟨_, _, h3, _⟩ := compOper_spec hc
  rw [h3]
  cases hop : compOp P o.op with
  | none => exact ⟨rfl, rfl⟩
  | some op =>
    simp only [Option.getD_some]
    rcases early_comp hop he with ⟨t, z, _, hz, rfl⟩ | ⟨t, x, n, y, _, _, _, rfl⟩ | ⟨t, _, rfl⟩ | ⟨t, l, c, e, sz, bytes, z, x, y, _, _, _, _, _, _, _, rfl⟩
    · cases isNoted z.cells <;> exact ⟨rfl, rfl⟩
    · exact ⟨rfl, rfl⟩
    · exact ⟨rfl, rfl⟩
    · exact ⟨rfl, rfl⟩

/-- How matters stand while a region's operations come up. -/
structure Mid (P : Program) (B0 B : Base) (N : Nat) (ops : Array Oper) (as : List AOper) (ms el : List Nat) (pe : Nat → Option Nat) (s : Array Bool) (seen : List Nat) (pl : Plan) (φ : Phi) (σ : St) (a : Act) (w : World) : Prop where
  size : s.size = ops.size
  closed : ∀ j i, Listed s j → (mk ms j).testBit i = true → Listed s i
  acts : ∀ b ∈ pl.map (·.1), ¬ Listed s b
  cover : ∀ i, i < ops.size → i ∈ seen ++ planOrder pl
  bound : ∀ i ∈ seen ++ planOrder pl, i < ops.size
  plan : planOk as ms el seen pl = true
  waits : ∀ j, j < ops.size → ∀ i ∈ seen ++ nonActs pl ++ el, ¬ Listed s i → disjN (dsts (ao as i)) (looks (ao as j)) = true ∨ (mk ms j).testBit i = true
  facts : ∀ i ∈ seen, ¬ Listed s i → (clsOf (ao as i).op < 2 ∧ Fact σ.regs σ.h (ao as i)) ∨ ∃ id, pe i = some id
  pend : ∀ i id, pe i = some id → i ∈ seen ∧ ¬ Listed s i ∧ i ∈ el ∧ Pend B σ.regs (ao as i) id
  inj : ∀ i j id, pe i = some id → pe j = some id → i = j
  same : ∀ id, (∀ i, pe i ≠ some id) → B.gh id = B0.gh id
  old : ∀ i id, pe i = some id → B0.gh id = none
  num : B.n = B0.n
  room : N ≤ a.tmps.size
  regs : ∀ d v, σ.regs.get d = some v → (∃ i ∈ seen, ¬ Listed s i ∧ (ao as i).dst = some d) ∨ ∃ cv, a.tmps[d]? = some cv ∧ RelV φ v cv
  heap : RelH P B φ σ.h w

theorem put_size (a : Act) (d : Option Tmp) (v : Value) : (a.put d v).tmps.size = a.tmps.size := by
  cases d with
  | none => rfl
  | some d => simp [Act.put]

theorem put_at {a : Act} {d : Tmp} {v : Value} (h : d < a.tmps.size) : (a.put (some d) v).tmps[d]? = some v := by simp [Act.put, h]
theorem put_off {a : Act} {d : Option Tmp} {t : Tmp} {v : Value} (h : d ≠ some t) : (a.put d v).tmps[t]? = a.tmps[t]? := by
  cases d with
  | none => rfl
  | some d => simp only [Act.put]; rw [Array.getElem?_setIfInBounds_ne (fun e => h (by rw [e]))]

theorem compOpers_get {ops0 : Array Oper} : ∀ {l : List Oper} {as : List AOper}, compOpers P N ops0 l = some as → ∀ i o, l[i]? = some o → compOper P N ops0 o = some (ao as i)
  | [], _, _, i, o, hi => by simp at hi
  | x :: l, as, hc, i, o, hi => by
    simp only [compOpers] at hc
    split at hc
    · rename_i y hy
      split at hc
      · rename_i r hr
        cases hc
        cases i with
        | zero => simp at hi; subst hi; simpa [ao, nth] using hy
        | succ i => simpa [ao, nth] using compOpers_get hr i o (by simpa using hi)
      · cases hc
    · cases hc

/-- An operation of which only what it looks at is known. -/
theorem oper_agree {r : Option Nat} {i : Nat} {o : Oper} {x : AOper} {σ : St} {ρ : Regs} {φ : Phi} {a : Act} {w : World} {K : KSt} {next : Act → World → Prop} {Q : Exit → Act → World → Prop} (hcall : CallOK P call) (hi : ops[i]? = some o) (hc : compOper P N ops o = some x)
    (hR : RelR φ N ρ a.tmps) (H : RelH P B φ σ.h w) (hag : AgreeO ρ σ.regs (looks x)) (hs : stepA call x σ K = true)
    (hnext : ∀ v h' cv φ' w', K v ⟨put σ.regs x.dst v, h'⟩ = true → RelV φ' v cv → RelH P B φ' h' w' → φ.le φ' → Gw B w w' → next (a.put x.dst cv) w') : wpOpIn (FW r) n P ops Q i next a w := by
  obtain ⟨h1, h2, h3, h4⟩ := compOper_spec hc
  unfold wpOpIn
  simp only [hi]
  unfold stepA at hs
  split at hs
  · rename_i hw
    rw [wanted_spec hc hR (by rw [looks_grd hag]; exact hw)]
    simp only [if_true]
    rw [← evalK_agree (looks_op hag)] at hs
    cases hop : compOp P o.op with
    | none => rw [hop] at h3; rw [h3] at hs; simp [evalK, evalA] at hs
    | some op =>
      rw [hop] at h3
      simp only [Option.getD_some] at h3
      rw [h3] at hs
      refine oper_wpIn (K := fun v h' => K v ⟨put σ.regs x.dst v, h'⟩) hcall hR H hop hs ?_
      intro v h' cv φ' w' hK g1 g2 g3 g4
      rw [← h1]
      exact hnext v _ _ φ' w' hK g1 g2 g3 g4
  · rename_i hw
    rw [wanted_spec hc hR (by rw [looks_grd hag]; exact hw)]
    simp only [Bool.false_eq_true, if_false]
    refine ⟨fun _ _ => trivial, ?_⟩
    rw [← h1]
    exact hnext _ _ _ φ w hs (.tup .nil) H φ.le_refl (Gw.refl B w)
  · cases hs

theorem mid_view {s : Array Bool} {seen : List Nat} {pl : Plan} {φ : Phi} {σ : St} {a : Act} {w : World} {pe : Nat → Option Nat} (M : Mid P B0 B N ops as ms el pe s seen pl φ σ a w) {i : Nat} (hi : i < ops.size) (hw : ∀ j, (mk ms i).testBit j = true → Listed s j) :
    RelR φ N (restrict σ.regs (looks (ao as i))) a.tmps := by
  refine ⟨M.room, fun t v ht => ?_⟩
  rw [restrict_get] at ht
  split at ht
  · rename_i hm
    rcases M.regs t v ht with ⟨j, hj, hnl, hd⟩ | h
    · exfalso
      rcases M.waits i hi j (List.mem_append_left _ (List.mem_append_left _ hj)) hnl with h | h
      · exact disjN_iff.1 h t (mem_dsts.2 hd) hm
      · exact hnl (hw j h)
    · exact h
  · cases ht

theorem isCall_cls {op : AOp} (h : clsOf op < 2) : isCall op = false := by cases op <;> first | rfl | (simp [clsOf] at h; done)

theorem count_set {s : Array Bool} {i : Nat} (hi : i < s.size) (hn : ¬ Listed s i) : (s.setIfInBounds i true).toList.count false < s.toList.count false := by
  have h0 : s.toList[i]'(by simpa using hi) = false := by
    simp [Listed, hi] at hn; simpa using hn
  have hpos : 0 < s.toList.count false := List.count_pos_iff.2 (by rw [← h0]; exact List.getElem_mem _)
  rw [Array.toList_setIfInBounds, List.count_set (by simpa using hi), h0, if_pos (by rfl), if_neg (by decide)]
  omega

theorem none_left {s : Array Bool} (h : s.toList.count false = 0) (hsz : s.size = ops.size) : Region.ready .any ops s = [] := by
  rw [List.eq_nil_iff_forall_not_mem]
  intro j hj
  obtain ⟨h1, h2, h3⟩ := ready_not hj
  have : false ∈ s.toList := by
    simp [Listed, h3] at h1
    rw [← h1]
    have := Array.getElem_mem_toList h3
    exact this
  have := List.count_pos_iff.2 this
  omega

/-- The plan's first comes ahead of its turn. -/
theorem ghost_step {s : Array Bool} {seen : List Nat} {b : Nat} {chk ns : List Nat} {rest : Plan} {pe : Nat → Option Nat} {φ : Phi} {σ : St} {a : Act} {w : World} {K : St → Bool} (hc : compOpers P N ops ops.toList = some as) (hel : ∀ i ∈ el, ∃ o, ops[i]? = some o ∧ earlyO o = true)
    (M : Mid P B0 B N ops as ms el pe s seen ((b, chk, ns) :: rest) φ σ a w) (hb : b ∈ el) (hrun : runD call (opsOf as ((b, chk, ns) :: rest)) σ K = true) :
    ∃ B' pe' σ', Mid P B0 B' N ops as ms el pe' s (seen ++ b :: ns) rest φ σ' a w ∧ runD call (opsOf as rest) σ' K = true := by
  obtain ⟨o, ho, he⟩ := hel b hb
  have hco := compOpers_get hc b o (by rw [Array.getElem?_toList]; exact ho)
  obtain ⟨h1, h2, h3, h4⟩ := compOper_spec hco
  have hgrd : (ao as b).grd = none := by
    rcases h4 with ⟨_, h⟩ | ⟨j, wt, g, d, hg, _⟩
    · exact h
    · rw [(early_ops he).1] at hg; cases hg
  simp only [opsOf, List.map_cons, runD, stepA, hgrd, wantedA] at hrun
  rw [evalK_plain (early_cls hco he).2] at hrun
  split at hrun
  rotate_left
  · cases hrun
  rename_i v h' hv
  obtain ⟨ob, rfl⟩ : ∃ ob, h' = σ.h.push ob := by
    cases hop : compOp P o.op with
    | none => rw [hop] at h3; rw [h3] at hv; cases hv
    | some op => rw [hop] at h3; rw [h3] at hv; exact (early_push hop he hv).2
  obtain ⟨hag, hrun⟩ := bif_true hrun
  split at hrun
  rotate_left
  · cases hrun
  rename_i ρ2 hρ2
  obtain ⟨p1, p2, p3, p4, p5, p6, p7⟩ := planOk_cons M.plan
  obtain ⟨p8, p9⟩ := p7 hb
  obtain ⟨c1, c2⟩ := calcA_spec hρ2 p2
  have hng := M.heap.noGhost
  have hbl : ¬ Listed s b := M.acts b List.mem_cons_self
  have hbse : pe b = none := by
    cases e : pe b with
    | none => rfl
    | some id => exact absurd (M.pend b id e).1 p1
  have hids : ∀ j id, pe j = some id → id ≠ σ.h.sz := by
    rintro j id hj rfl
    obtain ⟨_, _, _, hp, v', ob', _, _, _, e4, _⟩ := M.pend j _ hj
    rw [hng] at e4; cases e4
  have hpe : ∀ j id, (if j = b then some σ.h.sz else pe j) = some id → (j = b ∧ id = σ.h.sz) ∨ (j ≠ b ∧ pe j = some id) := by
    intro j id e
    by_cases hj : j = b
    · rw [if_pos hj] at e; cases e; exact .inl ⟨hj, rfl⟩
    · rw [if_neg hj] at e; exact .inr ⟨hj, e⟩
  have hfar : ∀ k ∈ seen, AgreeO σ.regs ρ2 (looks (ao as k)) ∧ AgreeO σ.regs ρ2 (dsts (ao as k)) ∧ (clsOf (ao as k).op = 0 ∨ clsOf (ao as k).op = 2 ∨ k ∈ chk) := by
    intro k hk
    rcases p4 k hk with ⟨_, h⟩ | ⟨⟨q1, q2⟩, q3, q4⟩
    · exact absurd hb h
    · exact ⟨(agree_dsts q1).trans (c1 _ fun j hj => (q3 j hj).1), (agree_dsts q2).trans (c1 _ fun j hj => (q3 j hj).2), q4⟩
  refine ⟨B.add σ.h.sz ob, fun j => if j = b then some σ.h.sz else pe j, ⟨ρ2, σ.h.push ob⟩, ⟨M.size, M.closed, fun k hk => M.acts k (List.mem_cons_of_mem _ hk), fun j hj => ?_, fun j hj => ?_, p6, fun j hj k hk hl => ?_, fun k hk hl => ?_, fun j id hj => ?_, fun j k id hj hk => ?_, fun id hid => ?_, fun j id hj => ?_, M.num, M.room, fun d u hu => ?_, M.heap.pushGhost ob⟩, hrun⟩
  · have := M.cover j hj
    simpa [planOrder] using this
  · exact M.bound j (by simpa [planOrder] using hj)
  · refine M.waits j hj k ?_ hl
    simp only [List.append_assoc, List.cons_append, List.mem_append, List.mem_cons, nonActs] at hk ⊢
    rcases hk with h | rfl | h | h | h
    · exact .inl h
    · exact .inr (.inr (.inr hb))
    · exact .inr (.inl h)
    · exact .inr (.inr (.inl h))
    · exact .inr (.inr (.inr h))
  · simp only [List.mem_append, List.mem_cons] at hk
    rcases hk with hk | rfl | hk
    · rcases M.facts k hk hl with ⟨f1, f2⟩ | ⟨id, hid⟩
      · refine .inl ⟨f1, ?_⟩
        rcases p4 k hk with ⟨_, h⟩ | ⟨⟨q1, q2⟩, q3, q4⟩
        · exact absurd hb h
        · have f3 := f2.agree (ρ' := put σ.regs (ao as b).dst v) (agree_dsts q1) (agree_dsts q2)
          have f4 : Fact (put σ.regs (ao as b).dst v) (σ.h.push ob) (ao as k) := by
            rcases q4 with q4 | q4 | q4
            · exact f3.blind q4
            · omega
            · exact f3.again f1 (again_spec hag k q4)
          exact f4.agree (c1 _ fun j hj => (q3 j hj).1) (c1 _ fun j hj => (q3 j hj).2)
      · exact .inr ⟨id, by rw [if_neg (by rintro rfl; exact p1 hk)]; exact hid⟩
    · exact .inr ⟨σ.h.sz, if_pos rfl⟩
    · exact .inl (c2 k hk)
  · rcases hpe j id hj with ⟨rfl, rfl⟩ | ⟨hjb, hj⟩
    · refine ⟨by simp, hbl, hb, σ.h, v, ob, rfl, hgrd, ?_, Base.add_same _ _ _, fun d hd => ?_⟩
      · have : AgreeO σ.regs ρ2 (looks (ao as j)) := (agree_dsts p8).trans (c1 _ fun k hk => (p9 k hk).1)
        rw [← evalA_agree (looks_op this)]; exact hv
      · have := c1 (dsts (ao as j)) (fun k hk => (p9 k hk).2) d (mem_dsts.2 hd)
        rw [← this, hd, put_same]
    · obtain ⟨k1, k2, k3, k4⟩ := M.pend j id hj
      obtain ⟨q1, q2, _⟩ := hfar j k1
      exact ⟨by simp [k1], k2, k3, (k4.agree q1 q2).base (Base.add_other _ _ (hids j id hj))⟩
  · rcases hpe j id hj with ⟨e1, e2⟩ | ⟨_, hj'⟩
    · rcases hpe k _ hk with ⟨e3, _⟩ | ⟨_, hk'⟩
      · rw [e1, e3]
      · exact absurd e2 (hids k _ hk')
    · rcases hpe k _ hk with ⟨_, e4⟩ | ⟨_, hk'⟩
      · exact absurd e4 (hids j _ hj')
      · exact M.inj j k id hj' hk'
  · have hne : id ≠ σ.h.sz := by
      rintro rfl
      exact hid b (if_pos rfl)
    rw [Base.add_other _ _ hne]
    refine M.same id fun i hi => ?_
    by_cases hib : i = b
    · subst hib; rw [hbse] at hi; cases hi
    · exact hid i (by rw [if_neg hib]; exact hi)
  · rcases hpe j id hj with ⟨rfl, rfl⟩ | ⟨hjb, hj⟩
    · rw [← M.same σ.h.sz fun i hi => hids i _ hi rfl]; exact hng
    · exact M.old j id hj
  · have hnsl : ∀ j ∈ ns, ¬ Listed s j := fun j hj hl => hbl (M.closed j b hl (p3 j hj))
    by_cases hex : ∃ j ∈ ns, (ao as j).dst = some d
    · obtain ⟨j, hj, hjd⟩ := hex
      exact .inl ⟨j, by simp [hj], hnsl j hj, hjd⟩
    · have hsame : (put σ.regs (ao as b).dst v).get d = ρ2.get d := c1 [d] (fun j hj => disjN_iff.2 fun t ht => by
        intro h
        rw [List.mem_singleton] at h
        subst h
        exact hex ⟨j, hj, mem_dsts.1 ht⟩) d (List.mem_singleton.2 rfl)
      simp only at hu
      rw [← hsame] at hu
      by_cases hd : (ao as b).dst = some d
      · exact .inl ⟨b, by simp, hbl, hd⟩
      · rw [put_get hd] at hu
        rcases M.regs d u hu with ⟨j, hj, hnj, hdj⟩ | h
        · exact .inl ⟨j, by simp [hj], hnj, hdj⟩
        · exact .inr h

/-- The plan goes on until the one that is drawn is its first. -/
theorem catch_up {s : Array Bool} {φ : Phi} {a : Act} {w : World} {K : St → Bool} {i : Nat} (hc : compOpers P N ops ops.toList = some as) (hel : ∀ i ∈ el, ∃ o, ops[i]? = some o ∧ earlyO o = true) (hw : ∀ j, (mk ms i).testBit j = true → Listed s j) :
    ∀ (pl : Plan) (seen : List Nat) (B : Base) (pe : Nat → Option Nat) (σ : St), Mid P B0 B N ops as ms el pe s seen pl φ σ a w → runD call (opsOf as pl) σ K = true → i ∈ planOrder pl →
    ∃ B' pe' seen' σ' chk ns rest, Mid P B0 B' N ops as ms el pe' s seen' ((i, chk, ns) :: rest) φ σ' a w ∧ runD call (opsOf as ((i, chk, ns) :: rest)) σ' K = true := by
  intro pl
  induction pl with
  | nil => intro seen B pe σ M hrun hi; cases hi
  | cons p rest ih =>
    obtain ⟨b, chk, ns⟩ := p
    intro seen B pe σ M hrun hi
    by_cases hib : i = b
    · subst hib
      exact ⟨B, pe, seen, σ, chk, ns, rest, M, hrun⟩
    obtain ⟨p1, p2, p3, p4, p5, p6, p7⟩ := planOk_cons M.plan
    have hbl : ¬ Listed s b := M.acts b List.mem_cons_self
    simp only [planOrder, List.cons_append, List.mem_cons, List.mem_append] at hi
    rcases hi with hi | hi | hi
    · exact absurd hi hib
    · exact absurd (hw b (p3 i hi)) hbl
    · by_cases hb : b ∈ el
      · obtain ⟨B', pe', σ', M', hrun'⟩ := ghost_step hc hel M hb hrun
        exact ih _ B' pe' σ' M' hrun' hi
      · exfalso
        rcases planOrder_acts p6 i hi with h | ⟨b', hb', hbit⟩
        · rcases p5 i h with h | h
          · exact hbl (hw b h)
          · exact hb h
        · exact M.acts b' (List.mem_cons_of_mem _ hb') (hw b' hbit)

/-- An operation that came ahead of its turn has its block. -/
theorem oper_fill {r : Option Nat} {i id : Nat} {o : Oper} {x : AOper} {ρ τ : Regs} {φ : Phi} {h : AHeap} {a : Act} {w : World} {next : Act → World → Prop} {Q : Exit → Act → World → Prop} (hi : ops[i]? = some o) (hc : compOper P N ops o = some x) (he : earlyO o = true)
    (hR : RelR φ N ρ a.tmps) (H : RelH P B φ h w) (hag : AgreeO ρ τ (looks x)) (hp : Pend B τ x id)
    (hnext : ∀ v cv φ' w', (∀ d, x.dst = some d → τ.get d = some v) → RelV φ' v cv → RelH P (B.del id) φ' h w' → φ.le φ' → Gw B w w' → next (a.put x.dst cv) w') : wpOpIn (FW r) n P ops Q i next a w := by
  obtain ⟨h1, h2, h3, h4⟩ := compOper_spec hc
  obtain ⟨hp, v, ob, rfl, e2, e3, e4, e5⟩ := hp
  unfold wpOpIn
  simp only [hi]
  rw [wanted_spec hc hR (b := true) (by rw [e2]; rfl)]
  simp only [if_true]
  rw [← evalA_agree (looks_op hag)] at e3
  cases hop : compOp P o.op with
  | none => rw [hop] at h3; rw [h3] at e3; cases e3
  | some op =>
    rw [hop] at h3
    simp only [Option.getD_some] at h3
    rw [h3] at e3
    refine lands_wpIn (B := B.del hp.sz) (φ := φ) (K := fun v' h' => @decide (v' = v ∧ h' = h) (Classical.propDecidable _)) hop (Lands.of_sim (early_fill hR H hop he e3 e4) (by simp)) ?_
    intro v' h' cv φ' w' hK g1 g2 g3 g4
    have hK := @of_decide_eq_true _ (Classical.propDecidable _) hK
    obtain ⟨rfl, rfl⟩ := hK
    rw [← h1]
    exact hnext _ cv φ' w' e5 g1 g2 g3 g4

theorem draw_sound {r : Option Nat} {Q : Exit → Act → World → Prop} (hcall : CallOK P call) (hc : compOpers P N ops ops.toList = some as) (hm : MaskOk ops.toList ms) (he : edgesOk 0 ops.toList = true) (hel : ∀ i ∈ el, ∃ o, ops[i]? = some o ∧ earlyO o = true) (K : St → Bool) :
    ∀ (fuel : Nat) (B : Base) (pe : Nat → Option Nat) (s : Array Bool) (seen : List Nat) (pl : Plan) (φ : Phi) (σ : St) (a : Act) (w : World), Mid P B0 B N ops as ms el pe s seen pl φ σ a w → runD call (opsOf as pl) σ K = true → s.toList.count false ≤ fuel →
    (∀ σ' a' w' φ', K σ' = true → At P B0 N φ' σ' a' w' → a'.defers = a.defers → φ.le φ' → Gw B0 w w' → Q .normal a' w') → wpAnyIn (FW r) n P .any ops Q fuel s a w := by
  have done : ∀ (B : Base) (pe : Nat → Option Nat) (s : Array Bool) (seen : List Nat) (pl : Plan) (φ : Phi) (σ : St) (a : Act) (w : World), Mid P B0 B N ops as ms el pe s seen pl φ σ a w → runD call (opsOf as pl) σ K = true →
      (∀ σ' a' w' φ', K σ' = true → At P B0 N φ' σ' a' w' → a'.defers = a.defers → φ.le φ' → Gw B0 w w' → Q .normal a' w') → Region.ready .any ops s = [] → Q .normal a w := by
    intro B pe s seen pl φ σ a w M hrun hQ hr
    have hall : ∀ j, j < ops.size → Listed s j := fun j hj => none_ready he M.size hr (j + 1) j (Nat.lt_succ_self j) hj
    cases pl with
    | cons p rest =>
      obtain ⟨b, c, ns⟩ := p
      exact absurd (hall b (M.bound b (by simp [planOrder]))) (M.acts b List.mem_cons_self)
    | nil =>
      simp only [opsOf, List.map_nil, runD] at hrun
      have hB : B = B0 := by
        have h1 := M.num
        have h2 : B.gh = B0.gh := by
          funext id
          refine M.same id fun i hi => ?_
          obtain ⟨k1, k2, _⟩ := M.pend i id hi
          exact k2 (hall i (M.bound i (List.mem_append_left _ k1)))
        cases B; cases B0
        simp only at h1 h2
        subst h1; subst h2; rfl
      subst hB
      refine hQ σ a w φ hrun ⟨⟨M.room, fun t v ht => ?_⟩, M.heap⟩ rfl φ.le_refl (Gw.refl B w)
      rcases M.regs t v ht with ⟨j, hj, hnl, _⟩ | h
      · exact absurd (hall j (M.bound j (List.mem_append_left _ hj))) hnl
      · exact h
  intro fuel
  induction fuel with
  | zero =>
    intro B pe s seen pl φ σ a w M hrun hcnt hQ
    have hr := none_left (ops := ops) (Nat.le_zero.1 hcnt) M.size
    exact ⟨hr, done B pe s seen pl φ σ a w M hrun hQ hr⟩
  | succ fuel ih =>
    intro B pe s seen pl φ σ a w M hrun hcnt hQ
    refine ⟨done B pe s seen pl φ σ a w M hrun hQ, fun i hi => ?_⟩
    obtain ⟨hnl, hlt, hlt'⟩ := ready_not hi
    have hw := ready_waits hm M.closed hi
    have ho : ops[i]? = some ops[i] := by simp [hlt]
    have hco := compOpers_get hc i ops[i] (by simp [hlt])
    have hdst := (compOper_spec hco)
    have hcnt' : (s.setIfInBounds i true).toList.count false ≤ fuel := by
      have := count_set hlt' hnl; omega
    have hin : ∀ d, (ao as i).dst = some d → d < a.tmps.size := by
      intro d hd
      have := hdst.2.1
      rw [← hdst.1, hd] at this
      simp only [dstOk, Nat.blt_eq] at this
      exact Nat.lt_of_lt_of_le this M.room
    have hself : ¬ (mk ms i).testBit i = true := fun h => hnl (hw i h)
    rcases List.mem_append.1 (M.cover i hlt) with hseen | hord
    · have hR := mid_view M hlt hw
      have hgw : ∀ w1 w2, Gw B w1 w2 → Gw B0 w1 w2 := fun w1 w2 g => M.num ▸ g
      have acts' : ∀ b ∈ pl.map (·.1), ¬ Listed (s.setIfInBounds i true) b := by
        intro b' hb' hl
        rw [listed_set hlt'] at hl
        rcases hl with rfl | hl
        · exact planOk_fresh M.plan b' hb' hseen
        · exact M.acts b' hb' hl
      have closed' : ∀ j k, Listed (s.setIfInBounds i true) j → (mk ms j).testBit k = true → Listed (s.setIfInBounds i true) k := by
        intro j k hj hk
        rw [listed_set hlt'] at hj ⊢
        rcases hj with rfl | hj
        · exact .inr (hw k hk)
        · exact .inr (M.closed j k hj hk)
      have regs' : ∀ (cv : Value) (v : AV) (φ' : Phi), (∀ d, (ao as i).dst = some d → σ.regs.get d = some v) → RelV φ' v cv → φ.le φ' →
          ∀ d u, σ.regs.get d = some u → (∃ j ∈ seen, ¬ Listed (s.setIfInBounds i true) j ∧ (ao as j).dst = some d) ∨ ∃ cu, (a.put (ao as i).dst cv).tmps[d]? = some cu ∧ RelV φ' u cu := by
        intro cv v φ' e3 g1 g3 d u hu
        by_cases hd : (ao as i).dst = some d
        · refine .inr ⟨cv, by rw [hd]; exact put_at (hin d hd), ?_⟩
          rw [e3 d hd] at hu
          cases hu
          exact g1
        · rcases M.regs d u hu with ⟨j, hj, hnj, hdj⟩ | ⟨cu, h1, h2⟩
          · refine .inl ⟨j, hj, fun h => ?_, hdj⟩
            rw [listed_set hlt'] at h
            rcases h with rfl | h
            · exact hd hdj
            · exact hnj h
          · exact .inr ⟨cu, by rw [put_off hd]; exact h1, h2.mono g3⟩
      rcases M.facts i hseen hnl with ⟨hcls, b, hb, v, e1, e2, e3⟩ | ⟨id, hid⟩
      · refine oper_agree (K := fun v' σ' => @decide (v' = v ∧ σ'.h = σ.h) (Classical.propDecidable _)) hcall ho hco hR M.heap restrict_agree ?_ ?_
        · unfold stepA
          rw [hb]
          cases b with
          | true =>
            simp only
            rw [evalK_plain (isCall_cls hcls), e1 rfl]
            simp
          | false =>
            simp only
            simp [e2 rfl]
        · intro v' h' cv φ' w' hK g1 g2 g3 g4
          have hK := @of_decide_eq_true _ (Classical.propDecidable _) hK
          obtain ⟨rfl, hh⟩ := hK
          simp only at hh
          subst hh
          refine ih B pe _ seen pl φ' σ _ w' ?_ hrun hcnt' ?_
          · refine ⟨by simpa using M.size, closed', acts', M.cover, M.bound, M.plan, ?_, ?_, ?_, M.inj, M.same, M.old, M.num, by rw [put_size]; exact M.room, regs' cv v' φ' e3 g1 g3, g2⟩
            · intro j hj k hk hl
              exact M.waits j hj k hk fun h => hl ((listed_set hlt').2 (.inr h))
            · intro k hk hl
              exact M.facts k hk fun h => hl ((listed_set hlt').2 (.inr h))
            · intro k id hk
              obtain ⟨k1, k2, k3, k4⟩ := M.pend k id hk
              refine ⟨k1, fun h => ?_, k3, k4⟩
              rw [listed_set hlt'] at h
              rcases h with rfl | h
              · obtain ⟨o', ho', he'⟩ := hel k k3
                have := (early_cls (compOpers_get hc k o' (by rw [Array.getElem?_toList]; exact ho')) he').1
                omega
              · exact k2 h
          · intro σ2 a2 w2 φ2 k1 k2 k3 k4 k5
            exact hQ σ2 a2 w2 φ2 k1 k2 (k3.trans (put_defers _ _ _)) (Phi.le_trans g3 k4) ((hgw _ _ g4).trans k5)
      · obtain ⟨k1, k2, k3, k4⟩ := M.pend i id hid
        obtain ⟨o', ho', he'⟩ := hel i k3
        have : o' = ops[i] := by rw [ho] at ho'; exact (Option.some.inj ho').symm
        subst this
        refine oper_fill ho hco he' hR M.heap restrict_agree k4 ?_
        intro v cv φ' w' e3 g1 g2 g3 g4
        have hpe : ∀ j id', (if j = i then none else pe j) = some id' → j ≠ i ∧ pe j = some id' ∧ id' ≠ id := by
          intro j id' e
          by_cases hj : j = i
          · rw [if_pos hj] at e; cases e
          · rw [if_neg hj] at e
            refine ⟨hj, e, ?_⟩
            rintro rfl
            exact hj (M.inj j i _ e hid)
        refine ih (B.del id) (fun j => if j = i then none else pe j) _ seen pl φ' σ _ w' ?_ hrun hcnt' ?_
        · refine ⟨by simpa using M.size, closed', acts', M.cover, M.bound, M.plan, ?_, ?_, ?_, ?_, ?_, ?_, M.num, by rw [put_size]; exact M.room, regs' cv v φ' e3 g1 g3, g2⟩
          · intro j hj k hk hl
            exact M.waits j hj k hk fun h => hl ((listed_set hlt').2 (.inr h))
          · intro k hk hl
            have hki : k ≠ i := fun h => hl ((listed_set hlt').2 (.inl h))
            refine (M.facts k hk fun h => hl ((listed_set hlt').2 (.inr h))).imp_right fun ⟨id', h⟩ => ⟨id', by rw [if_neg hki]; exact h⟩
          · intro k id' hk
            obtain ⟨q1, q2, q3⟩ := hpe k id' hk
            obtain ⟨l1, l2, l3, l4⟩ := M.pend k id' q2
            refine ⟨l1, fun h => ?_, l3, l4.base (Base.del_other _ q3)⟩
            rw [listed_set hlt'] at h
            exact h.elim q1 l2
          · intro j k id' hj hk
            exact M.inj j k id' (hpe j id' hj).2.1 (hpe k id' hk).2.1
          · intro id' hid'
            by_cases hne : id' = id
            · subst hne
              rw [Base.del_same]
              exact (M.old i _ hid).symm
            · rw [Base.del_other _ hne]
              refine M.same id' fun j hj => ?_
              by_cases hji : j = i
              · subst hji; rw [hid] at hj; cases hj; exact hne rfl
              · exact hid' j (by rw [if_neg hji]; exact hj)
          · intro j id' hj
            exact M.old j id' (hpe j id' hj).2.1
        · intro σ2 a2 w2 φ2 k1 k2 k3 k4 k5
          exact hQ σ2 a2 w2 φ2 k1 k2 (k3.trans (put_defers _ _ _)) (Phi.le_trans g3 k4) ((hgw _ _ g4).trans k5)
    · obtain ⟨B', pe', seen', σ', chk, ns, rest, M', hrun'⟩ := catch_up hc hel hw pl seen B pe σ M hrun hord
      clear M hrun hord
      have hgw : ∀ w1 w2, Gw B' w1 w2 → Gw B0 w1 w2 := fun w1 w2 g => M'.num ▸ g
      have hR := mid_view M' hlt hw
      obtain ⟨p1, p2, p3, p4, p5, p6, p7⟩ := planOk_cons M'.plan
      simp only [opsOf, List.map_cons, runD] at hrun'
      refine oper_agree hcall ho hco hR M'.heap restrict_agree hrun' ?_
      intro v h' cv φ' w' hK g1 g2 g3 g4
      obtain ⟨hag, hK⟩ := bif_true hK
      simp only at hag hK
      split at hK
      rotate_left
      · cases hK
      rename_i ρ2 hρ2
      obtain ⟨c1, c2⟩ := calcA_spec hρ2 p2
      have hnsl : ∀ j ∈ ns, ¬ Listed (s.setIfInBounds i true) j := by
        intro j hj hl
        rw [listed_set hlt'] at hl
        rcases hl with rfl | hl
        · exact hself (p3 j hj)
        · exact hnl (M'.closed j i hl (p3 j hj))
      have hpei : pe' i = none := by
        cases e : pe' i with
        | none => rfl
        | some id => exact absurd (M'.pend i id e).1 p1
      refine ih B' pe' _ (seen' ++ i :: ns) rest φ' ⟨ρ2, h'⟩ _ w' ?_ hK hcnt' ?_
      · refine ⟨by simpa using M'.size, ?_, ?_, ?_, ?_, p6, ?_, ?_, ?_, M'.inj, M'.same, M'.old, M'.num, by rw [put_size]; exact M'.room, ?_, g2⟩
        · intro j k hj hk
          rw [listed_set hlt'] at hj ⊢
          rcases hj with rfl | hj
          · exact .inr (hw k hk)
          · exact .inr (M'.closed j k hj hk)
        · intro b hb hl
          rw [listed_set hlt'] at hl
          rcases hl with rfl | hl
          · exact planOk_fresh p6 b hb (by simp)
          · exact M'.acts b (List.mem_cons_of_mem _ hb) hl
        · intro j hj
          have := M'.cover j hj
          simpa [planOrder] using this
        · intro j hj
          exact M'.bound j (by simpa [planOrder] using hj)
        · intro j hj k hk hl
          have hkl : ¬ Listed s k := fun h => hl ((listed_set hlt').2 (.inr h))
          have hki : k ≠ i := fun h => hl ((listed_set hlt').2 (.inl h))
          refine M'.waits j hj k ?_ hkl
          simp only [List.append_assoc, List.cons_append, List.mem_append, List.mem_cons, nonActs] at hk ⊢
          rcases hk with h | h | h | h | h
          · exact .inl h
          · exact absurd h hki
          · exact .inr (.inl h)
          · exact .inr (.inr (.inl h))
          · exact .inr (.inr (.inr h))
        · intro k hk hl
          have hkl : ¬ Listed s k := fun h => hl ((listed_set hlt').2 (.inr h))
          have hki : k ≠ i := fun h => hl ((listed_set hlt').2 (.inl h))
          simp only [List.mem_append, List.mem_cons] at hk
          rcases hk with hk | hk | hk
          · rcases M'.facts k hk hkl with ⟨f1, f2⟩ | h
            · refine .inl ⟨f1, ?_⟩
              rcases p4 k hk with ⟨h, _⟩ | ⟨⟨q1, q2⟩, q3, q4⟩
              · exact absurd (hw k h) hkl
              · have f3 := f2.agree (ρ' := put σ'.regs (ao as i).dst v) (agree_dsts q1) (agree_dsts q2)
                have f4 : Fact (put σ'.regs (ao as i).dst v) h' (ao as k) := by
                  rcases q4 with q4 | q4 | q4
                  · exact f3.blind q4
                  · omega
                  · exact f3.again f1 (again_spec hag k q4)
                exact f4.agree (c1 _ fun j hj => (q3 j hj).1) (c1 _ fun j hj => (q3 j hj).2)
            · exact .inr h
          · exact absurd hk hki
          · exact .inl (c2 k hk)
        · intro k id hk
          obtain ⟨k1, k2, k3, k4⟩ := M'.pend k id hk
          refine ⟨by simp [k1], fun h => ?_, k3, ?_⟩
          · rw [listed_set hlt'] at h
            rcases h with rfl | h
            · exact p1 k1
            · exact k2 h
          · rcases p4 k k1 with ⟨h, _⟩ | ⟨⟨q1, q2⟩, q3, q4⟩
            · exact absurd (hw k h) k2
            · exact (k4.agree (ρ' := put σ'.regs (ao as i).dst v) (agree_dsts q1) (agree_dsts q2)).agree (c1 _ fun j hj => (q3 j hj).1) (c1 _ fun j hj => (q3 j hj).2)
        · intro d u hu
          by_cases hex : ∃ j ∈ ns, (ao as j).dst = some d
          · obtain ⟨j, hj, hjd⟩ := hex
            exact .inl ⟨j, by simp [hj], hnsl j hj, hjd⟩
          · have hsame : (put σ'.regs (ao as i).dst v).get d = ρ2.get d := c1 [d] (fun j hj => disjN_iff.2 fun t ht => by
              intro h
              rw [List.mem_singleton] at h
              subst h
              exact hex ⟨j, hj, mem_dsts.1 ht⟩) d (List.mem_singleton.2 rfl)
            simp only at hu
            rw [← hsame] at hu
            by_cases hd : (ao as i).dst = some d
            · rw [hd, put_same] at hu
              cases hu
              exact .inr ⟨cv, by rw [hd]; exact put_at (hin d hd), g1⟩
            · rw [put_get hd] at hu
              rcases M'.regs d u hu with ⟨j, hj, hnj, hdj⟩ | ⟨cu, h1, h2⟩
              · refine .inl ⟨j, by simp [hj], fun h => ?_, hdj⟩
                rw [listed_set hlt'] at h
                rcases h with rfl | h
                · exact p1 hj
                · exact hnj h
              · exact .inr ⟨cu, by rw [put_off hd]; exact h1, h2.mono g3⟩
      · intro σ2 a2 w2 φ2 k1 k2 k3 k4 k5
        exact hQ σ2 a2 w2 φ2 k1 k2 (k3.trans (put_defers _ _ _)) (Phi.le_trans g3 k4) ((hgw _ _ g4).trans k5)

theorem compDreg_spec {x : ACode} (hd : compDreg as ops = some x) : ∃ l0 pl, drawOk as (masks ops.toList []) (earlies ops) ops.size ops.toList l0 pl = true ∧ x = .dreg (l0.map (ao as)) (opsOf as pl) := by
  unfold compDreg compDraw at hd
  simp only at hd
  generalize (List.filter (fun i => !memN i _ && _) (List.range ops.size)) = l0 at hd
  generalize (planOf as _ _ _ _ _ _) = pl at hd
  cases hb : drawOk as (masks ops.toList []) (earlies ops) ops.size ops.toList l0 pl with
  | false => rw [hb] at hd; cases hd
  | true =>
    rw [hb, cond_true] at hd
    cases hd
    exact ⟨l0, pl, hb, rfl⟩

theorem not_listed0 {k i : Nat} : ¬ Listed (Array.replicate k false) i := by
  unfold Listed
  by_cases h : i < k
  · simp [h]
  · simp [Array.getElem?_eq_none, h]

/-- A region that draws its order. -/
theorem dreg_sound {r : Option Nat} {id : Nat} {x : ACode} {Q : Exit → Act → World → Prop} {φ : Phi} {σ : St} {a : Act} {w : World} {K : KEx} {m : Nat} (hmix : P.follows .mixedOrders = true) (hcall : CallOK P call)
    (hc : compOpers P N ops ops.toList = some as) (hd : compDreg as ops = some x) (A : At P B N φ σ a w) (hr : runC call m x σ K = true)
    (hQ : ∀ σ' a' w' φ', K .normal σ' = true → At P B N φ' σ' a' w' → a'.defers = a.defers → φ.le φ' → Gw B w w' → Q .normal a' w') : (Code.region id ops true).wpIn (FW r) n P Q a w := by
  obtain ⟨l0, pl, hok, rfl⟩ := compDreg_spec hd
  have hm := masks_ok ops.toList
  have hel : ∀ i ∈ earlies ops, ∃ o, ops[i]? = some o ∧ earlyO o = true := fun i hi => earlies_spec hi
  generalize masks ops.toList [] = ms at hok hm
  generalize earlies ops = el at hok hel
  simp only [runC] at hr
  unfold drawOk at hok
  simp only [Bool.and_eq_true] at hok
  obtain ⟨⟨⟨⟨⟨⟨d1, d2⟩, d3⟩, d4⟩, d5⟩, d6⟩, d7⟩ := hok
  split at hr
  rotate_left
  · cases hr
  rename_i ρ hρ
  obtain ⟨c1, c2⟩ := calcA_spec hρ d3
  refine wpIn_region_any hmix ?_
  refine draw_sound (B0 := B) hcall hc hm d2 hel (K .normal) ops.size B (fun _ => none) _ l0 pl φ ⟨ρ, σ.h⟩ a w.drew ?_ hr ?_ ?_
  · refine ⟨by simp, ?_, ?_, ?_, ?_, d5, ?_, ?_, fun i id e => (by cases e), fun i j id e _ => (by cases e), fun _ _ => rfl, fun i id e => (by cases e), rfl, A.regs.1, ?_, A.heap.drew⟩
    · intro j i hj; exact absurd hj not_listed0
    · intro b _; exact not_listed0
    · intro i hi
      exact memN_iff.1 (allN_iff.1 d6 i (List.mem_range.2 hi))
    · intro i hi
      exact nblt_true.1 (allN_iff.1 d7 i hi)
    · intro j hj i hi _
      have := allN_iff.1 (allN_iff.1 d4 j (List.mem_range.2 hj)) i hi
      simpa using this
    · intro i hi _; exact .inl (c2 i hi)
    · intro d v hv
      by_cases hex : ∃ j ∈ l0, (ao as j).dst = some d
      · obtain ⟨j, hj, hjd⟩ := hex
        exact .inl ⟨j, hj, not_listed0, hjd⟩
      · refine .inr (A.regs.2 d v ?_)
        rw [← hv]
        exact c1 [d] (fun j hj => disjN_iff.2 fun t ht => by
          intro h
          rw [List.mem_singleton] at h
          subst h
          exact hex ⟨j, hj, mem_dsts.1 ht⟩) d (List.mem_singleton.2 rfl)
  · rw [Array.toList_replicate, List.count_replicate]; simp
  · intro σ' a' w' φ' h1 h2 h3 h4 h5
    exact hQ σ' a' w' φ' h1 h2 h3 h4 ((Gw.drew B w).trans h5)

end
end Go.Ab
