/-
  A region that draws its order: whatever the order, it comes out as planned.
-/
import Derived.Test.YtgmdelacokkenaaGreatDoorAbFill
namespace Go.Ab
noncomputable section
set_option linter.unusedSimpArgs false
set_option linter.unusedVariables false

/-! ### What an operation waits for -/
theorem maskOf_spec {ms : List Nat} {i : Nat} : ∀ {l : List Edge}, (maskOf ms l).testBit i = true → ∃ e ∈ l, Region.binds .any e = true ∧ (e.on = i ∨ (mk ms e.on).testBit i = true)
  | [], k => by simp [maskOf] at k
  | e :: l, k => by
    simp only [maskOf] at k
    cases hb : Region.binds .any e with
    | false =>
      rw [hb] at k
      obtain ⟨e', h1, h2⟩ := maskOf_spec (show (maskOf ms l).testBit i = true from k)
      exact ⟨e', List.mem_cons_of_mem _ h1, h2⟩
    | true =>
      rw [hb, cond_true, Nat.testBit_or, Nat.testBit_or, Bool.or_eq_true, Bool.or_eq_true] at k
      rcases k with (k | k) | k
      · obtain ⟨e', h1, h2⟩ := maskOf_spec k
        exact ⟨e', List.mem_cons_of_mem _ h1, h2⟩
      · rw [Nat.testBit_two_pow] at k
        exact ⟨e, List.mem_cons_self, hb, .inl (by simpa using k)⟩
      · exact ⟨e, List.mem_cons_self, hb, .inr k⟩

def MaskOk (ops : List Oper) (ms : List Nat) : Prop := ∀ j i, (mk ms j).testBit i = true → ∃ o, ops[j]? = some o ∧ ∃ e ∈ o.after, Region.binds .any e = true ∧ (e.on = i ∨ (mk ms e.on).testBit i = true)

theorem mk_append {ms : List Nat} {x j : Nat} (h : j < ms.length) : mk (ms ++ [x]) j = mk ms j := by
  simp only [mk, nth_eq]; rw [List.getElem?_append_left h]

theorem mk_none {ms : List Nat} {j : Nat} (h : ms.length ≤ j) : mk ms j = 0 := by
  simp only [mk, nth_eq]; rw [List.getElem?_eq_none h]; rfl

theorem masks_spec : ∀ (l pre : List Oper) (ms : List Nat), ms.length = pre.length → MaskOk pre ms → MaskOk (pre ++ l) (masks l ms)
  | [], pre, ms, hl, hm => by simpa [masks] using hm
  | o :: l, pre, ms, hl, hm => by
    have := masks_spec l (pre ++ [o]) (ms ++ [maskOf ms o.after.toList]) (by simp [hl]) (by
      intro j i hj
      have lift : ∀ e : Edge, (mk ms e.on).testBit i = true → (mk (ms ++ [maskOf ms o.after.toList]) e.on).testBit i = true := by
        intro e he
        by_cases hlt : e.on < ms.length
        · rw [mk_append hlt]; exact he
        · rw [mk_none (Nat.le_of_not_lt hlt)] at he; simp at he
      by_cases hlt : j < ms.length
      · rw [mk_append hlt] at hj
        obtain ⟨o', h1, e, h2, h3, h4⟩ := hm j i hj
        exact ⟨o', by rw [List.getElem?_append_left (by omega)]; exact h1, e, h2, h3, h4.imp_right (lift e)⟩
      · by_cases heq : j = ms.length
        · subst heq
          have hx : mk (ms ++ [maskOf ms o.after.toList]) ms.length = maskOf ms o.after.toList := by simp [mk, nth_eq]
          rw [hx] at hj
          obtain ⟨e, h2, h3, h4⟩ := maskOf_spec hj
          exact ⟨o, by rw [hl]; simp, e, by simpa using h2, h3, h4.imp_right (lift e)⟩
        · rw [mk_none (by simp; omega)] at hj; simp at hj)
    simpa [masks] using this

theorem masks_ok (l : List Oper) : MaskOk l (masks l []) := by
  have := masks_spec l [] [] rfl (by intro j i hj; rw [mk_none (by simp)] at hj; simp at hj)
  simpa using this

theorem edgesOk_spec : ∀ {l : List Oper} {n : Nat}, edgesOk n l = true → ∀ j o, l[j]? = some o → ∀ e ∈ o.after, Region.binds .any e = true → e.on < n + j
  | [], _, _, j, o, hj, _, _, _ => by simp at hj
  | x :: l, n, k, j, o, hj, e, he, hb => by
    simp only [edgesOk, Bool.and_eq_true] at k
    cases j with
    | zero =>
      simp at hj; subst hj
      have := List.all_eq_true.1 k.1 e (by simpa using he)
      rw [hb] at this
      simpa using this
    | succ j =>
      have := edgesOk_spec k.2 j o (by simpa using hj) e he hb
      omega

section
variable {P : Program} {B B0 : Base} {N n : Nat} {ops : Array Oper} {as : List AOper} {ms el : List Nat} {call : CallFn}

abbrev Listed (s : Array Bool) (i : Nat) : Prop := s.getD i false = true

theorem ready_waits (hm : MaskOk ops.toList ms) {s : Array Bool} (hs : ∀ j i, Listed s j → (mk ms j).testBit i = true → Listed s i) {j : Nat} (hr : j ∈ Region.ready .any ops s) :
    ∀ i, (mk ms j).testBit i = true → Listed s i := by
  intro i hi
  obtain ⟨_, o, ho, hall⟩ := mem_ready.1 hr
  obtain ⟨o', h1, e, h2, h3, h4⟩ := hm j i hi
  have : o' = o := by
    rw [Array.getElem?_toList, ho] at h1
    exact (Option.some.inj h1).symm
  subst this
  have hl := hall e h2 h3
  rcases h4 with rfl | h4
  · exact hl
  · exact hs _ _ hl h4

theorem ready_not {s : Array Bool} {j : Nat} (hr : j ∈ Region.ready .any ops s) : ¬ Listed s j ∧ j < ops.size ∧ j < s.size := by
  obtain ⟨h0, o, ho, _⟩ := mem_ready.1 hr
  have hsz : j < s.size := by
    rcases Nat.lt_or_ge j s.size with h | h
    · exact h
    · simp [Array.getElem?_eq_none h] at h0
  refine ⟨?_, (Array.getElem?_eq_some_iff.1 ho).1, hsz⟩
  intro hl
  simp [Listed, hsz] at hl h0
  rw [hl] at h0; cases h0

theorem listed_set {s : Array Bool} {i j : Nat} (hi : i < s.size) : Listed (s.setIfInBounds i true) j ↔ (j = i ∨ Listed s j) := by
  by_cases h : j = i
  · subst h; simp [Listed, hi]
  · unfold Listed; rw [getD_set_ne false (Ne.symm h)]; simp [h]

/-- Where none may come, all have come. -/
theorem none_ready (he : edgesOk 0 ops.toList = true) {s : Array Bool} (hsz : s.size = ops.size) (hr : Region.ready .any ops s = []) : ∀ m j, j < m → j < ops.size → Listed s j := by
  intro m
  induction m with
  | zero => intro j h; omega
  | succ m ih =>
    intro j hj hlt
    by_cases hl : Listed s j
    · exact hl
    · exfalso
      have : j ∈ Region.ready .any ops s := by
        refine mem_ready.2 ⟨?_, ops[j], by simp [hlt], ?_⟩
        · simp [Listed, hsz, hlt] at hl ⊢; exact hl
        · intro e hem hb
          have hlt2 := edgesOk_spec he j ops[j] (by simp [hlt]) e hem hb
          exact ih e.on (by omega) (by omega)
      rw [hr] at this; cases this

/-! ### What has been reckoned ahead -/
/-- The operation, carried out now, would leave what is there. -/
def Fact (ρ : Regs) (h : AHeap) (o : AOper) : Prop :=
  ∃ b, wantedA ρ o.grd = some b ∧ ∃ v, (b = true → evalA ρ h o.op = some (v, h)) ∧ (b = false → v = .tup []) ∧ ∀ d, o.dst = some d → ρ.get d = some v

theorem Fact.agree {ρ ρ' : Regs} {h : AHeap} {o : AOper} (k : Fact ρ h o) (h1 : AgreeO ρ ρ' (looks o)) (h2 : AgreeO ρ ρ' (dsts o)) : Fact ρ' h o := by
  obtain ⟨b, hb, v, e1, e2, e3⟩ := k
  refine ⟨b, by rw [← looks_grd h1]; exact hb, v, fun t => by rw [← evalA_agree (looks_op h1)]; exact e1 t, e2, fun d hd => ?_⟩
  rw [← h2 d (mem_dsts.2 hd)]; exact e3 d hd

theorem agree_put {ρ : Regs} {d : Option Nat} {v : AV} {l : List Nat} (k : ∀ t, d = some t → t ∉ l) : AgreeO ρ (put ρ d v) l := by
  intro t ht
  rw [put_get (fun e => k t e ht)]

theorem agree_dsts {ρ : Regs} {o : AOper} {v : AV} {l : List Nat} (k : disjN (dsts o) l = true) : AgreeO ρ (put ρ o.dst v) l :=
  agree_put fun t ht => disjN_iff.1 k t (mem_dsts.2 ht)

theorem AgreeO.trans {ρ ρ' ρ'' : Regs} {l : List Nat} (h : AgreeO ρ ρ' l) (k : AgreeO ρ' ρ'' l) : AgreeO ρ ρ'' l := fun t ht => (h t ht).trans (k t ht)

/-- Reckoning ahead touches what those reckoned leave, alone; and each says what it left. -/
theorem calcA_spec : ∀ {l : List Nat} {ρ ρ2 : Regs} {h : AHeap}, calcA (l.map (ao as)) ρ h = some ρ2 → orderOk as l = true →
    (∀ L, (∀ j ∈ l, disjN (dsts (ao as j)) L = true) → AgreeO ρ ρ2 L) ∧ ∀ i ∈ l, clsOf (ao as i).op < 2 ∧ Fact ρ2 h (ao as i)
  | [], ρ, ρ2, h, hc, _ => by
    simp [calcA] at hc; subst hc
    exact ⟨fun _ _ _ _ => rfl, fun i hi => by cases hi⟩
  | i :: l, ρ, ρ2, h, hc, ho => by
    simp only [orderOk] at ho
    cases hg : disjN (dsts (ao as i)) (looks (ao as i)) && Nat.blt (clsOf (ao as i).op) 2 && allN l (apartA as i) with
    | false => rw [hg] at ho; cases ho
    | true =>
      rw [hg, cond_true] at ho
      simp only [Bool.and_eq_true] at hg
      obtain ⟨⟨g1, g2⟩, g3⟩ := hg
      have hcls : clsOf (ao as i).op < 2 := nblt_true.1 g2
      have hap := allN_iff.1 g3
      have key : ∀ v, calcA (l.map (ao as)) (put ρ (ao as i).dst v) h = some ρ2 → (∀ L, (∀ j ∈ i :: l, disjN (dsts (ao as j)) L = true) → AgreeO ρ ρ2 L) ∧
          (Fact (put ρ (ao as i).dst v) h (ao as i) → ∀ j ∈ i :: l, clsOf (ao as j).op < 2 ∧ Fact ρ2 h (ao as j)) := by
        intro v hv
        obtain ⟨k1, k2⟩ := calcA_spec hv ho
        refine ⟨fun L hL => (agree_dsts (hL i List.mem_cons_self)).trans (k1 L fun j hj => hL j (List.mem_cons_of_mem _ hj)), fun hf j hj => ?_⟩
        rcases List.mem_cons.1 hj with rfl | hj
        · refine ⟨hcls, hf.agree (k1 _ fun j' hj' => ?_) (k1 _ fun j' hj' => ?_)⟩
          · have := hap j' hj'; simp only [apartA, Bool.and_eq_true] at this; exact this.1
          · have := hap j' hj'; simp only [apartA, Bool.and_eq_true] at this; exact this.2
        · exact k2 j hj
      simp only [List.map_cons, calcA] at hc
      have stay : ∀ v, AgreeO ρ (put ρ (ao as i).dst v) (looks (ao as i)) := fun v => agree_dsts g1
      split at hc
      · rename_i hw
        split at hc
        · rename_i v h' hv
          obtain ⟨k1, k2⟩ := key v hc
          refine ⟨k1, k2 ⟨true, by rw [← looks_grd (stay v)]; exact hw, v, fun _ => ?_, fun e => (by cases e), fun d hd => (by rw [hd]; exact put_same)⟩⟩
          rw [← evalA_agree (looks_op (stay v)), hv, evalA_keeps hcls hv]
        · cases hc
      · rename_i hw
        obtain ⟨k1, k2⟩ := key _ hc
        exact ⟨k1, k2 ⟨false, by rw [← looks_grd (stay _)]; exact hw, .tup [], fun e => (by cases e), fun _ => rfl, fun d hd => by rw [hd]; exact put_same⟩⟩
      · cases hc

/-- Said again at another heap. -/
theorem Fact.again {ρ : Regs} {h g : AHeap} {o : AOper} (k : Fact ρ h o) (hc : clsOf o.op < 2) (ha : againOne ρ g o = true) : Fact ρ g o := by
  obtain ⟨b, hb, v, e1, e2, e3⟩ := k
  cases b with
  | false => exact ⟨false, hb, v, fun t => (by cases t), e2, e3⟩
  | true =>
    unfold againOne at ha
    rw [hb] at ha
    simp only at ha
    split at ha
    · rename_i u h' hu
      have := evalA_keeps hc hu
      subst this
      split at ha
      · rename_i d hd
        rw [e3 d hd] at ha
        simp only at ha
        exact ⟨true, hb, v, fun t => by rw [hu, same_eq _ _ ha], e2, e3⟩
      · rename_i hd
        exact ⟨true, hb, u, fun t => hu, fun e => (by cases e), fun d hd' => (by rw [hd] at hd'; cases hd')⟩
    · cases ha

theorem again_spec {ρ : Regs} {h : AHeap} : ∀ {l : List Nat}, again ρ h (l.map (ao as)) = true → ∀ i ∈ l, againOne ρ h (ao as i) = true
  | [], _, _, hi => by cases hi
  | j :: l, k, i, hi => by
    simp only [List.map_cons, again] at k
    cases hb : againOne ρ h (ao as j) with
    | false => rw [hb] at k; cases k
    | true =>
      rw [hb, cond_true] at k
      rcases List.mem_cons.1 hi with rfl | hi
      · exact hb
      · exact again_spec k i hi

theorem Fact.blind {ρ : Regs} {h g : AHeap} {o : AOper} (k : Fact ρ h o) (hc : clsOf o.op = 0) : Fact ρ g o := by
  obtain ⟨b, hb, v, e1, e2, e3⟩ := k
  exact ⟨b, hb, v, fun t => evalA_blind hc (e1 t), e2, e3⟩

/-! ### The order drawn -/
theorem cond_some {α : Type} {c : Bool} {x : Option α} {y : α} (k : (bif c then x else none) = some y) : c = true ∧ x = some y := by
  cases c with
  | true => exact ⟨rfl, k⟩
  | false => cases k

theorem bif_true {c x : Bool} (k : (bif c then x else false) = true) : c = true ∧ x = true := by
  cases c with
  | false => cases k
  | true => exact ⟨rfl, k⟩

theorem planOk_cons {seen : List Nat} {a : Nat} {chk ns : List Nat} {rest : Plan} (k : planOk as ms el seen ((a, chk, ns) :: rest) = true) :
    a ∉ seen ∧ orderOk as ns = true ∧ (∀ i ∈ ns, (mk ms i).testBit a = true) ∧
    (∀ i ∈ seen, ((mk ms a).testBit i = true ∧ a ∉ el) ∨ (disjN (dsts (ao as a)) (looks (ao as i)) = true ∧ disjN (dsts (ao as a)) (dsts (ao as i)) = true) ∧ (∀ j ∈ ns, disjN (dsts (ao as j)) (looks (ao as i)) = true ∧ disjN (dsts (ao as j)) (dsts (ao as i)) = true) ∧ (clsOf (ao as i).op = 0 ∨ clsOf (ao as i).op = 2 ∨ i ∈ chk)) ∧
    (∀ b ∈ rest.map (·.1), (mk ms b).testBit a = true ∨ a ∈ el ∨ swapAt as ms el seen a chk ns rest b = true) ∧ planOk as ms el (seen ++ a :: ns) rest = true ∧
    (a ∈ el → disjN (dsts (ao as a)) (looks (ao as a)) = true ∧ ∀ j ∈ ns, disjN (dsts (ao as j)) (looks (ao as a)) = true ∧ disjN (dsts (ao as j)) (dsts (ao as a)) = true) := by
  unfold planOk at k
  obtain ⟨hg, k⟩ := bif_true k
  simp only [Bool.and_eq_true] at hg
  obtain ⟨⟨⟨⟨⟨g1, g2⟩, g3⟩, g4⟩, g5⟩, g6⟩ := hg
  refine ⟨fun hm => ?_, g2, allN_iff.1 g3, fun i hi => ?_, fun b hb => ?_, k, fun hm => ?_⟩
  · rw [memN_iff.2 hm] at g1; cases g1
  · have := allN_iff.1 g4 i hi
    simp only [Bool.or_eq_true, Bool.and_eq_true] at this
    refine this.imp (fun ⟨t1, t2⟩ => ⟨t1, fun hm => ?_⟩) fun ⟨⟨t1, t2⟩, t3⟩ => ⟨?_, fun j hj => ?_, ?_⟩
    · rw [memN_iff.2 hm] at t2; cases t2
    · simpa [apartA] using t1
    · have := allN_iff.1 t2 j hj; simpa [apartA] using this
    · rcases t3 with (t3 | t3) | t3
      · exact .inl (nbeq_true.1 t3)
      · exact .inr (.inl (nbeq_true.1 t3))
      · exact .inr (.inr (memN_iff.1 t3))
  · have := allN_iff.1 g5 b hb
    simp only [Bool.or_eq_true] at this
    rcases this with (h | h) | h
    · exact .inl h
    · exact .inr (.inl (memN_iff.1 h))
    · exact .inr (.inr h)
  · rw [memN_iff.2 hm] at g6
    simp only [Bool.not_true, Bool.false_or, Bool.and_eq_true] at g6
    refine ⟨g6.1, fun j hj => ?_⟩
    have := allN_iff.1 g6.2 j hj; simpa [apartA] using this

theorem planOk_fresh : ∀ {pl : Plan} {seen : List Nat}, planOk as ms el seen pl = true → ∀ b ∈ pl.map (·.1), b ∉ seen
  | [], _, _, b, hb => by cases hb
  | (a, chk, ns) :: rest, seen, k, b, hb => by
    obtain ⟨h1, _, _, _, _, h6, _⟩ := planOk_cons k
    rcases List.mem_cons.1 hb with rfl | hb
    · exact h1
    · intro hm
      exact planOk_fresh h6 b hb (List.mem_append_left _ hm)

theorem planOrder_acts : ∀ {pl : Plan} {seen : List Nat}, planOk as ms el seen pl = true → ∀ i ∈ planOrder pl, i ∈ pl.map (·.1) ∨ ∃ b ∈ pl.map (·.1), (mk ms i).testBit b = true
  | [], _, _, i, hi => by cases hi
  | (a, chk, ns) :: rest, seen, k, i, hi => by
    obtain ⟨_, _, h3, _, h5, h6, _⟩ := planOk_cons k
    simp only [planOrder, List.cons_append, List.mem_cons, List.mem_append] at hi
    rcases hi with rfl | hi | hi
    · exact .inl List.mem_cons_self
    · exact .inr ⟨a, List.mem_cons_self, h3 i hi⟩
    · rcases planOrder_acts h6 i hi with h | ⟨b, hb, hbit⟩
      · exact .inl (List.mem_cons_of_mem _ h)
      · exact .inr ⟨b, List.mem_cons_of_mem _ hb, hbit⟩

/-- What came ahead of its turn, its block to come. -/
def Pend (B : Base) (ρ : Regs) (o : AOper) (id : Nat) : Prop :=
  ∃ (hp : AHeap) (v : AV) (ob : AObj), hp.sz = id ∧ o.grd = none ∧ evalA ρ hp o.op = some (v, hp.push ob) ∧ B.gh id = some ob ∧ ∀ d, o.dst = some d → ρ.get d = some v

theorem Pend.agree {ρ ρ' : Regs} {o : AOper} {id : Nat} (k : Pend B ρ o id) (h1 : AgreeO ρ ρ' (looks o)) (h2 : AgreeO ρ ρ' (dsts o)) : Pend B ρ' o id := by
  obtain ⟨hp, v, ob, e1, e2, e3, e4, e5⟩ := k
  refine ⟨hp, v, ob, e1, e2, ?_, e4, fun d hd => ?_⟩
  · rw [← evalA_agree (looks_op h1)]; exact e3
  · rw [← h2 d (mem_dsts.2 hd)]; exact e5 d hd

theorem Pend.base {B' : Base} {ρ : Regs} {o : AOper} {id : Nat} (k : Pend B ρ o id) (h : B'.gh id = B.gh id) : Pend B' ρ o id := by
  obtain ⟨hp, v, ob, e1, e2, e3, e4, e5⟩ := k
  exact ⟨hp, v, ob, e1, e2, e3, h.trans e4, e5⟩

theorem earlies_spec {i : Nat} (h : i ∈ earlies ops) : ∃ o, ops[i]? = some o ∧ earlyO o = true := by
  unfold earlies at h
  have := (List.mem_filter.1 h).2
  split at this
  · rename_i o ho; exact ⟨o, ho, this⟩
  · cases this

theorem early_cls {o : Oper} {x : AOper} (hc : compOper P N ops o = some x) (he : earlyO o = true) : clsOf x.op = 2 ∧ isCall x.op = false := by
  obtain ⟨_, _, h3, _⟩ := compOper_spec hc
  rw [h3]
  cases hop : compOp P o.op with
  | none => exact ⟨rfl, rfl⟩
  | some op =>
    simp only [Option.getD_some]
    rcases early_comp hop he with ⟨t, z, _, hz, rfl⟩ | ⟨t, x, n, y, _, _, _, rfl⟩ | ⟨t, _, rfl⟩ | ⟨t, l, c, e, sz, bytes, z, x, y, _, _, _, _, _, _, _, rfl⟩ | ⟨t, m, ps, n, sz, z, qs, _, _, rfl⟩
    · cases isNoted z.cells <;> exact ⟨rfl, rfl⟩
    · exact ⟨rfl, rfl⟩
    · exact ⟨rfl, rfl⟩
    · exact ⟨rfl, rfl⟩
    · exact ⟨rfl, rfl⟩

/-- What is asked of a plan; of its first alone. -/
def POk (as : List AOper) (ms el : List Nat) (seen : List Nat) (pl : Plan) : Prop := planOk as ms el seen pl = true

def PHead (as : List AOper) (ms el : List Nat) (seen : List Nat) : Plan → Prop
  | [] => True
  | (a, chk, ns) :: rest => a ∉ seen ∧ orderOk as ns = true ∧ (∀ i ∈ ns, (mk ms i).testBit a = true) ∧
    (∀ i ∈ seen, ((mk ms a).testBit i = true ∧ a ∉ el) ∨ (disjN (dsts (ao as a)) (looks (ao as i)) = true ∧ disjN (dsts (ao as a)) (dsts (ao as i)) = true) ∧ (∀ j ∈ ns, disjN (dsts (ao as j)) (looks (ao as i)) = true ∧ disjN (dsts (ao as j)) (dsts (ao as i)) = true) ∧ (clsOf (ao as i).op = 0 ∨ clsOf (ao as i).op = 2 ∨ i ∈ chk)) ∧
    planOk as ms el (seen ++ a :: ns) rest = true ∧
    (a ∈ el → disjN (dsts (ao as a)) (looks (ao as a)) = true ∧ ∀ j ∈ ns, disjN (dsts (ao as j)) (looks (ao as a)) = true ∧ disjN (dsts (ao as j)) (dsts (ao as a)) = true)

theorem allN_map {l : List Nat} {p q : Nat → Bool} (h : ∀ i ∈ l, p i = true → q i = true) (k : allN l p = true) : allN l q = true := allN_iff.2 fun i hi => h i hi (allN_iff.1 k i hi)

/-- A plan looks at what is seen as a set. -/
theorem planOk_perm : ∀ {pl : Plan} {s t : List Nat}, (∀ i, i ∈ t ↔ i ∈ s) → planOk as ms el s pl = true → planOk as ms el t pl = true
  | [], _, _, _, _ => rfl
  | (a, chk, ns) :: rest, s, t, hst, k => by
    unfold planOk at k ⊢
    obtain ⟨hg, k⟩ := bif_true k
    simp only [Bool.and_eq_true] at hg
    obtain ⟨⟨⟨⟨⟨g1, g2⟩, g3⟩, g4⟩, g5⟩, g6⟩ := hg
    have e1 : memN a t = memN a s := by
      cases h : memN a s with
      | true => exact memN_iff.2 ((hst a).2 (memN_iff.1 h))
      | false =>
        cases h' : memN a t with
        | false => rfl
        | true => rw [memN_iff.2 ((hst a).1 (memN_iff.1 h'))] at h; cases h
    have e2 : ∀ p : Nat → Bool, allN s p = true → allN t p = true := fun p hp => allN_iff.2 fun i hi => allN_iff.1 hp i ((hst i).1 hi)
    have e3 : ∀ b, swapAt as ms el s a chk ns rest b = true → swapAt as ms el t a chk ns rest b = true := by
      intro b hb
      cases rest with
      | nil => exact hb
      | cons p l =>
        obtain ⟨c, cb, nb⟩ := p
        simp only [swapAt, Bool.and_eq_true] at hb ⊢
        exact ⟨hb.1, e2 _ hb.2⟩
    have hcond : (!memN a t && orderOk as ns && allN ns (fun i => (mk ms i).testBit a)
      && allN t (fun i => ((mk ms a).testBit i && !memN a el) || (apartA as i a && allN ns (apartA as i) && (Nat.beq (clsOf (ao as i).op) 0 || Nat.beq (clsOf (ao as i).op) 2 || memN i chk)))
      && allN (rest.map (·.1)) (fun b => (mk ms b).testBit a || memN a el || swapAt as ms el t a chk ns rest b)
      && (!memN a el || (disjN (dsts (ao as a)) (looks (ao as a)) && allN ns (apartA as a)))) = true := by
      simp only [Bool.and_eq_true]
      refine ⟨⟨⟨⟨⟨by rw [e1]; exact g1, g2⟩, g3⟩, e2 _ g4⟩, allN_map (fun b _ hb => ?_) g5⟩, g6⟩
      simp only [Bool.or_eq_true] at hb ⊢
      exact hb.imp_right (e3 b)
    rw [hcond, cond_true]
    exact planOk_perm (fun i => by simp only [List.mem_append, hst]) k

theorem len0 {α : Type} {l : List α} (h : Nat.beq l.length 0 = true) : l = [] := List.length_eq_zero_iff.1 (nbeq_true.1 h)

theorem twin_spec {a b : Nat} {chk ns cb : List Nat} (k : isTwin as ms a b chk ns cb = true) :
    a < b ∧ ns = [] ∧ chk = [] ∧ allN cb (fun i => isIadrA (ao as i)) = true ∧ ∃ n x u m y t, ao as a = ⟨none, .store n x u, none⟩ ∧ ao as b = ⟨none, .store m y t, none⟩ := by
  unfold isTwin at k
  simp only [Bool.and_eq_true] at k
  obtain ⟨⟨⟨⟨⟨⟨k1, _⟩, k3⟩, k4⟩, k5⟩, k6⟩, k7⟩ := k
  have st : ∀ o : AOper, isStA o = true → ∃ n x u, o = ⟨none, .store n x u, none⟩ := by
    intro o ho
    obtain ⟨d, op, g⟩ := o
    unfold isStA at ho
    split at ho
    · rename_i n x u h1 h2 h3
      simp only at h1 h2 h3
      subst h1; subst h2; subst h3
      exact ⟨_, _, _, rfl⟩
    · cases ho
  obtain ⟨n, x, u, e1⟩ := st _ k3
  obtain ⟨m, y, t, e2⟩ := st _ k4
  exact ⟨nblt_true.1 k1, len0 k5, len0 k6, k7, n, x, u, m, y, t, e1, e2⟩

theorem not_twin_rev {a b : Nat} {chk ns cb : List Nat} (h : a < b) : isTwin as ms b a chk ns cb = false := by
  have : Nat.blt b a = false := by
    cases e : Nat.blt b a with
    | false => rfl
    | true => have := nblt_true.1 e; omega
  simp [isTwin, this]

/-- The check of a twin left out. -/
theorem stepA_head {a : Nat} {chk ns : List Nat} {rest : Plan} {σ : St} {K : KSt} (k : stepA call (headOp as ms a chk ns rest) σ K = true) : stepA call (ao as a) σ K = true := by
  cases rest with
  | nil => exact k
  | cons p l =>
    obtain ⟨b, cb, nb⟩ := p
    simp only [headOp] at k
    cases ht : isTwin as ms a b chk ns cb with
    | false => rw [ht] at k; exact k
    | true =>
      rw [ht, cond_true] at k
      obtain ⟨_, _, _, _, n, x, u, m, y, t, e1, e2⟩ := twin_spec ht
      rw [e1, e2] at k
      rw [e1]
      simp only [twOp, stepA, wantedA, evalK, evalA] at k ⊢
      cases h1 : ev σ.regs x with
      | none => rw [h1] at k; cases k
      | some x' =>
        cases h2 : ev σ.regs u with
        | none => rw [h1, h2] at k; cases k
        | some u' =>
          cases h3 : ev σ.regs y with
          | none => rw [h1, h2, h3] at k; cases k
          | some y' =>
            rw [h1, h2, h3] at k
            simp only at k ⊢
            cases h4 : apartP x' y' with
            | false => rw [h4] at k; cases k
            | true => rw [h4] at k; exact k

theorem head_early {a : Nat} {chk ns : List Nat} {rest : Plan} (h : clsOf (ao as a).op = 2 → ∀ n x u, (ao as a).op ≠ .store n x u) : headOp as ms a chk ns rest = ao as a := by
  cases rest with
  | nil => rfl
  | cons p l =>
    obtain ⟨b, cb, nb⟩ := p
    simp only [headOp]
    cases ht : isTwin as ms a b chk ns cb with
    | false => rfl
    | true =>
      obtain ⟨_, _, _, _, n, x, u, m, y, t, e1, e2⟩ := twin_spec ht
      exact absurd (by rw [e1]) (h (by rw [e1]; rfl) n x u)

theorem isEarly_head {a : Nat} {chk ns : List Nat} {rest : Plan} : isEarlyA (headOp as ms a chk ns rest) = isEarlyA (ao as a) := by
  cases rest with
  | nil => rfl
  | cons p l =>
    obtain ⟨b, cb, nb⟩ := p
    simp only [headOp]
    cases ht : isTwin as ms a b chk ns cb with
    | false => rfl
    | true =>
      obtain ⟨_, _, _, _, n, x, u, m, y, t, e1, e2⟩ := twin_spec ht
      rw [e1, e2]; rfl

theorem step_store {n : Nat} {x u : Opd} {σ : St} {K : KSt} (k : stepA call ⟨none, .store n x u, none⟩ σ K = true) : ∃ x' u' h', ev σ.regs x = some x' ∧ ev σ.regs u = some u' ∧ storeA σ.h n x' u' = some h' ∧ K (.tup []) ⟨σ.regs, h'⟩ = true := by
  simp only [stepA, wantedA, evalK, evalA] at k
  cases h1 : ev σ.regs x with
  | none => rw [h1] at k; cases k
  | some x' =>
    cases h2 : ev σ.regs u with
    | none => rw [h1, h2] at k; cases k
    | some u' =>
      rw [h1, h2] at k
      simp only at k
      cases h3 : storeA σ.h n x' u' with
      | none => rw [h3] at k; cases k
      | some h' =>
        rw [h3] at k
        exact ⟨x', u', h', rfl, rfl, h3, k⟩

theorem store_step {n : Nat} {x u : Opd} {σ : St} {K : KSt} {x' u' : AV} {h' : AHeap} (h1 : ev σ.regs x = some x') (h2 : ev σ.regs u = some u') (h3 : storeA σ.h n x' u' = some h') (k : K (.tup []) ⟨σ.regs, h'⟩ = true) : stepA call ⟨none, .store n x u, none⟩ σ K = true := by
  simp only [stepA, wantedA, evalK, evalA, h1, h2, h3, unit]
  exact k

theorem step_stw {n : Nat} {x u y : Opd} {σ : St} {K : KSt} (k : stepA call ⟨none, .stw n x u y, none⟩ σ K = true) : ∃ x' u' y' h', ev σ.regs x = some x' ∧ ev σ.regs u = some u' ∧ ev σ.regs y = some y' ∧ apartP x' y' = true ∧ storeA σ.h n x' u' = some h' ∧ K (.tup []) ⟨σ.regs, h'⟩ = true := by
  simp only [stepA, wantedA, evalK, evalA] at k
  cases h1 : ev σ.regs x with
  | none => rw [h1] at k; cases k
  | some x' =>
    cases h2 : ev σ.regs u with
    | none => rw [h1, h2] at k; cases k
    | some u' =>
      cases h4 : ev σ.regs y with
      | none => rw [h1, h2, h4] at k; cases k
      | some y' =>
        rw [h1, h2, h4] at k
        simp only at k
        cases h5 : apartP x' y' with
        | false => rw [h5] at k; cases k
        | true =>
          rw [h5, cond_true] at k
          cases h3 : storeA σ.h n x' u' with
          | none => rw [h3] at k; cases k
          | some h' =>
            rw [h3] at k
            exact ⟨x', u', y', h', rfl, rfl, rfl, h5, h3, k⟩

theorem isCall_head {a : Nat} {chk ns : List Nat} {rest : Plan} : isCall (headOp as ms a chk ns rest).op = isCall (ao as a).op := by
  cases rest with
  | nil => rfl
  | cons p l =>
    obtain ⟨b, cb, nb⟩ := p
    simp only [headOp]
    cases ht : isTwin as ms a b chk ns cb with
    | false => rfl
    | true =>
      obtain ⟨_, _, _, _, n, x, u, m, y, t, e1, e2⟩ := twin_spec ht
      rw [e1, e2]; rfl

/-- The second of two stores first. -/
theorem run_swap {a b : Nat} {chk ns cb nb : List Nat} {rest : Plan} {es : List Nat} {ρ0 : Regs} {σ : St} {K : KEx} (ht : isTwin as ms a b chk ns cb = true) (hn : headOp as ms a [] nb rest = ao as a)
    (hrun : runD call ρ0 es (opsOf as ms ((a, chk, ns) :: (b, cb, nb) :: rest)) σ K = true) : runD call ρ0 es (opsOf as ms ((b, cb, []) :: (a, [], nb) :: rest)) σ K = true := by
  obtain ⟨hlt, rfl, rfl, hi, n, x, u, m, y, t, e1, e2⟩ := twin_spec ht
  have hb : headOp as ms b cb [] ((a, [], nb) :: rest) = ao as b := by
    simp only [headOp]; rw [not_twin_rev hlt]; rfl
  have ha : headOp as ms a [] [] ((b, cb, nb) :: rest) = ⟨none, .stw n x u y, none⟩ := by
    simp only [headOp, ht, cond_true]; rw [e1, e2]; rfl
  have key : ∀ σ K, stepA call (headOp as ms b cb nb rest) σ K = true → stepA call ⟨none, .store m y t, none⟩ σ K = true := fun σ K k => by
    rw [← e2]; exact stepA_head k
  have hie : isEarlyA (headOp as ms b cb nb rest) = false := by rw [isEarly_head, e2]; rfl
  have hic : isCall (headOp as ms b cb nb rest).op = false := by rw [isCall_head, e2]; rfl
  simp only [opsOf, hb, hn]
  simp only [opsOf, ha] at hrun
  rw [e1, e2]
  generalize headOp as ms b cb nb rest = hd at hrun key hie hic
  generalize opsOf as ms rest = rs at hrun ⊢
  unfold runD at hrun
  obtain ⟨x', u', y', hA, h1, h2, h3, h4, h5, hrun⟩ := step_stw hrun
  simp only [isCall, panO, cond_false, List.map_nil, again, cond_true, calcA] at hrun
  have hes : (bif isEarlyA ⟨none, .stw n x u y, none⟩ then σ.h.sz :: es else es) = es := rfl
  rw [hes] at hrun
  unfold runD at hrun
  obtain ⟨y2, t', hB, g1, g2, g3, hrun⟩ := step_store (key _ _ hrun)
  simp only at g1 g2 g3
  rw [h3] at g1; cases g1
  simp only [hic, panO, cond_false] at hrun
  obtain ⟨hag, hrun⟩ := bif_true hrun
  obtain ⟨hC, q1, q2, q3⟩ := store_swap h4 h5 g3
  rw [hie, cond_false] at hrun
  unfold runD
  refine store_step h3 g2 q1 ?_
  have hag' : again σ.regs hC (cb.map (ao as)) = true := by rw [again_iadr q3 hi]; exact hag
  simp only [isCall, panO, cond_false, hag', cond_true, List.map_nil, calcA]
  have hes : (bif isEarlyA ⟨none, .store m y t, none⟩ then σ.h.sz :: es else es) = es := rfl
  rw [hes]
  unfold runD
  refine store_step h1 h2 q2 ?_
  simp only [isCall, panO, cond_false, List.map_nil, again, cond_true]
  exact hrun

/-- How matters stand while a region's operations come up. -/
structure Mid (W : List Nat → Plan → Prop) (P : Program) (B0 B : Base) (N : Nat) (ops : Array Oper) (as : List AOper) (ms el : List Nat) (pe : Nat → Option Nat) (s : Array Bool) (seen : List Nat) (pl : Plan) (φ : Phi) (σ : St) (a : Act) (w : World) : Prop where
  size : s.size = ops.size
  closed : ∀ j i, Listed s j → (mk ms j).testBit i = true → Listed s i
  acts : ∀ b ∈ pl.map (·.1), ¬ Listed s b
  cover : ∀ i, i < ops.size → i ∈ seen ++ planOrder pl
  bound : ∀ i ∈ seen ++ planOrder pl, i < ops.size
  plan : W seen pl
  waits : ∀ j, j < ops.size → ∀ i ∈ seen ++ nonActs pl ++ el, ¬ Listed s i → disjN (dsts (ao as i)) (looks (ao as j)) = true ∨ (mk ms j).testBit i = true
  facts : ∀ i ∈ seen, ¬ Listed s i → (clsOf (ao as i).op < 2 ∧ Fact σ.regs σ.h (ao as i)) ∨ ∃ id, pe i = some id
  pend : ∀ i id, pe i = some id → i ∈ seen ∧ ¬ Listed s i ∧ i ∈ el ∧ Pend B σ.regs (ao as i) id
  inj : ∀ i j id, pe i = some id → pe j = some id → i = j
  same : ∀ id, (∀ i, pe i ≠ some id) → B.gh id = B0.gh id
  old : ∀ i id, pe i = some id → B0.gh id = none
  num : B.n = B0.n
  room : N ≤ a.tmps.size
  regs : ∀ d v, σ.regs.get d = some v → (∃ i ∈ seen, ¬ Listed s i ∧ (ao as i).dst = some d) ∨ ∃ cv, a.tmps[d]? = some cv ∧ RelV φ v cv
  heap : RelH P B φ σ.h w

theorem put_size (a : Act) (d : Option Tmp) (v : Value) : (a.put d v).tmps.size = a.tmps.size := by
  cases d with
  | none => rfl
  | some d => simp [Act.put]

theorem put_at {a : Act} {d : Tmp} {v : Value} (h : d < a.tmps.size) : (a.put (some d) v).tmps[d]? = some v := by simp [Act.put, h]
theorem put_off {a : Act} {d : Option Tmp} {t : Tmp} {v : Value} (h : d ≠ some t) : (a.put d v).tmps[t]? = a.tmps[t]? := by
  cases d with
  | none => rfl
  | some d => simp only [Act.put]; rw [Array.getElem?_setIfInBounds_ne (fun e => h (by rw [e]))]

theorem compOpers_get {ops0 : Array Oper} : ∀ {l : List Oper} {as : List AOper}, compOpers P N ops0 l = some as → ∀ i o, l[i]? = some o → compOper P N ops0 o = some (ao as i)
  | [], _, _, i, o, hi => by simp at hi
  | x :: l, as, hc, i, o, hi => by
    simp only [compOpers] at hc
    split at hc
    · rename_i y hy
      split at hc
      · rename_i r hr
        cases hc
        cases i with
        | zero => simp at hi; subst hi; simpa [ao, nth] using hy
        | succ i => simpa [ao, nth] using compOpers_get hr i o (by simpa using hi)
      · cases hc
    · cases hc

/-- An operation of which only what it looks at is known. -/
theorem oper_agree {r : Option Nat} {i : Nat} {o : Oper} {x : AOper} {σ : St} {ρ : Regs} {φ : Phi} {a : Act} {w : World} {K : KSt} {next : Act → World → Prop} {Q : Exit → Act → World → Prop} (hcall : CallOK P call) (hi : ops[i]? = some o) (hc : compOper P N ops o = some x)
    (hR : RelR φ N ρ a.tmps) (H : RelH P B φ σ.h w) (hag : AgreeO ρ σ.regs (looks x)) (hs : stepA call x σ K = true)
    (hnext : ∀ v h' cv φ' w', K v ⟨put σ.regs x.dst v, h'⟩ = true → isPan v = none → RelV φ' v cv → RelH P B φ' h' w' → φ.le φ' → Gw B w w' → next (a.put x.dst cv) w')
    (hpan : isCall x.op = true → ∀ v h' cv φ' w', K (.pan v) ⟨σ.regs, h'⟩ = true → RelV φ' v cv → RelH P B φ' h' w' → φ.le φ' → Gw B w w' → Q (.panic [{ v := cv, recovered := false }]) a w') : wpOpIn (FW r) n P ops Q i next a w := by
  obtain ⟨h1, h2, h3, h4⟩ := compOper_spec hc
  unfold wpOpIn
  simp only [hi]
  unfold stepA at hs
  split at hs
  · rename_i hw
    rw [wanted_spec hc hR (by rw [looks_grd hag]; exact hw)]
    simp only [if_true]
    rw [← evalK_agree (looks_op hag)] at hs
    cases hop : compOp P o.op with
    | none => rw [hop] at h3; rw [h3] at hs; simp [evalK, evalA] at hs
    | some op =>
      rw [hop] at h3
      simp only [Option.getD_some] at h3
      rw [h3] at hs
      refine oper_wpIn (K := fun v h' => K v ⟨putP σ.regs (isCall x.op) x.dst v, h'⟩) hcall hR H hop (by rw [h3]; exact hs) ?_ ?_
      · intro v h' cv φ' w' hK g1 g2 g3 g4
        have hn := notPan g1
        simp only [putP, panO_none hn] at hK
        rw [← h1]
        exact hnext v _ _ φ' w' hK hn g1 g2 g3 g4
      · intro hx v h' cv φ' w' hK g1 g2 g3 g4
        rw [← h3] at hx
        simp only [putP, hx, panO, cond_true, isPan] at hK
        exact hpan hx v h' cv φ' w' hK g1 g2 g3 g4
  · rename_i hw
    rw [wanted_spec hc hR (by rw [looks_grd hag]; exact hw)]
    simp only [Bool.false_eq_true, if_false]
    refine ⟨fun _ _ => trivial, ?_⟩
    rw [← h1]
    exact hnext _ _ _ φ w hs rfl (.tup .nil) H φ.le_refl (Gw.refl B w)
  · cases hs

theorem fact_notPan {ops0 : Array Oper} {o : Oper} {x : AOper} {σ : St} {ρ : Regs} {φ : Phi} {a : Act} {w : World} {b : Bool} {v : AV} (hc : compOper P N ops0 o = some x) (hR : RelR φ N ρ a.tmps) (H : RelH P B φ σ.h w) (hag : AgreeO ρ σ.regs (looks x)) (hcls : clsOf x.op < 2)
    (e1 : b = true → evalA σ.regs σ.h x.op = some (v, σ.h)) (e2 : b = false → v = .tup []) : isPan v = none := by
  cases b with
  | false => rw [e2 rfl]; rfl
  | true =>
    obtain ⟨h1, h2, h3, h4⟩ := compOper_spec hc
    have e := e1 rfl
    rw [← evalA_agree (looks_op hag)] at e
    cases hop : compOp P o.op with
    | none => rw [hop] at h3; rw [h3] at e; cases e
    | some op =>
      rw [hop] at h3
      simp only [Option.getD_some] at h3
      rw [h3] at e hcls
      have hn : isCall op = false := by cases op <;> first | rfl | (simp [clsOf] at hcls; done)
      obtain ⟨cv, w', φ', _, g1, _⟩ := evalA_sound (o := o) hR H (compOp_raw hop hn) e
      exact notPan g1

theorem mid_view {W : List Nat → Plan → Prop} {s : Array Bool} {seen : List Nat} {pl : Plan} {φ : Phi} {σ : St} {a : Act} {w : World} {pe : Nat → Option Nat} (M : Mid W P B0 B N ops as ms el pe s seen pl φ σ a w) {i : Nat} (hi : i < ops.size) (hw : ∀ j, (mk ms i).testBit j = true → Listed s j) :
    RelR φ N (restrict σ.regs (looks (ao as i))) a.tmps := by
  refine ⟨M.room, fun t v ht => ?_⟩
  rw [restrict_get] at ht
  split at ht
  · rename_i hm
    rcases M.regs t v ht with ⟨j, hj, hnl, hd⟩ | h
    · exfalso
      rcases M.waits i hi j (List.mem_append_left _ (List.mem_append_left _ hj)) hnl with h | h
      · exact disjN_iff.1 h t (mem_dsts.2 hd) hm
      · exact hnl (hw j h)
    · exact h
  · cases ht

theorem isCall_cls {op : AOp} (h : clsOf op < 2) : isCall op = false := by cases op <;> first | rfl | (simp [clsOf] at h; done)

theorem count_set {s : Array Bool} {i : Nat} (hi : i < s.size) (hn : ¬ Listed s i) : (s.setIfInBounds i true).toList.count false < s.toList.count false := by
  have h0 : s.toList[i]'(by simpa using hi) = false := by
    simp [Listed, hi] at hn; simpa using hn
  have hpos : 0 < s.toList.count false := List.count_pos_iff.2 (by rw [← h0]; exact List.getElem_mem _)
  rw [Array.toList_setIfInBounds, List.count_set (by simpa using hi), h0, if_pos (by rfl), if_neg (by decide)]
  omega

theorem none_left {s : Array Bool} (h : s.toList.count false = 0) (hsz : s.size = ops.size) : Region.ready .any ops s = [] := by
  rw [List.eq_nil_iff_forall_not_mem]
  intro j hj
  obtain ⟨h1, h2, h3⟩ := ready_not hj
  have : false ∈ s.toList := by
    simp [Listed, h3] at h1
    rw [← h1]
    have := Array.getElem_mem_toList h3
    exact this
  have := List.count_pos_iff.2 this
  omega

theorem early_notPan {o : Oper} {op : AOp} {ρ : Regs} {h h' : AHeap} {v : AV} (hc : compOp P o.op = some op) (he : earlyO o = true) (hv : evalA ρ h op = some (v, h')) : isPan v = none := by
  rcases early_comp hc he with ⟨t, z, _, hz, rfl⟩ | ⟨t, x, n, y, _, _, _, rfl⟩ | ⟨t, _, rfl⟩ | ⟨t, l, c, e, sz, bytes, z, x, y, _, _, _, _, _, _, _, rfl⟩ | ⟨t, m, ps, n, sz, z, qs, _, _, rfl⟩
  · cases hn : isNoted z.cells with
    | true =>
      rw [hn, cond_true] at hv
      simp only [evalA] at hv
      cases hb : (Nat.blt 0 z.cells.length && allLeaf z.cells) with
      | false => rw [hb] at hv; cases hv
      | true => rw [hb, cond_true] at hv; cases hv; rfl
    | false =>
      rw [hn, cond_false] at hv
      simp only [evalA, allocA] at hv
      cases hb : Nat.beq z.cells.length 0 with
      | true => rw [hb, cond_true] at hv; cases hv; rfl
      | false =>
        rw [hb, cond_false] at hv
        cases hl : allLeaf z.cells with
        | true => rw [hl, cond_true] at hv; cases hv; rfl
        | false => rw [hl] at hv; cases hv
  · simp only [evalA] at hv
    split at hv
    · rename_i u hu
      unfold boxA at hv
      cases hb : (Nat.beq u.cells.length n && allLeaf u.cells && Nat.blt 0 n) with
      | false => rw [hb] at hv; cases hv
      | true => rw [hb, cond_true] at hv; cases hv; rfl
    · cases hv
  · simp only [evalA] at hv
    cases hv; rfl
  · simp only [evalA] at hv
    split at hv
    · unfold mkslA at hv
      split at hv
      · obtain ⟨_, hv⟩ := cond_some hv
        cases hv; rfl
      · cases hv
    · cases hv
  · simp only [evalA] at hv
    cases hb : (Nat.beq z.length sz && Nat.blt 0 sz && Nat.ble (n * sz) 16777216 && allLeaf z) with
    | false => rw [hb] at hv; cases hv
    | true =>
      rw [hb, cond_true] at hv
      split at hv
      · cases hv; rfl
      · cases hv

theorem early_isE {ops0 : Array Oper} {o : Oper} {x : AOper} (hc : compOper P N ops0 o = some x) (he : earlyO o = true) (hf : x.op ≠ .fail) : isEarlyA x = true := by
  obtain ⟨h1, h2, h3, h4⟩ := compOper_spec hc
  have hgrd : x.grd = none := by
    rcases h4 with ⟨_, h⟩ | ⟨j, wt, g, d, hg, _⟩
    · exact h
    · rw [(early_ops he).1] at hg; cases hg
  unfold isEarlyA
  rw [hgrd]
  cases hop : compOp P o.op with
  | none => rw [hop] at h3; exact absurd h3 hf
  | some op =>
    rw [hop] at h3
    simp only [Option.getD_some] at h3
    rw [h3]
    rcases early_comp hop he with ⟨t, z, _, hz, rfl⟩ | ⟨t, x, n, y, _, _, _, rfl⟩ | ⟨t, _, rfl⟩ | ⟨t, l, c, e, sz, bytes, z, x, y, _, _, _, _, _, _, _, rfl⟩ | ⟨t, m, ps, n, sz, z, qs, _, _, rfl⟩
    · cases isNoted z.cells <;> rfl
    · rfl
    · rfl
    · rfl
    · rfl

theorem head_of_early {o : Oper} {x : AOper} {b : Nat} {chk ns : List Nat} {rest : Plan} {ops0 : Array Oper} (hc : compOper P N ops0 o = some x) (he : earlyO o = true) (hx : x = ao as b) : headOp as ms b chk ns rest = ao as b := by
  refine head_early fun _ n y u e => ?_
  subst hx
  obtain ⟨_, _, h3, _⟩ := compOper_spec hc
  cases hop : compOp P o.op with
  | none => rw [hop] at h3; rw [h3] at e; cases e
  | some op =>
    rw [hop] at h3
    simp only [Option.getD_some] at h3
    rw [h3] at e
    rcases early_comp hop he with ⟨t, z, _, hz, rfl⟩ | ⟨t, x, n, y, _, _, _, rfl⟩ | ⟨t, _, rfl⟩ | ⟨t, l, c, e, sz, bytes, z, x, y, _, _, _, _, _, _, _, rfl⟩ | ⟨t, m, ps, n, sz, z, qs, _, _, rfl⟩
    · cases hn : isNoted z.cells <;> rw [hn] at e <;> cases e
    · cases e
    · cases e
    · cases e
    · cases e

/-- What has come up early has no block in what was there at first. -/
def EsOk (B0 : Base) (pe : Nat → Option Nat) (es : List Nat) : Prop := (∀ i id, pe i = some id → id ∈ es) ∧ ∀ id ∈ es, B0.gh id = none

theorem mid_new {W : List Nat → Plan → Prop} {s : Array Bool} {seen : List Nat} {pl : Plan} {φ : Phi} {σ : St} {a : Act} {w : World} {pe : Nat → Option Nat} (M : Mid W P B0 B N ops as ms el pe s seen pl φ σ a w) : B0.gh σ.h.sz = none := by
  rw [← M.same σ.h.sz fun i hi => ?_]
  · exact M.heap.noGhost
  · obtain ⟨_, _, _, hp, v', ob', _, _, _, e4, _⟩ := M.pend i _ hi
    rw [M.heap.noGhost] at e4; cases e4

/-- The plan's first comes ahead of its turn. -/
theorem ghost_step {s : Array Bool} {seen : List Nat} {b : Nat} {chk ns : List Nat} {rest : Plan} {pe : Nat → Option Nat} {φ : Phi} {σ : St} {a : Act} {w : World} {K : KEx} {ρ0 : Regs} {es : List Nat} (hc : compOpers P N ops ops.toList = some as) (hel : ∀ i ∈ el, ∃ o, ops[i]? = some o ∧ earlyO o = true)
    (M : Mid (POk as ms el) P B0 B N ops as ms el pe s seen ((b, chk, ns) :: rest) φ σ a w) (hb : b ∈ el) (hrun : runD call ρ0 es (opsOf as ms ((b, chk, ns) :: rest)) σ K = true) (hes : EsOk B0 pe es) :
    ∃ B' pe' σ', Mid (POk as ms el) P B0 B' N ops as ms el pe' s (seen ++ b :: ns) rest φ σ' a w ∧ runD call ρ0 (σ.h.sz :: es) (opsOf as ms rest) σ' K = true ∧ EsOk B0 pe' (σ.h.sz :: es) := by
  obtain ⟨o, ho, he⟩ := hel b hb
  have hco := compOpers_get hc b o (by rw [Array.getElem?_toList]; exact ho)
  obtain ⟨h1, h2, h3, h4⟩ := compOper_spec hco
  have hgrd : (ao as b).grd = none := by
    rcases h4 with ⟨_, h⟩ | ⟨j, wt, g, d, hg, _⟩
    · exact h
    · rw [(early_ops he).1] at hg; cases hg
  simp only [opsOf, head_of_early hco he rfl, runD, stepA, hgrd, wantedA] at hrun
  rw [evalK_plain (early_cls hco he).2] at hrun
  split at hrun
  rotate_left
  · cases hrun
  rename_i v h' hv
  obtain ⟨ob, rfl, hobo⟩ : ∃ ob, h' = σ.h.push ob ∧ ob.own = true := by
    cases hop : compOp P o.op with
    | none => rw [hop] at h3; rw [h3] at hv; cases hv
    | some op => rw [hop] at h3; rw [h3] at hv; exact (early_push hop he hv).2
  have hvn : isPan v = none := by
    cases hop : compOp P o.op with
    | none => rw [hop] at h3; rw [h3] at hv; cases hv
    | some op => rw [hop] at h3; rw [h3] at hv; exact early_notPan hop he hv
  have hie : isEarlyA (ao as b) = true := early_isE hco he (fun e => by rw [e] at hv; cases hv)
  simp only [panO_none hvn, hie, cond_true, putP] at hrun
  obtain ⟨hag, hrun⟩ := bif_true hrun
  split at hrun
  rotate_left
  · cases hrun
  rename_i ρ2 hρ2
  obtain ⟨p1, p2, p3, p4, p5, p6, p7⟩ := planOk_cons M.plan
  obtain ⟨p8, p9⟩ := p7 hb
  obtain ⟨c1, c2⟩ := calcA_spec hρ2 p2
  have hng := M.heap.noGhost
  have hbl : ¬ Listed s b := M.acts b List.mem_cons_self
  have hbse : pe b = none := by
    cases e : pe b with
    | none => rfl
    | some id => exact absurd (M.pend b id e).1 p1
  have hids : ∀ j id, pe j = some id → id ≠ σ.h.sz := by
    rintro j id hj rfl
    obtain ⟨_, _, _, hp, v', ob', _, _, _, e4, _⟩ := M.pend j _ hj
    rw [hng] at e4; cases e4
  have hpe : ∀ j id, (if j = b then some σ.h.sz else pe j) = some id → (j = b ∧ id = σ.h.sz) ∨ (j ≠ b ∧ pe j = some id) := by
    intro j id e
    by_cases hj : j = b
    · rw [if_pos hj] at e; cases e; exact .inl ⟨hj, rfl⟩
    · rw [if_neg hj] at e; exact .inr ⟨hj, e⟩
  have hfar : ∀ k ∈ seen, AgreeO σ.regs ρ2 (looks (ao as k)) ∧ AgreeO σ.regs ρ2 (dsts (ao as k)) ∧ (clsOf (ao as k).op = 0 ∨ clsOf (ao as k).op = 2 ∨ k ∈ chk) := by
    intro k hk
    rcases p4 k hk with ⟨_, h⟩ | ⟨⟨q1, q2⟩, q3, q4⟩
    · exact absurd hb h
    · exact ⟨(agree_dsts q1).trans (c1 _ fun j hj => (q3 j hj).1), (agree_dsts q2).trans (c1 _ fun j hj => (q3 j hj).2), q4⟩
  refine ⟨B.add σ.h.sz ob, fun j => if j = b then some σ.h.sz else pe j, ⟨ρ2, σ.h.push ob⟩, ⟨M.size, M.closed, fun k hk => M.acts k (List.mem_cons_of_mem _ hk), fun j hj => ?_, fun j hj => ?_, p6, fun j hj k hk hl => ?_, fun k hk hl => ?_, fun j id hj => ?_, fun j k id hj hk => ?_, fun id hid => ?_, fun j id hj => ?_, M.num, M.room, fun d u hu => ?_, M.heap.pushGhost ob hobo⟩, hrun, fun j id hj => ?_, fun id hid => ?_⟩
  · have := M.cover j hj
    simpa [planOrder] using this
  · exact M.bound j (by simpa [planOrder] using hj)
  · refine M.waits j hj k ?_ hl
    simp only [List.append_assoc, List.cons_append, List.mem_append, List.mem_cons, nonActs] at hk ⊢
    rcases hk with h | rfl | h | h | h
    · exact .inl h
    · exact .inr (.inr (.inr hb))
    · exact .inr (.inl h)
    · exact .inr (.inr (.inl h))
    · exact .inr (.inr (.inr h))
  · simp only [List.mem_append, List.mem_cons] at hk
    rcases hk with hk | rfl | hk
    · rcases M.facts k hk hl with ⟨f1, f2⟩ | ⟨id, hid⟩
      · refine .inl ⟨f1, ?_⟩
        rcases p4 k hk with ⟨_, h⟩ | ⟨⟨q1, q2⟩, q3, q4⟩
        · exact absurd hb h
        · have f3 := f2.agree (ρ' := put σ.regs (ao as b).dst v) (agree_dsts q1) (agree_dsts q2)
          have f4 : Fact (put σ.regs (ao as b).dst v) (σ.h.push ob) (ao as k) := by
            rcases q4 with q4 | q4 | q4
            · exact f3.blind q4
            · omega
            · exact f3.again f1 (again_spec hag k q4)
          exact f4.agree (c1 _ fun j hj => (q3 j hj).1) (c1 _ fun j hj => (q3 j hj).2)
      · exact .inr ⟨id, by rw [if_neg (by rintro rfl; exact p1 hk)]; exact hid⟩
    · exact .inr ⟨σ.h.sz, if_pos rfl⟩
    · exact .inl (c2 k hk)
  · rcases hpe j id hj with ⟨rfl, rfl⟩ | ⟨hjb, hj⟩
    · refine ⟨by simp, hbl, hb, σ.h, v, ob, rfl, hgrd, ?_, Base.add_same _ _ _, fun d hd => ?_⟩
      · have : AgreeO σ.regs ρ2 (looks (ao as j)) := (agree_dsts p8).trans (c1 _ fun k hk => (p9 k hk).1)
        rw [← evalA_agree (looks_op this)]; exact hv
      · have := c1 (dsts (ao as j)) (fun k hk => (p9 k hk).2) d (mem_dsts.2 hd)
        rw [← this, hd, put_same]
    · obtain ⟨k1, k2, k3, k4⟩ := M.pend j id hj
      obtain ⟨q1, q2, _⟩ := hfar j k1
      exact ⟨by simp [k1], k2, k3, (k4.agree q1 q2).base (Base.add_other _ _ (hids j id hj))⟩
  · rcases hpe j id hj with ⟨e1, e2⟩ | ⟨_, hj'⟩
    · rcases hpe k _ hk with ⟨e3, _⟩ | ⟨_, hk'⟩
      · rw [e1, e3]
      · exact absurd e2 (hids k _ hk')
    · rcases hpe k _ hk with ⟨_, e4⟩ | ⟨_, hk'⟩
      · exact absurd e4 (hids j _ hj')
      · exact M.inj j k id hj' hk'
  · have hne : id ≠ σ.h.sz := by
      rintro rfl
      exact hid b (if_pos rfl)
    rw [Base.add_other _ _ hne]
    refine M.same id fun i hi => ?_
    by_cases hib : i = b
    · subst hib; rw [hbse] at hi; cases hi
    · exact hid i (by rw [if_neg hib]; exact hi)
  · rcases hpe j id hj with ⟨rfl, rfl⟩ | ⟨hjb, hj⟩
    · rw [← M.same σ.h.sz fun i hi => hids i _ hi rfl]; exact hng
    · exact M.old j id hj
  · have hnsl : ∀ j ∈ ns, ¬ Listed s j := fun j hj hl => hbl (M.closed j b hl (p3 j hj))
    by_cases hex : ∃ j ∈ ns, (ao as j).dst = some d
    · obtain ⟨j, hj, hjd⟩ := hex
      exact .inl ⟨j, by simp [hj], hnsl j hj, hjd⟩
    · have hsame : (put σ.regs (ao as b).dst v).get d = ρ2.get d := c1 [d] (fun j hj => disjN_iff.2 fun t ht => by
        intro h
        rw [List.mem_singleton] at h
        subst h
        exact hex ⟨j, hj, mem_dsts.1 ht⟩) d (List.mem_singleton.2 rfl)
      simp only at hu
      rw [← hsame] at hu
      by_cases hd : (ao as b).dst = some d
      · exact .inl ⟨b, by simp, hbl, hd⟩
      · rw [put_get hd] at hu
        rcases M.regs d u hu with ⟨j, hj, hnj, hdj⟩ | h
        · exact .inl ⟨j, by simp [hj], hnj, hdj⟩
        · exact .inr h
  · rcases hpe j id hj with ⟨_, e⟩ | ⟨_, h⟩
    · rw [e]; exact List.mem_cons_self
    · exact List.mem_cons_of_mem _ (hes.1 j id h)
  · rcases List.mem_cons.1 hid with e | h
    · rw [e]; exact mid_new M
    · exact hes.2 id h

theorem memN_false {i : Nat} {l : List Nat} (h : i ∉ l) : memN i l = false := by
  cases e : memN i l with
  | false => rfl
  | true => exact absurd (memN_iff.1 e) h

theorem mid_head {s : Array Bool} {seen : List Nat} {b : Nat} {chk ns : List Nat} {rest : Plan} {φ : Phi} {σ : St} {a : Act} {w : World} {pe : Nat → Option Nat} (M : Mid (POk as ms el) P B0 B N ops as ms el pe s seen ((b, chk, ns) :: rest) φ σ a w) : Mid (PHead as ms el) P B0 B N ops as ms el pe s seen ((b, chk, ns) :: rest) φ σ a w := by
  obtain ⟨p1, p2, p3, p4, p5, p6, p7⟩ := planOk_cons M.plan
  exact ⟨M.size, M.closed, M.acts, M.cover, M.bound, ⟨p1, p2, p3, p4, p6, p7⟩, M.waits, M.facts, M.pend, M.inj, M.same, M.old, M.num, M.room, M.regs, M.heap⟩

/-- The second of two stores is drawn first. -/
theorem mid_swap {s : Array Bool} {seen : List Nat} {b c : Nat} {chk ns cb nb : List Nat} {rest : Plan} {φ : Phi} {σ : St} {a : Act} {w : World} {pe : Nat → Option Nat} (M : Mid (POk as ms el) P B0 B N ops as ms el pe s seen ((b, chk, ns) :: (c, cb, nb) :: rest) φ σ a w)
    (hs : swapAt as ms el seen b chk ns ((c, cb, nb) :: rest) c = true) : Mid (PHead as ms el) P B0 B N ops as ms el pe s seen ((c, cb, []) :: (b, [], nb) :: rest) φ σ a w ∧ isTwin as ms b c chk ns cb = true ∧ headOp as ms b [] nb rest = ao as b := by
  obtain ⟨p1, p2, p3, p4, p5, p6, p7⟩ := planOk_cons M.plan
  obtain ⟨q1, q2, q3, q4, q5, q6, q7⟩ := planOk_cons p6
  simp only [swapAt, Bool.and_eq_true] at hs
  obtain ⟨⟨⟨⟨_, ht⟩, hbel⟩, hnb⟩, hsn⟩ := hs
  obtain ⟨hlt, rfl, rfl, hi, n, x, u, m, y, t, e1, e2⟩ := twin_spec ht
  have hb : b ∉ el := fun h => by rw [memN_iff.2 h] at hbel; cases hbel
  have hbit : ∀ d ∈ rest.map (·.1), (mk ms d).testBit b = true := by
    intro d hd
    rcases p5 d (List.mem_cons_of_mem _ hd) with h | h | h
    · exact h
    · exact absurd h hb
    · exfalso
      simp only [swapAt, Bool.and_eq_true] at h
      have : c = d := nbeq_true.1 h.1.1.1.1
      subst this
      exact planOk_fresh q6 c hd (by simp)
  have hdst : dsts (ao as b) = [] := by rw [e1]; rfl
  have hap : ∀ i, apartA as i b = true := fun i => by unfold apartA; rw [hdst]; rfl
  have hcls : clsOf (ao as c).op = 2 := by rw [e2]; rfl
  refine ⟨⟨M.size, M.closed, fun d hd => ?_, fun i h => ?_, fun i h => ?_, ⟨?_, rfl, (by intro i h; cases h), fun i h => ?_, ?_, fun h => ?_⟩, ?_, M.facts, M.pend, M.inj, M.same, M.old, M.num, M.room, M.regs, M.heap⟩, ht, ?_⟩
  · refine M.acts d ?_
    simp only [List.map_cons, List.mem_cons] at hd ⊢
    rcases hd with h | h | h
    · exact .inr (.inl h)
    · exact .inl h
    · exact .inr (.inr h)
  · have := M.cover i h
    simp only [planOrder, List.mem_append, List.mem_cons, List.nil_append, List.cons_append] at this ⊢
    rcases this with h | h | h | h | h
    · exact .inl h
    · exact .inr (.inr (.inl h))
    · exact .inr (.inl h)
    · exact .inr (.inr (.inr (.inl h)))
    · exact .inr (.inr (.inr (.inr h)))
  · refine M.bound i ?_
    simp only [planOrder, List.mem_append, List.mem_cons, List.nil_append, List.cons_append] at h ⊢
    rcases h with h | h | h | h | h
    · exact .inl h
    · exact .inr (.inr (.inl h))
    · exact .inr (.inl h)
    · exact .inr (.inr (.inr (.inl h)))
    · exact .inr (.inr (.inr (.inr h)))
  · exact fun h => q1 (List.mem_append_left _ h)
  · rcases q4 i (List.mem_append_left _ h) with h | ⟨h1, h2, h3⟩
    · exact .inl h
    · exact .inr ⟨h1, (by intro j hj; cases hj), h3⟩
  · unfold planOk
    have hcond : (!memN b (seen ++ [c]) && orderOk as nb && allN nb (fun i => (mk ms i).testBit b)
      && allN (seen ++ [c]) (fun i => ((mk ms b).testBit i && !memN b el) || (apartA as i b && allN nb (apartA as i) && (Nat.beq (clsOf (ao as i).op) 0 || Nat.beq (clsOf (ao as i).op) 2 || memN i [])))
      && allN (rest.map (·.1)) (fun d => (mk ms d).testBit b || memN b el || swapAt as ms el (seen ++ [c]) b [] nb rest d)
      && (!memN b el || (disjN (dsts (ao as b)) (looks (ao as b)) && allN nb (apartA as b)))) = true := by
      have g1 : memN b (seen ++ [c]) = false := memN_false fun h => by
        rcases List.mem_append.1 h with h | h
        · exact p1 h
        · rw [List.mem_singleton] at h
          subst h
          omega
      rw [g1, q2, memN_false hb]
      simp only [Bool.not_false, Bool.true_and, Bool.and_true, Bool.true_or, Bool.and_eq_true]
      refine ⟨⟨allN_iff.2 fun j hj => ?_, allN_iff.2 fun i h => ?_⟩, allN_iff.2 fun d hd => ?_⟩
      · have := allN_iff.1 hnb j hj
        simp only [Bool.and_eq_true] at this
        exact this.1
      · rcases List.mem_append.1 h with h | h
        · have h9 := allN_iff.1 hsn i h
          simp only [Bool.or_eq_true] at h9
          rcases h9 with h9 | h9
          · rw [h9]; rfl
          · rcases p4 i h with ⟨h1, _⟩ | ⟨_, _, h3⟩
            · rw [h1]; rfl
            · rw [hap, h9]
              have : (Nat.beq (clsOf (ao as i).op) 0 || Nat.beq (clsOf (ao as i).op) 2 || memN i []) = true := by
                rcases h3 with h3 | h3 | h3
                · rw [h3]; rfl
                · rw [h3]; rfl
                · cases h3
              rw [this]; simp
        · rw [List.mem_singleton] at h
          subst h
          have h9 : allN nb (apartA as i) = true := allN_iff.2 fun j hj => by
            have := allN_iff.1 hnb j hj
            simp only [Bool.and_eq_true] at this
            exact this.2
          rw [hap, h9, hcls]; simp
      · rw [hbit d hd]; rfl
    rw [hcond, cond_true]
    refine planOk_perm (fun i => ?_) q6
    simp only [List.mem_append, List.mem_cons, List.not_mem_nil, or_false]
    constructor
    · rintro ((h | h) | h | h)
      · exact .inl (.inl h)
      · exact .inr (.inl h)
      · exact .inl (.inr h)
      · exact .inr (.inr h)
    · rintro ((h | h) | h | h)
      · exact .inl (.inl h)
      · exact .inr (.inl h)
      · exact .inl (.inr h)
      · exact .inr (.inr h)
  · exact ⟨(q7 h).1, by intro j hj; cases hj⟩
  · intro j hj k hk hl
    refine M.waits j hj k ?_ hl
    simpa [nonActs] using hk
  · cases rest with
    | nil => rfl
    | cons p l =>
      obtain ⟨d, cd, nd⟩ := p
      simp only [headOp]
      have : isTwin as ms b d [] nb cd = false := by
        simp [isTwin, hbit d (by simp)]
      rw [this]; rfl

/-- The plan goes on until the one that is drawn is its first. -/
theorem catch_up {s : Array Bool} {φ : Phi} {a : Act} {w : World} {K : KEx} {ρ0 : Regs} {i : Nat} (hc : compOpers P N ops ops.toList = some as) (hel : ∀ i ∈ el, ∃ o, ops[i]? = some o ∧ earlyO o = true) (hw : ∀ j, (mk ms i).testBit j = true → Listed s j) :
    ∀ (pl : Plan) (seen : List Nat) (B : Base) (pe : Nat → Option Nat) (σ : St) (es : List Nat), Mid (POk as ms el) P B0 B N ops as ms el pe s seen pl φ σ a w → runD call ρ0 es (opsOf as ms pl) σ K = true → EsOk B0 pe es → i ∈ planOrder pl →
    ∃ B' pe' seen' σ' chk ns rest es', Mid (PHead as ms el) P B0 B' N ops as ms el pe' s seen' ((i, chk, ns) :: rest) φ σ' a w ∧ runD call ρ0 es' (opsOf as ms ((i, chk, ns) :: rest)) σ' K = true ∧ EsOk B0 pe' es' := by
  intro pl
  induction pl with
  | nil => intro seen B pe σ es M hrun hes hi; cases hi
  | cons p rest ih =>
    obtain ⟨b, chk, ns⟩ := p
    intro seen B pe σ es M hrun hes hi
    by_cases hib : i = b
    · subst hib
      exact ⟨B, pe, seen, σ, chk, ns, rest, es, mid_head M, hrun, hes⟩
    obtain ⟨p1, p2, p3, p4, p5, p6, p7⟩ := planOk_cons M.plan
    have hbl : ¬ Listed s b := M.acts b List.mem_cons_self
    simp only [planOrder, List.cons_append, List.mem_cons, List.mem_append] at hi
    rcases hi with hi | hi | hi
    · exact absurd hi hib
    · exact absurd (hw b (p3 i hi)) hbl
    · by_cases hb : b ∈ el
      · obtain ⟨B', pe', σ', M', hrun', hes'⟩ := ghost_step hc hel M hb hrun hes
        exact ih _ B' pe' σ' _ M' hrun' hes' hi
      · rcases planOrder_acts p6 i hi with h | ⟨b', hb', hbit⟩
        · rcases p5 i h with h | h | h
          · exact absurd (hw b h) hbl
          · exact absurd h hb
          · cases rest with
            | nil => cases h
            | cons q rest =>
              obtain ⟨c, cb, nb⟩ := q
              have hci : c = i := by
                simp only [swapAt, Bool.and_eq_true] at h
                exact nbeq_true.1 h.1.1.1.1
              subst hci
              obtain ⟨M', ht, hn⟩ := mid_swap M h
              exact ⟨B, pe, seen, σ, cb, [], (b, [], nb) :: rest, es, M', run_swap ht hn hrun, hes⟩
        · exact absurd (hw b' hbit) (M.acts b' (List.mem_cons_of_mem _ hb'))

/-- An operation that came ahead of its turn has its block. -/
theorem oper_fill {r : Option Nat} {i id : Nat} {o : Oper} {x : AOper} {ρ τ : Regs} {φ : Phi} {h : AHeap} {a : Act} {w : World} {next : Act → World → Prop} {Q : Exit → Act → World → Prop} (hi : ops[i]? = some o) (hc : compOper P N ops o = some x) (he : earlyO o = true)
    (hR : RelR φ N ρ a.tmps) (H : RelH P B φ h w) (hag : AgreeO ρ τ (looks x)) (hp : Pend B τ x id)
    (hnext : ∀ v cv φ' w', (∀ d, x.dst = some d → τ.get d = some v) → RelV φ' v cv → RelH P (B.del id) φ' h w' → φ.le φ' → Gw B w w' → next (a.put x.dst cv) w') : wpOpIn (FW r) n P ops Q i next a w := by
  obtain ⟨h1, h2, h3, h4⟩ := compOper_spec hc
  obtain ⟨hp, v, ob, rfl, e2, e3, e4, e5⟩ := hp
  unfold wpOpIn
  simp only [hi]
  rw [wanted_spec hc hR (b := true) (by rw [e2]; rfl)]
  simp only [if_true]
  rw [← evalA_agree (looks_op hag)] at e3
  cases hop : compOp P o.op with
  | none => rw [hop] at h3; rw [h3] at e3; cases e3
  | some op =>
    rw [hop] at h3
    simp only [Option.getD_some] at h3
    rw [h3] at e3
    refine lands_wpIn (B := B.del hp.sz) (φ := φ) (K := fun v' h' => @decide (v' = v ∧ h' = h) (Classical.propDecidable _)) hop (fun f as e => by subst e; simp [evalA] at e3) (Lands.of_sim (early_fill hR H hop he e3 e4) (by simp)) ?_ ?_
    rotate_left
    · intro v' h' cv φ' w' hK g1 g2 g3 g4
      have hK := @of_decide_eq_true _ (Classical.propDecidable _) hK
      have := early_notPan hop he e3
      rw [← hK.1] at this; cases this
    intro v' h' cv φ' w' hK g1 g2 g3 g4
    have hK := @of_decide_eq_true _ (Classical.propDecidable _) hK
    obtain ⟨rfl, rfl⟩ := hK
    rw [← h1]
    exact hnext _ cv φ' w' e5 g1 g2 g3 g4

theorem draw_sound {r : Option Nat} {Q : Exit → Act → World → Prop} (hcall : CallOK P call) (hc : compOpers P N ops ops.toList = some as) (hm : MaskOk ops.toList ms) (he : edgesOk 0 ops.toList = true) (hel : ∀ i ∈ el, ∃ o, ops[i]? = some o ∧ earlyO o = true) (K : KEx) (ρ0 : Regs) (h0 : ∀ i, i < ops.size → ∀ d, (ao as i).dst = some d → ρ0.get d = none) :
    ∀ (fuel : Nat) (B : Base) (pe : Nat → Option Nat) (s : Array Bool) (seen : List Nat) (pl : Plan) (φ : Phi) (σ : St) (a : Act) (w : World) (es : List Nat), Mid (POk as ms el) P B0 B N ops as ms el pe s seen pl φ σ a w → runD call ρ0 es (opsOf as ms pl) σ K = true → EsOk B0 pe es → RelR φ N ρ0 a.tmps → s.toList.count false ≤ fuel →
    (∀ ex ex' σ' a' w' φ', K ex σ' = true → ExRel φ' ex ex' → At P B0 N φ' σ' a' w' → a'.defers = a.defers → φ.le φ' → Gw B0 w w' → Q ex' a' w') → wpAnyIn (FW r) n P .any ops Q fuel s a w := by
  have done : ∀ (B : Base) (pe : Nat → Option Nat) (s : Array Bool) (seen : List Nat) (pl : Plan) (φ : Phi) (σ : St) (a : Act) (w : World) (es : List Nat), Mid (POk as ms el) P B0 B N ops as ms el pe s seen pl φ σ a w → runD call ρ0 es (opsOf as ms pl) σ K = true →
      (∀ ex ex' σ' a' w' φ', K ex σ' = true → ExRel φ' ex ex' → At P B0 N φ' σ' a' w' → a'.defers = a.defers → φ.le φ' → Gw B0 w w' → Q ex' a' w') → Region.ready .any ops s = [] → Q .normal a w := by
    intro B pe s seen pl φ σ a w es M hrun hQ hr
    have hall : ∀ j, j < ops.size → Listed s j := fun j hj => none_ready he M.size hr (j + 1) j (Nat.lt_succ_self j) hj
    cases pl with
    | cons p rest =>
      obtain ⟨b, c, ns⟩ := p
      exact absurd (hall b (M.bound b (by simp [planOrder]))) (M.acts b List.mem_cons_self)
    | nil =>
      simp only [opsOf, runD] at hrun
      have hB : B = B0 := by
        have h1 := M.num
        have h2 : B.gh = B0.gh := by
          funext id
          refine M.same id fun i hi => ?_
          obtain ⟨k1, k2, _⟩ := M.pend i id hi
          exact k2 (hall i (M.bound i (List.mem_append_left _ k1)))
        cases B; cases B0
        simp only at h1 h2
        subst h1; subst h2; rfl
      subst hB
      refine hQ .normal .normal σ a w φ hrun .normal ⟨⟨M.room, fun t v ht => ?_⟩, M.heap⟩ rfl φ.le_refl (Gw.refl B w)
      rcases M.regs t v ht with ⟨j, hj, hnl, _⟩ | h
      · exact absurd (hall j (M.bound j (List.mem_append_left _ hj))) hnl
      · exact h
  intro fuel
  induction fuel with
  | zero =>
    intro B pe s seen pl φ σ a w es M hrun hes hR0 hcnt hQ
    have hr := none_left (ops := ops) (Nat.le_zero.1 hcnt) M.size
    exact ⟨hr, done B pe s seen pl φ σ a w es M hrun hQ hr⟩
  | succ fuel ih =>
    intro B pe s seen pl φ σ a w es M hrun hes hR0 hcnt hQ
    refine ⟨done B pe s seen pl φ σ a w es M hrun hQ, fun i hi => ?_⟩
    obtain ⟨hnl, hlt, hlt'⟩ := ready_not hi
    have hw := ready_waits hm M.closed hi
    have ho : ops[i]? = some ops[i] := by simp [hlt]
    have hco := compOpers_get hc i ops[i] (by simp [hlt])
    have hdst := (compOper_spec hco)
    have hcnt' : (s.setIfInBounds i true).toList.count false ≤ fuel := by
      have := count_set hlt' hnl; omega
    have hin : ∀ d, (ao as i).dst = some d → d < a.tmps.size := by
      intro d hd
      have := hdst.2.1
      rw [← hdst.1, hd] at this
      simp only [dstOk, Nat.blt_eq] at this
      exact Nat.lt_of_lt_of_le this M.room
    have hself : ¬ (mk ms i).testBit i = true := fun h => hnl (hw i h)
    have hR0' : ∀ (cv : Value) (φ' : Phi), φ.le φ' → RelR φ' N ρ0 (a.put (ao as i).dst cv).tmps := fun cv φ' hle => ⟨by rw [put_size]; exact hR0.1, fun d u hu => by
      obtain ⟨cu, q1, q2⟩ := hR0.2 d u hu
      refine ⟨cu, ?_, q2.mono hle⟩
      rw [put_off fun e => by rw [h0 i hlt d e] at hu; cases hu]; exact q1⟩
    rcases List.mem_append.1 (M.cover i hlt) with hseen | hord
    · have hR := mid_view M hlt hw
      have hgw : ∀ w1 w2, Gw B w1 w2 → Gw B0 w1 w2 := fun w1 w2 g => M.num ▸ g
      have acts' : ∀ b ∈ pl.map (·.1), ¬ Listed (s.setIfInBounds i true) b := by
        intro b' hb' hl
        rw [listed_set hlt'] at hl
        rcases hl with rfl | hl
        · exact planOk_fresh M.plan b' hb' hseen
        · exact M.acts b' hb' hl
      have closed' : ∀ j k, Listed (s.setIfInBounds i true) j → (mk ms j).testBit k = true → Listed (s.setIfInBounds i true) k := by
        intro j k hj hk
        rw [listed_set hlt'] at hj ⊢
        rcases hj with rfl | hj
        · exact .inr (hw k hk)
        · exact .inr (M.closed j k hj hk)
      have regs' : ∀ (cv : Value) (v : AV) (φ' : Phi), (∀ d, (ao as i).dst = some d → σ.regs.get d = some v) → RelV φ' v cv → φ.le φ' →
          ∀ d u, σ.regs.get d = some u → (∃ j ∈ seen, ¬ Listed (s.setIfInBounds i true) j ∧ (ao as j).dst = some d) ∨ ∃ cu, (a.put (ao as i).dst cv).tmps[d]? = some cu ∧ RelV φ' u cu := by
        intro cv v φ' e3 g1 g3 d u hu
        by_cases hd : (ao as i).dst = some d
        · refine .inr ⟨cv, by rw [hd]; exact put_at (hin d hd), ?_⟩
          rw [e3 d hd] at hu
          cases hu
          exact g1
        · rcases M.regs d u hu with ⟨j, hj, hnj, hdj⟩ | ⟨cu, h1, h2⟩
          · refine .inl ⟨j, hj, fun h => ?_, hdj⟩
            rw [listed_set hlt'] at h
            rcases h with rfl | h
            · exact hd hdj
            · exact hnj h
          · exact .inr ⟨cu, by rw [put_off hd]; exact h1, h2.mono g3⟩
      rcases M.facts i hseen hnl with ⟨hcls, b, hb, v, e1, e2, e3⟩ | ⟨id, hid⟩
      · refine oper_agree (K := fun v' σ' => @decide (v' = v ∧ σ'.h = σ.h) (Classical.propDecidable _)) hcall ho hco hR M.heap restrict_agree ?_ ?_ ?_
        · unfold stepA
          rw [hb]
          cases b with
          | true =>
            simp only
            rw [evalK_plain (isCall_cls hcls), e1 rfl]
            simp
          | false =>
            simp only
            simp [e2 rfl]
        rotate_left
        · intro _ v' h' cv φ' w' hK g1 g2 g3 g4
          have hK := @of_decide_eq_true _ (Classical.propDecidable _) hK
          have hv := fact_notPan (b := b) hco hR M.heap restrict_agree hcls e1 e2
          rw [← hK.1] at hv; cases hv
        · intro v' h' cv φ' w' hK _ g1 g2 g3 g4
          have hK := @of_decide_eq_true _ (Classical.propDecidable _) hK
          obtain ⟨rfl, hh⟩ := hK
          simp only at hh
          subst hh
          refine ih B pe _ seen pl φ' σ _ w' es ?_ hrun hes (hR0' cv φ' g3) hcnt' ?_
          · refine ⟨by simpa using M.size, closed', acts', M.cover, M.bound, M.plan, ?_, ?_, ?_, M.inj, M.same, M.old, M.num, by rw [put_size]; exact M.room, regs' cv v' φ' e3 g1 g3, g2⟩
            · intro j hj k hk hl
              exact M.waits j hj k hk fun h => hl ((listed_set hlt').2 (.inr h))
            · intro k hk hl
              exact M.facts k hk fun h => hl ((listed_set hlt').2 (.inr h))
            · intro k id hk
              obtain ⟨k1, k2, k3, k4⟩ := M.pend k id hk
              refine ⟨k1, fun h => ?_, k3, k4⟩
              rw [listed_set hlt'] at h
              rcases h with rfl | h
              · obtain ⟨o', ho', he'⟩ := hel k k3
                have := (early_cls (compOpers_get hc k o' (by rw [Array.getElem?_toList]; exact ho')) he').1
                omega
              · exact k2 h
          · intro ex ex' σ2 a2 w2 φ2 k1 kE k2 k3 k4 k5
            exact hQ ex ex' σ2 a2 w2 φ2 k1 kE k2 (k3.trans (put_defers _ _ _)) (Phi.le_trans g3 k4) ((hgw _ _ g4).trans k5)
      · obtain ⟨k1, k2, k3, k4⟩ := M.pend i id hid
        obtain ⟨o', ho', he'⟩ := hel i k3
        have : o' = ops[i] := by rw [ho] at ho'; exact (Option.some.inj ho').symm
        subst this
        refine oper_fill ho hco he' hR M.heap restrict_agree k4 ?_
        intro v cv φ' w' e3 g1 g2 g3 g4
        have hpe : ∀ j id', (if j = i then none else pe j) = some id' → j ≠ i ∧ pe j = some id' ∧ id' ≠ id := by
          intro j id' e
          by_cases hj : j = i
          · rw [if_pos hj] at e; cases e
          · rw [if_neg hj] at e
            refine ⟨hj, e, ?_⟩
            rintro rfl
            exact hj (M.inj j i _ e hid)
        refine ih (B.del id) (fun j => if j = i then none else pe j) _ seen pl φ' σ _ w' es ?_ hrun ⟨fun j id' e => hes.1 j id' (hpe j id' e).2.1, hes.2⟩ (hR0' cv φ' g3) hcnt' ?_
        · refine ⟨by simpa using M.size, closed', acts', M.cover, M.bound, M.plan, ?_, ?_, ?_, ?_, ?_, ?_, M.num, by rw [put_size]; exact M.room, regs' cv v φ' e3 g1 g3, g2⟩
          · intro j hj k hk hl
            exact M.waits j hj k hk fun h => hl ((listed_set hlt').2 (.inr h))
          · intro k hk hl
            have hki : k ≠ i := fun h => hl ((listed_set hlt').2 (.inl h))
            refine (M.facts k hk fun h => hl ((listed_set hlt').2 (.inr h))).imp_right fun ⟨id', h⟩ => ⟨id', by rw [if_neg hki]; exact h⟩
          · intro k id' hk
            obtain ⟨q1, q2, q3⟩ := hpe k id' hk
            obtain ⟨l1, l2, l3, l4⟩ := M.pend k id' q2
            refine ⟨l1, fun h => ?_, l3, l4.base (Base.del_other _ q3)⟩
            rw [listed_set hlt'] at h
            exact h.elim q1 l2
          · intro j k id' hj hk
            exact M.inj j k id' (hpe j id' hj).2.1 (hpe k id' hk).2.1
          · intro id' hid'
            by_cases hne : id' = id
            · subst hne
              rw [Base.del_same]
              exact (M.old i _ hid).symm
            · rw [Base.del_other _ hne]
              refine M.same id' fun j hj => ?_
              by_cases hji : j = i
              · subst hji; rw [hid] at hj; cases hj; exact hne rfl
              · exact hid' j (by rw [if_neg hji]; exact hj)
          · intro j id' hj
            exact M.old j id' (hpe j id' hj).2.1
        · intro ex ex' σ2 a2 w2 φ2 k1 kE k2 k3 k4 k5
          exact hQ ex ex' σ2 a2 w2 φ2 k1 kE k2 (k3.trans (put_defers _ _ _)) (Phi.le_trans g3 k4) ((hgw _ _ g4).trans k5)
    · obtain ⟨B', pe', seen', σ', chk, ns, rest, es', M', hrun', hes'⟩ := catch_up hc hel hw pl seen B pe σ es M hrun hes hord
      clear M hrun hord hes
      have hgw : ∀ w1 w2, Gw B' w1 w2 → Gw B0 w1 w2 := fun w1 w2 g => M'.num ▸ g
      have hR := mid_view M' hlt hw
      obtain ⟨p1, p2, p3, p4, p6, p7⟩ := M'.plan
      simp only [opsOf, runD, isEarly_head, isCall_head] at hrun'
      have hrun' := stepA_head hrun'
      have hnf : (ao as i).grd = none → (ao as i).op ≠ .fail := fun hg e => by
        simp only [stepA, hg, wantedA, e, evalK, evalA] at hrun'
        cases hrun'
      refine oper_agree hcall ho hco hR M'.heap restrict_agree hrun' ?_ ?_
      rotate_left
      · intro hx v h' cv φ' w' hK g1 g2 g3 g4
        simp only [hx, panO, cond_true, isPan] at hK
        split at hK
        rotate_left
        · cases hK
        rename_i h2 hh
        obtain ⟨B2, n1, n2, n3⟩ := g2.goneAll hh
        have hB : B2 = B0 := by
          have h1 := M'.num
          have h2 : B2.gh = B0.gh := by
            funext id
            rw [n2 id]
            by_cases hm : id ∈ es'
            · rw [if_pos hm]; exact (hes'.2 id hm).symm
            · rw [if_neg hm]; exact M'.same id fun k hk => hm (hes'.1 k id hk)
          cases B2; cases B0
          simp only at n1 h1 h2
          rw [n1, h1]
          subst h2; rfl
        subst hB
        exact hQ (.panic v) _ ⟨ρ0, h2⟩ a w' φ' hK (.panic g1) ⟨hR0.mono g3, n3⟩ rfl g3 (hgw _ _ g4)
      intro v h' cv φ' w' hK hn g1 g2 g3 g4
      simp only [panO_none hn] at hK
      obtain ⟨hag, hK⟩ := bif_true hK
      try simp only at hag hK
      split at hK
      rotate_left
      · cases hK
      rename_i ρ2 hρ2
      obtain ⟨c1, c2⟩ := calcA_spec hρ2 p2
      have hnsl : ∀ j ∈ ns, ¬ Listed (s.setIfInBounds i true) j := by
        intro j hj hl
        rw [listed_set hlt'] at hl
        rcases hl with rfl | hl
        · exact hself (p3 j hj)
        · exact hnl (M'.closed j i hl (p3 j hj))
      have hpei : pe' i = none := by
        cases e : pe' i with
        | none => rfl
        | some id => exact absurd (M'.pend i id e).1 p1
      have hes2 : EsOk B0 pe' (bif isEarlyA (ao as i) then σ'.h.sz :: es' else es') := by
        cases isEarlyA (ao as i) with
        | false => exact hes'
        | true =>
          refine ⟨fun j id e => List.mem_cons_of_mem _ (hes'.1 j id e), fun id hid => ?_⟩
          rcases List.mem_cons.1 hid with e | h
          · rw [e]; exact mid_new M'
          · exact hes'.2 id h
      refine ih B' pe' _ (seen' ++ i :: ns) rest φ' ⟨ρ2, h'⟩ _ w' _ ?_ hK hes2 (hR0' cv φ' g3) hcnt' ?_
      · refine ⟨by simpa using M'.size, ?_, ?_, ?_, ?_, p6, ?_, ?_, ?_, M'.inj, M'.same, M'.old, M'.num, by rw [put_size]; exact M'.room, ?_, g2⟩
        · intro j k hj hk
          rw [listed_set hlt'] at hj ⊢
          rcases hj with rfl | hj
          · exact .inr (hw k hk)
          · exact .inr (M'.closed j k hj hk)
        · intro b hb hl
          rw [listed_set hlt'] at hl
          rcases hl with rfl | hl
          · exact planOk_fresh p6 b hb (by simp)
          · exact M'.acts b (List.mem_cons_of_mem _ hb) hl
        · intro j hj
          have := M'.cover j hj
          simpa [planOrder] using this
        · intro j hj
          exact M'.bound j (by simpa [planOrder] using hj)
        · intro j hj k hk hl
          have hkl : ¬ Listed s k := fun h => hl ((listed_set hlt').2 (.inr h))
          have hki : k ≠ i := fun h => hl ((listed_set hlt').2 (.inl h))
          refine M'.waits j hj k ?_ hkl
          simp only [List.append_assoc, List.cons_append, List.mem_append, List.mem_cons, nonActs] at hk ⊢
          rcases hk with h | h | h | h | h
          · exact .inl h
          · exact absurd h hki
          · exact .inr (.inl h)
          · exact .inr (.inr (.inl h))
          · exact .inr (.inr (.inr h))
        · intro k hk hl
          have hkl : ¬ Listed s k := fun h => hl ((listed_set hlt').2 (.inr h))
          have hki : k ≠ i := fun h => hl ((listed_set hlt').2 (.inl h))
          simp only [List.mem_append, List.mem_cons] at hk
          rcases hk with hk | hk | hk
          · rcases M'.facts k hk hkl with ⟨f1, f2⟩ | h
            · refine .inl ⟨f1, ?_⟩
              rcases p4 k hk with ⟨h, _⟩ | ⟨⟨q1, q2⟩, q3, q4⟩
              · exact absurd (hw k h) hkl
              · have f3 := f2.agree (ρ' := put σ'.regs (ao as i).dst v) (agree_dsts q1) (agree_dsts q2)
                have f4 : Fact (put σ'.regs (ao as i).dst v) h' (ao as k) := by
                  rcases q4 with q4 | q4 | q4
                  · exact f3.blind q4
                  · omega
                  · exact f3.again f1 (again_spec hag k q4)
                exact f4.agree (c1 _ fun j hj => (q3 j hj).1) (c1 _ fun j hj => (q3 j hj).2)
            · exact .inr h
          · exact absurd hk hki
          · exact .inl (c2 k hk)
        · intro k id hk
          obtain ⟨k1, k2, k3, k4⟩ := M'.pend k id hk
          refine ⟨by simp [k1], fun h => ?_, k3, ?_⟩
          · rw [listed_set hlt'] at h
            rcases h with rfl | h
            · exact p1 k1
            · exact k2 h
          · rcases p4 k k1 with ⟨h, _⟩ | ⟨⟨q1, q2⟩, q3, q4⟩
            · exact absurd (hw k h) k2
            · exact (k4.agree (ρ' := put σ'.regs (ao as i).dst v) (agree_dsts q1) (agree_dsts q2)).agree (c1 _ fun j hj => (q3 j hj).1) (c1 _ fun j hj => (q3 j hj).2)
        · intro d u hu
          by_cases hex : ∃ j ∈ ns, (ao as j).dst = some d
          · obtain ⟨j, hj, hjd⟩ := hex
            exact .inl ⟨j, by simp [hj], hnsl j hj, hjd⟩
          · have hsame : (put σ'.regs (ao as i).dst v).get d = ρ2.get d := c1 [d] (fun j hj => disjN_iff.2 fun t ht => by
              intro h
              rw [List.mem_singleton] at h
              subst h
              exact hex ⟨j, hj, mem_dsts.1 ht⟩) d (List.mem_singleton.2 rfl)
            simp only at hu
            rw [← hsame] at hu
            by_cases hd : (ao as i).dst = some d
            · rw [hd, put_same] at hu
              cases hu
              exact .inr ⟨cv, by rw [hd]; exact put_at (hin d hd), g1⟩
            · rw [put_get hd] at hu
              rcases M'.regs d u hu with ⟨j, hj, hnj, hdj⟩ | ⟨cu, h1, h2⟩
              · refine .inl ⟨j, by simp [hj], fun h => ?_, hdj⟩
                rw [listed_set hlt'] at h
                rcases h with rfl | h
                · exact p1 hj
                · exact hnj h
              · exact .inr ⟨cu, by rw [put_off hd]; exact h1, h2.mono g3⟩
      · intro ex ex' σ2 a2 w2 φ2 k1 kE k2 k3 k4 k5
        exact hQ ex ex' σ2 a2 w2 φ2 k1 kE k2 (k3.trans (put_defers _ _ _)) (Phi.le_trans g3 k4) ((hgw _ _ g4).trans k5)

theorem compDreg_spec {x : ACode} (hd : compDreg as ops = some x) : ∃ l0 pl, drawOk as (masks ops.toList []) (earlies ops) ops.size ops.toList l0 pl = true ∧ x = .dreg (l0.map (ao as)) (opsOf as (masks ops.toList []) pl) := by
  unfold compDreg compDraw at hd
  simp only at hd
  generalize (List.filter (fun i => !memN i _ && _) (List.range ops.size)) = l0 at hd
  generalize (planOf as _ _ _ _ _ _) = pl at hd
  cases hb : drawOk as (masks ops.toList []) (earlies ops) ops.size ops.toList l0 pl with
  | false => rw [hb] at hd; cases hd
  | true =>
    rw [hb, cond_true] at hd
    cases hd
    exact ⟨l0, pl, hb, rfl⟩

theorem not_listed0 {k i : Nat} : ¬ Listed (Array.replicate k false) i := by
  unfold Listed
  by_cases h : i < k
  · simp [h]
  · simp [Array.getElem?_eq_none, h]

theorem unset_get {ρ : Regs} {d : Option Nat} {t : Nat} {v : AV} (h : (unset ρ d).get t = some v) : ρ.get t = some v ∧ d ≠ some t := by
  cases d with
  | none => exact ⟨h, by simp⟩
  | some d =>
    simp only [unset] at h
    rw [PT.get_setO] at h
    split at h
    · cases h
    · rename_i hne
      exact ⟨h, fun e => hne (by cases e; rfl)⟩
theorem unsets_get : ∀ {l : List AOper} {ρ : Regs} {t : Nat} {v : AV}, (unsets l ρ).get t = some v → ρ.get t = some v ∧ ∀ o ∈ l, o.dst ≠ some t
  | [], ρ, t, v, h => ⟨h, by simp⟩
  | o :: l, ρ, t, v, h => by
    obtain ⟨h1, h2⟩ := unsets_get (l := l) h
    obtain ⟨h3, h4⟩ := unset_get h1
    refine ⟨h3, fun p hp => ?_⟩
    rcases List.mem_cons.1 hp with rfl | hp
    · exact h4
    · exact h2 p hp
theorem unsetP_get : ∀ {l : List (AOper × List AOper × List AOper)} {ρ : Regs} {t : Nat} {v : AV}, (unsetP l ρ).get t = some v → ρ.get t = some v ∧ ∀ o, (∃ e ∈ l, o.dst = e.1.dst ∨ o ∈ e.2.2) → o.dst ≠ some t
  | [], ρ, t, v, h => ⟨h, by simp⟩
  | (a, c, ns) :: l, ρ, t, v, h => by
    obtain ⟨h1, h2⟩ := unsetP_get (l := l) h
    obtain ⟨h3, h4⟩ := unsets_get h1
    obtain ⟨h5, h6⟩ := unset_get h3
    refine ⟨h5, fun o ⟨e, he, ho⟩ => ?_⟩
    rcases List.mem_cons.1 he with rfl | he
    · rcases ho with ho | ho
      · rw [ho]; exact h6
      · exact h4 o ho
    · exact h2 o ⟨e, he, ho⟩
theorem headOp_dst {a : Nat} {chk ns : List Nat} {rest : Plan} : (headOp as ms a chk ns rest).dst = (ao as a).dst := by
  cases rest with
  | nil => rfl
  | cons p l =>
    obtain ⟨b, cb, nb⟩ := p
    simp only [headOp]
    cases ht : isTwin as ms a b chk ns cb with
    | false => rfl
    | true =>
      obtain ⟨_, _, _, _, n, x, u, m, y, t, e1, e2⟩ := twin_spec ht
      rw [e1, e2]; rfl

theorem planOrder_ops : ∀ {pl : Plan} {i : Nat}, i ∈ planOrder pl → ∃ e ∈ opsOf as ms pl, (ao as i).dst = e.1.dst ∨ ao as i ∈ e.2.2
  | [], i, h => by cases h
  | (b, c, ns) :: rest, i, h => by
    simp only [planOrder, List.cons_append, List.mem_cons, List.mem_append] at h
    rcases h with rfl | h | h
    · exact ⟨_, List.mem_cons_self, .inl headOp_dst.symm⟩
    · exact ⟨_, List.mem_cons_self, .inr (List.mem_map.2 ⟨i, h, rfl⟩)⟩
    · obtain ⟨e, he, ho⟩ := planOrder_ops h
      exact ⟨e, List.mem_cons_of_mem _ he, ho⟩

/-- A region that draws its order. -/
theorem dreg_sound {r : Option Nat} {id : Nat} {x : ACode} {Q : Exit → Act → World → Prop} {φ : Phi} {σ : St} {a : Act} {w : World} {K : KEx} {m : Nat} (hmix : P.follows .mixedOrders = true) (hcall : CallOK P call)
    (hc : compOpers P N ops ops.toList = some as) (hd : compDreg as ops = some x) (A : At P B N φ σ a w) (hr : runC call m x σ K = true)
    (hQ : ∀ ex ex' σ' a' w' φ', K ex σ' = true → ExRel φ' ex ex' → At P B N φ' σ' a' w' → a'.defers = a.defers → φ.le φ' → Gw B w w' → Q ex' a' w') : (Code.region id ops true).wpIn (FW r) n P Q a w := by
  obtain ⟨l0, pl, hok, rfl⟩ := compDreg_spec hd
  have hm := masks_ok ops.toList
  simp only [runC] at hr
  have hel : ∀ i ∈ earlies ops, ∃ o, ops[i]? = some o ∧ earlyO o = true := fun i hi => earlies_spec hi
  generalize masks ops.toList [] = ms at hok hm hr
  generalize earlies ops = el at hok hel
  unfold drawOk at hok
  simp only [Bool.and_eq_true] at hok
  obtain ⟨⟨⟨⟨⟨⟨d1, d2⟩, d3⟩, d4⟩, d5⟩, d6⟩, d7⟩ := hok
  split at hr
  rotate_left
  · cases hr
  rename_i ρ hρ
  obtain ⟨c1, c2⟩ := calcA_spec hρ d3
  refine wpIn_region_any hmix ?_
  have hd0 : ∀ i, i < ops.size → ∀ d, (ao as i).dst = some d → (unsetP (opsOf as ms pl) (unsets (l0.map (ao as)) σ.regs)).get d = none := by
    intro i hi d hdd
    cases hg : (unsetP (opsOf as ms pl) (unsets (l0.map (ao as)) σ.regs)).get d with
    | none => rfl
    | some v =>
      obtain ⟨q1, q2⟩ := unsetP_get hg
      obtain ⟨_, q4⟩ := unsets_get q1
      rcases List.mem_append.1 (memN_iff.1 (allN_iff.1 d6 i (List.mem_range.2 hi))) with h | h
      · exact absurd hdd (q4 _ (List.mem_map.2 ⟨i, h, rfl⟩))
      · exact absurd hdd (q2 _ (planOrder_ops h))
  refine draw_sound (B0 := B) hcall hc hm d2 hel K _ hd0 ops.size B (fun _ => none) _ l0 pl φ ⟨ρ, σ.h⟩ a w.drew [] ?_ hr ⟨fun _ _ e => (by cases e), fun id h => (by cases h)⟩ ⟨A.regs.1, fun t v ht => A.regs.2 t v (unsets_get (unsetP_get ht).1).1⟩ ?_ ?_
  · refine ⟨by simp, ?_, ?_, ?_, ?_, d5, ?_, ?_, fun i id e => (by cases e), fun i j id e _ => (by cases e), fun _ _ => rfl, fun i id e => (by cases e), rfl, A.regs.1, ?_, A.heap.drew⟩
    · intro j i hj; exact absurd hj not_listed0
    · intro b _; exact not_listed0
    · intro i hi
      exact memN_iff.1 (allN_iff.1 d6 i (List.mem_range.2 hi))
    · intro i hi
      exact nblt_true.1 (allN_iff.1 d7 i hi)
    · intro j hj i hi _
      have := allN_iff.1 (allN_iff.1 d4 j (List.mem_range.2 hj)) i hi
      simpa using this
    · intro i hi _; exact .inl (c2 i hi)
    · intro d v hv
      by_cases hex : ∃ j ∈ l0, (ao as j).dst = some d
      · obtain ⟨j, hj, hjd⟩ := hex
        exact .inl ⟨j, hj, not_listed0, hjd⟩
      · refine .inr (A.regs.2 d v ?_)
        rw [← hv]
        exact c1 [d] (fun j hj => disjN_iff.2 fun t ht => by
          intro h
          rw [List.mem_singleton] at h
          subst h
          exact hex ⟨j, hj, mem_dsts.1 ht⟩) d (List.mem_singleton.2 rfl)
  · rw [Array.toList_replicate, List.count_replicate]; simp
  · intro ex ex' σ' a' w' φ' h1 hE h2 h3 h4 h5
    exact hQ ex ex' σ' a' w' φ' h1 hE h2 h3 h4 ((Gw.drew B w).trans h5)

end
end
end Go.Ab
