/-
  strconv.ParseInt at base 10 and 64 bits, which is not walked: by the library's contract; where the number is out of range the variable ErrRange is wanted (the heap's object 0).
-/
import Derived.Test.YtgmdelacokkenaaGreatDoorAbPrim
import Derived.Shelf.Strconv.ParseIntPublic10
namespace Go.Ab
noncomputable section
set_option linter.unusedSimpArgs false
set_option linter.unusedVariables false
open Go.Shelf Go.RowKit Go.Lib
open Go.Proofs (LaysC.n174 Any.strconv_ParseInt_10_at64_ok Any.strconv_ParseInt_10_at64_range)

/-- Nothing: no number; nothing inside: out of range. -/
def pM : List Nat → Nat → Option (Option Nat)
  | [], a => some (some a)
  | c :: l, a => bif Nat.ble 48 c && Nat.ble c 57 then
      (bif Nat.ble 1844674407370955162 a then some none else bif Nat.blt 18446744073709551615 (a * 10 + (c - 48)) then some none else pM l (a * 10 + (c - 48)))
    else none
def pU (l : List Nat) : Option (Option Nat) :=
  match l with
  | [] => none
  | l => pM l 0
def pI (l : List Nat) : Option (Option Int) :=
  match l with
  | [] => none
  | c :: r => match pU (bif Nat.beq c 43 || Nat.beq c 45 then r else l) with
    | none => none
    | some none => some none
    | some (some u) => bif Nat.beq c 45 then (bif Nat.blt 9223372036854775808 u then some none else some (some (-(u : Int)))) else bif Nat.ble 9223372036854775808 u then some none else some (some (.ofNat u))
def pSat (l : List Nat) : Int :=
  match l with
  | [] => .ofNat 9223372036854775807
  | c :: _ => bif Nat.beq c 45 then .negSucc 9223372036854775807 else .ofNat 9223372036854775807

/-- What is read, as the library's words say it. -/
def Says {α : Type} (o : Option (Option α)) (e : NumEnd α) : Prop := (∀ v, o = some (some v) → e = .ok v) ∧ (o = some none → e = .range)
theorem pM_says : ∀ (l : List UInt8) (a : Nat), Says (pM (l.map UInt8.toNat) a) (parseUintM (2 ^ 64 - 1) a l)
  | [], a => ⟨fun v h => by simp only [List.map_nil, pM, Option.some.injEq] at h; subst h; rfl, fun h => by simp [pM] at h⟩
  | c :: l, a => by
    have ih := pM_says l (a * 10 + (c.toNat - 48))
    have e1 : (Nat.ble 48 c.toNat && Nat.ble c.toNat 57) = decide (48 ≤ c.toNat ∧ c.toNat ≤ 57) := by
      rw [Bool.eq_iff_iff]; simp only [Bool.and_eq_true, nble_true, decide_eq_true_eq]
    have e2 : Nat.ble 1844674407370955162 a = decide (1844674407370955162 ≤ a) := by rw [Bool.eq_iff_iff]; simp only [nble_true, decide_eq_true_eq]
    have e3 : Nat.blt 18446744073709551615 (a * 10 + (c.toNat - 48)) = decide (2 ^ 64 - 1 < a * 10 + (c.toNat - 48)) := by rw [Bool.eq_iff_iff]; simp only [nblt_true, decide_eq_true_eq]
    simp only [List.map_cons, pM, parseUintM, e1, e2, e3, Bool.cond_decide]
    split
    · split
      · exact ⟨fun v h => by simp at h, fun _ => rfl⟩
      · split
        · exact ⟨fun v h => by simp at h, fun _ => rfl⟩
        · exact ih
    · exact ⟨fun v h => by simp at h, fun h => by simp at h⟩
theorem pU_says (l : List UInt8) : Says (pU (l.map UInt8.toNat)) (parseUintB 64 l) := by
  cases l with
  | nil => exact ⟨fun v h => by simp [pU] at h, fun h => by simp [pU] at h⟩
  | cons c l =>
    have := pM_says (c :: l) 0
    simp only [List.map_cons] at this
    simpa only [List.map_cons, pU, parseUintB, reduceCtorEq, if_false] using this
theorem pI_says (l : List UInt8) : Says (pI (l.map UInt8.toNat)) (parseIntB 64 l) := by
  cases l with
  | nil => exact ⟨fun v h => by simp [pI] at h, fun h => by simp [pI] at h⟩
  | cons c l =>
    have e0 : (bif Nat.beq c.toNat 43 || Nat.beq c.toNat 45 then l.map UInt8.toNat else c.toNat :: l.map UInt8.toNat) = (if c.toNat = 43 ∨ c.toNat = 45 then l else c :: l).map UInt8.toNat := by
      by_cases h1 : c.toNat = 43
      · simp [h1]
      · by_cases h2 : c.toNat = 45
        · simp [h2]
        · simp [h1, h2, nbeq_false.2 h1, nbeq_false.2 h2]
    have hu := pU_says (if c.toNat = 43 ∨ c.toNat = 45 then l else c :: l)
    simp only [List.map_cons, pI, e0]
    have hp : parseIntB 64 (c :: l) = match parseUintB 64 (if c.toNat = 43 ∨ c.toNat = 45 then l else c :: l) with
      | .ok u => if ¬ c.toNat = 45 ∧ 2 ^ (64 - 1) ≤ u then .range else if c.toNat = 45 ∧ 2 ^ (64 - 1) < u then .range else .ok (if c.toNat = 45 then -(u : Int) else u)
      | .range => .range
      | e => (match e with | .ok u => .ok u | .range => .range | _ => parseIntB 64 (c :: l)) := by
      simp only [parseIntB]
      cases parseUintB 64 (if c.toNat = 43 ∨ c.toNat = 45 then l else c :: l) <;> rfl
    rw [hp]
    cases h : pU ((if c.toNat = 43 ∨ c.toNat = 45 then l else c :: l).map UInt8.toNat) with
    | none => exact ⟨fun v q => (by simp at q), fun q => (by simp at q)⟩
    | some o =>
      cases o with
      | none => rw [hu.2 h]; exact ⟨fun v q => (by simp at q), fun _ => rfl⟩
      | some u =>
        rw [hu.1 u h]
        by_cases h2 : c.toNat = 45
        · have : Nat.beq c.toNat 45 = true := nbeq_true.2 h2
          simp only [this, h2, cond_true, not_true_eq_false, false_and, if_false, true_and, if_true, nbeq_true.2]
          by_cases h3 : 9223372036854775808 < u
          · have e : Nat.blt 9223372036854775808 u = true := nblt_true.2 h3
            have e' : (2 : Nat) ^ (64 - 1) < u := h3
            simp only [Nat.beq_refl, cond_true, e, if_pos e']
            exact ⟨fun v q => (by simp at q), fun _ => rfl⟩
          · have e : Nat.blt 9223372036854775808 u = false := by rw [← Bool.not_eq_true, nblt_true]; exact h3
            have e' : ¬ (2 : Nat) ^ (64 - 1) < u := h3
            simp only [Nat.beq_refl, cond_true, e, cond_false, if_neg e']
            exact ⟨fun v q => (by simp only [Option.some.injEq] at q; rw [q]), fun q => (by simp at q)⟩
        · have : Nat.beq c.toNat 45 = false := nbeq_false.2 h2
          simp only [this, h2, cond_false, not_false_eq_true, true_and, false_and, if_false]
          by_cases h3 : 9223372036854775808 ≤ u
          · have e : Nat.ble 9223372036854775808 u = true := nble_true.2 h3
            have e' : (2 : Nat) ^ (64 - 1) ≤ u := h3
            simp only [e, cond_true, if_pos e']
            exact ⟨fun v q => (by simp at q), fun _ => rfl⟩
          · have e : Nat.ble 9223372036854775808 u = false := by rw [← Bool.not_eq_true, nble_true]; exact h3
            have e' : ¬ (2 : Nat) ^ (64 - 1) ≤ u := h3
            simp only [e, cond_false, if_neg e']
            exact ⟨fun v q => (by simp only [Option.some.injEq] at q; rw [← q]; rfl), fun q => (by simp at q)⟩
theorem pSat_eq (l : List UInt8) : pSat (l.map UInt8.toNat) = intSat 64 l := by
  cases l with
  | nil => rfl
  | cons c l =>
    by_cases h2 : c.toNat = 45
    · simp only [List.map_cons, pSat, intSat, nbeq_true.2 h2, cond_true, List.head?_cons, Option.map_some, h2]; rfl
    · simp only [List.map_cons, pSat, intSat, nbeq_false.2 h2, cond_false, List.head?_cons, Option.map_some, Option.some.injEq, h2, if_false]; rfl

def pIntP (T G : Nat) : Prim := fun _ _ args h K => match args with
  | [.str s, .int .i64 (.ofNat b), .int .i64 (.ofNat z)] => bif Nat.beq b 10 && Nat.beq z 64 && Nat.ble s.length 1000000 then
      (match pI s with
      | some (some v) => K (.tup [.int .i64 v, .nilIf]) h
      | some none => (match h.get 0 with
        | some (.gvar g) => bif Nat.beq g G then K (.tup [.int .i64 (pSat s), .ifc T (.ptr h.sz 0 0 0)]) (h.push .gone) else false
        | _ => false)
      | none => false)
    else false
  | _ => false

theorem pIntP_mono (T G : Nat) : MonoP (pIntP T G) := by
  intro call call' n args h K K' _ hK s
  unfold pIntP at s ⊢
  split at s
  · rename_i s' b z
    cases hb : (Nat.beq b 10 && Nat.beq z 64 && Nat.ble s'.length 1000000) with
    | false => rw [hb] at s; cases s
    | true =>
      rw [hb, cond_true] at s
      simp only [cond_true]
      split at s
      · exact hK _ _ s
      · split at s
        · rename_i g hg
          cases hc : Nat.beq g G with
          | false => rw [hc] at s; cases s
          | true => rw [hc] at s; exact hK _ _ s
        · cases s
      · cases s
  · cases s

section
variable {P : Program} {ρ : Ren} {B : Base} {φ : Phi} {h : AHeap} {w w' : World}
theorem Gw.of_below (hB : B ≤ w.heap.size) (b : Below w.heap.size w w') : Gw B w w' := by
  have lt : ∀ {k : Nat} {o : Obj}, w.heap[k]? = some o → k < w.heap.size := fun e => (Array.getElem?_eq_some_iff.1 e).1
  exact ⟨b.os, b.tape, b.output, b.size, fun k hk => b.block k (by omega), fun k ds e => (b.block k (lt e)).trans e, fun k r e => ⟨r, (b.block k (lt e)).trans e⟩⟩
theorem RelH.of_below (H : RelH P B φ h w) (b : Below w.heap.size w w') : RelH P B φ h w' := H.keep b.size fun id g L hL => b.block _ (H.lt id g L hL)

/-- A new block of which nothing is known. -/
theorem RelH.pushGone (H : RelH P B φ h w) (b : Below w.heap.size w w') {N : Nat} (hN : w.heap.size ≤ N) {ob : Obj} (ho : w'.heap[N]? = some ob) (hnd : ∀ ds, ob ≠ .deferred ds) :
    φ.le (φ.add h.sz 0 ⟨N, 0, 0, 1, 0⟩) ∧ RelH P B (φ.add h.sz 0 ⟨N, 0, 0, 1, 0⟩) (h.push .gone) w' := by
  have hle : φ.le (φ.add h.sz 0 ⟨N, 0, 0, 1, 0⟩) := Phi.le_add _ (H.fresh 0)
  have hNlt : N < w'.heap.size := (Array.getElem?_eq_some_iff.1 ho).1
  have hB := H.base
  have hphi : ∀ a g K, φ.add h.sz 0 ⟨N, 0, 0, 1, 0⟩ a g = some K → (a = h.sz ∧ g = 0 ∧ K = ⟨N, 0, 0, 1, 0⟩) ∨ (a < h.sz ∧ φ a g = some K) := by
    intro a g K e
    by_cases hi : a = h.sz ∧ g = 0
    · obtain ⟨rfl, rfl⟩ := hi
      rw [Phi.add_same] at e; cases e; exact .inl ⟨rfl, rfl, rfl⟩
    · rw [Phi.add_other _ _ hi] at e
      exact .inr ⟨H.dom _ _ _ e, e⟩
  have hget : ∀ id o', (h.push .gone).get id = some o' → (id = h.sz ∧ o' = .gone) ∨ (id < h.sz ∧ h.get id = some o') := by
    intro id o' e
    rw [AHeap.get_push] at e
    by_cases hi : id = h.sz
    · rw [if_pos hi] at e; cases e; exact .inl ⟨hi, rfl⟩
    · rw [if_neg hi] at e
      refine .inr ⟨?_, e⟩
      rcases Nat.lt_or_ge id h.sz with h1 | h1
      · exact h1
      · rw [H.gone id h1] at e; cases e
  refine ⟨hle, Nat.le_trans H.base b.size, fun id g K e => ?_, fun id hid => ?_, fun id o' e hd => ?_, fun id g K e => ?_, fun id o' g K e e' => ?_, fun id o' id' g g' K K' e hown' e1 e2 hblk => ?_, fun id g K e ds => ?_, fun id o' e => ?_⟩
  · rcases hphi _ _ _ e with ⟨rfl, _, _⟩ | ⟨h1, _⟩ <;> simp <;> omega
  · simp at hid
    rw [AHeap.get_push, if_neg (by omega)]
    exact H.gone id (by omega)
  · rcases hget _ _ e with ⟨rfl, rfl⟩ | ⟨h1, h2⟩
    · trivial
    · exact (H.objn id o' h2 hd).other hle (fun g => Phi.add_other _ _ (by omega)) (fun g K hK => b.block _ (H.lt id g K hK))
  · rcases hphi _ _ _ e with ⟨_, _, rfl⟩ | ⟨_, h2⟩
    · exact hNlt
    · exact Nat.lt_of_lt_of_le (H.lt id g K h2) b.size
  · rcases hphi _ _ _ e' with ⟨rfl, _, rfl⟩ | ⟨h1, h2⟩
    · rcases hget _ _ e with ⟨_, rfl⟩ | ⟨h3, _⟩
      · exact ⟨fun _ => by show B.n ≤ N; omega, fun q => by cases q⟩
      · omega
    · rcases hget _ _ e with ⟨rfl, _⟩ | ⟨_, h3⟩
      · omega
      · exact H.own id o' g K h3 h2
  · rcases hphi _ _ _ e1 with ⟨rfl, _, rfl⟩ | ⟨h1, h2⟩
    · rcases hphi _ _ _ e2 with ⟨rfl, _, rfl⟩ | ⟨h3, h4⟩
      · rfl
      · have := H.lt id' g' K' h4
        have e : N = K'.blk := hblk
        omega
    · rcases hphi _ _ _ e2 with ⟨rfl, _, rfl⟩ | ⟨h3, h4⟩
      · have := H.lt id g K h2
        have e : K.blk = N := hblk
        omega
      · rcases hget _ _ e with ⟨rfl, _⟩ | ⟨_, h5⟩
        · omega
        · exact H.disj id o' id' g g' K K' h5 hown' h2 h4 hblk
  · rcases hphi _ _ _ e with ⟨_, _, rfl⟩ | ⟨_, h2⟩
    · show w'.heap[N]? ≠ _
      rw [ho]
      exact fun q => hnd ds (Option.some.inj q)
    · rw [b.block _ (H.lt id g K h2)]; exact H.nodef id g K h2 ds
  · obtain ⟨h1, h2, h3, h4⟩ := H.ghost id o' e
    have hlt : id ≠ h.sz := by omega
    exact ⟨fun u hu => by rw [AHeap.get_push, if_neg hlt] at hu; exact h1 u hu, Nat.lt_succ_of_lt h2, fun g => by rw [Phi.add_other _ _ (by omega)]; exact h3 g, h4⟩

theorem pIntP_ok {f T G : Nat} (L : LaysC.n174 P ρ) (hf : ρ.f 174 = f) (hT : ρ.t 168 = T) (hG : ρ.g 16 = G) (hmix : ∀ args w, (callFunc f args).run P w = .ok (.enter f args) w) : PrimOK P f (pIntP T G) := by
  intro call n _ args h K hK
  subst hf; subst hT; subst hG
  unfold pIntP at hK
  split at hK
  rotate_left
  · cases hK
  rename_i s b z
  cases hb : (Nat.beq b 10 && Nat.beq z 64 && Nat.ble s.length 1000000) with
  | false => rw [hb] at hK; cases hK
  | true =>
  rw [hb, cond_true] at hK
  simp only [Bool.and_eq_true, nbeq_true, nble_true] at hb
  obtain ⟨⟨rfl, rfl⟩, hlen⟩ := hb
  refine ⟨fun v hv id e => ?_, fun B φ w cargs H hA => ?_⟩
  · simp only [List.mem_cons, List.not_mem_nil, or_false] at hv
    rcases hv with rfl | rfl | rfl <;> cases e
  cases hA with
  | cons h1 h2 =>
  cases h2 with
  | cons h2 h3 =>
  cases h3 with
  | cons h3 h4 =>
  cases h4; cases h2; cases h3
  cases h1 with
  | str hs =>
  rename_i bs
  have hsz : bs.size ≤ 1000000 := by
    have : bs.size = bs.data.toList.length := Array.length_toList.symm
    rw [this, ← List.length_map (f := UInt8.toNat), hs]; exact hlen
  rw [← hs] at hK
  have hsay := pI_says bs.data.toList
  show Lands P B φ w K ((callFunc (ρ.f 174) ⟨[.string bs, .int .i64 10, .int .i64 64]⟩).run P w)
  rw [hmix]
  intro n
  split at hK
  · rename_i v hv
    refine ((callsIn_wide (n := n)).2 (Any.strconv_ParseInt_10_at64_ok L bs (by omega) v (hsay.1 v hv) w)).mono ?_
    rintro e w' ⟨rfl, hW⟩
    have hb1 : Below w.heap.size w w' := by
      rcases hW with rfl | ⟨t, rfl⟩
      · exact Below.refl _ _
      · exact Lib.bytesWorld_below _ _ _
    exact .inl ⟨_, h, _, φ, rfl, hK, .tup (.cons (.int _ _) (.cons .nilIf .nil)), H.of_below hb1, φ.le_refl, Gw.of_below H.base hb1⟩
  · rename_i hr
    split at hK
    · rename_i g hg
      cases hc : Nat.beq g (ρ.g 16) with
      | false => rw [hc] at hK; cases hK
      | true =>
      rw [hc, cond_true, pSat_eq] at hK
      have hc := nbeq_true.1 hc
      subst hc
      obtain ⟨Lg, te, pe, _, _, hcell⟩ := H.objn 0 _ hg (by
        cases e : B.gh 0 with
        | none => rfl
        | some o =>
          obtain ⟨h1, _, _, h3⟩ := H.ghost 0 o e
          rw [← h1 _ hg] at h3; cases h3)
      refine ((callsIn_wide (n := n)).2 (Any.strconv_ParseInt_10_at64_range L bs (by omega) (hsay.2 hr) (.iface te pe) w hcell (.inr ⟨te, pe, rfl⟩))).mono ?_
      rintro e w' ⟨N, rfl, q1, q2, hb1⟩
      obtain ⟨p1, p2⟩ := H.pushGone hb1 q1 q2 (fun ds e => by cases e)
      exact .inl ⟨_, _, _, _, rfl, hK, .tup (.cons (.int _ _) (.cons (.ifc (.ptr (Phi.add_same _ _ _ _) (Nat.lt_succ_self 0))) .nil)), p2, p1, Gw.of_below H.base hb1⟩
    · cases hK
  · cases hK
end
end
end Go.Ab
