/-
  What an operation answers hangs on the temporaries that it looks at alone; where it does not act, it leaves the heap; where it reads none, it asks for none.
-/
import Derived.Test.YtgmdelacokkenaaGreatDoorAbReg
namespace Go.Ab
noncomputable section
set_option linter.unusedSimpArgs false
set_option linter.unusedVariables false

def AgreeO (ρ ρ' : Regs) (l : List Nat) : Prop := ∀ t ∈ l, ρ.get t = ρ'.get t

section
variable {ρ ρ' : Regs} {h h' : AHeap} {v : AV}

theorem AgreeO.left {l m : List Nat} (k : AgreeO ρ ρ' (l ++ m)) : AgreeO ρ ρ' l := fun t ht => k t (List.mem_append_left _ ht)
theorem AgreeO.right {l m : List Nat} (k : AgreeO ρ ρ' (l ++ m)) : AgreeO ρ ρ' m := fun t ht => k t (List.mem_append_right _ ht)
theorem AgreeO.symm {l : List Nat} (k : AgreeO ρ ρ' l) : AgreeO ρ' ρ l := fun t ht => (k t ht).symm

theorem ev_agree {x : Opd} (k : AgreeO ρ ρ' (tsO x)) : ev ρ x = ev ρ' x := by
  cases x with
  | t r => exact k r (by simp [tsO])
  | c v => rfl

theorem evs_agree : ∀ {l : List Opd}, AgreeO ρ ρ' (tsOs l) → evs ρ l = evs ρ' l
  | [], _ => rfl
  | x :: l, k => by
    simp only [tsOs] at k
    simp only [evs, ev_agree k.left, evs_agree k.right]

theorem evNat_agree {d : Nat} {x : Option Opd} (k : AgreeO ρ ρ' (tsOpt x)) : evNat ρ d x = evNat ρ' d x := by
  cases x with
  | none => rfl
  | some x => simp only [evNat, ev_agree (show AgreeO ρ ρ' (tsO x) from k)]

theorem fillA_agree : ∀ {l : List (Nat × Nat × Opd)} {c : List AV}, AgreeO ρ ρ' (tsP l) → fillA ρ c l = fillA ρ' c l
  | [], _, _ => rfl
  | (a, b, x) :: l, c, k => by
    simp only [tsP] at k
    simp only [fillA, ev_agree k.left]
    split
    · rw [fillA_agree k.right]
    · rfl

theorem fillRow_agree {sz : Nat} : ∀ {l : List (Nat × Opd)} {c : List (List AV)}, AgreeO ρ ρ' (tsQ l) → fillRow ρ sz c l = fillRow ρ' sz c l
  | [], _, _ => rfl
  | (a, x) :: l, c, k => by
    simp only [tsQ] at k
    simp only [fillRow, ev_agree k.left]
    split
    · rw [fillRow_agree k.right]
    · rfl

theorem evalA_agree {op : AOp} (k : AgreeO ρ ρ' (tsA op)) : evalA ρ h op = evalA ρ' h op := by
  cases op <;> simp only [tsA] at k <;> simp only [evalA, ev1, ev2]
  case mv => rw [ev_agree k]
  case pick => rw [ev_agree k.left.left, ev_agree k.left.right, ev_agree k.right]
  case box => rw [ev_agree k]
  case build => rw [fillA_agree k]
  case bslice => rw [fillRow_agree k]
  case load => rw [ev_agree k]
  case store => rw [ev_agree k.left, ev_agree k.right]
  case nilck => rw [ev_agree k]
  case bin => rw [ev_agree k.left, ev_agree k.right]
  case eq => rw [ev_agree k.left, ev_agree k.right]
  case not => rw [ev_agree k]
  case neg => rw [ev_agree k]
  case conv => rw [ev_agree k]
  case b2s => rw [ev_agree k]
  case cvs => rw [ev_agree k]
  case mkfn => rw [evs_agree k.left, evs_agree k.right]
  case mksl => rw [ev_agree k.left, ev_agree k.right]
  case sl sz x lo hi mx =>
    have k4 := k.right
    have e : ∀ v, sliceA ρ h sz v lo hi mx = sliceA ρ' h sz v lo hi mx := by
      intro v
      simp only [sliceA, evNat_agree k.left.left.right, evNat_agree k.left.right]
      cases mx with
      | none => rfl
      | some m => simp only [evNat_agree k4]
    simp only [ev_agree k.left.left.left, e]
  case sls => simp only [sliceS, ev_agree k.left.left, evNat_agree k.left.right, evNat_agree k.right]
  case fadr => rw [ev_agree k]
  case fld => rw [ev_agree k]
  case iadr => rw [ev_agree k.left, ev_agree k.right]
  case iadra => rw [ev_agree k.left, ev_agree k.right]
  case idxs => rw [ev_agree k.left, ev_agree k.right]
  case idxa => rw [ev_agree k.left, ev_agree k.right]
  case look => rw [ev_agree k.left, ev_agree k.right]
  case stw => rw [ev_agree k.left.left, ev_agree k.left.right, ev_agree k.right]
  case mupd => rw [ev_agree k.left.left, ev_agree k.left.right, ev_agree k.right]
  case ext => rw [ev_agree k]
  case len => rw [ev_agree k]
  case cap => rw [ev_agree k]
  case app => rw [ev_agree k.left, ev_agree k.right]
  case appz => rw [ev_agree k.left, ev_agree k.right]
  case copy => rw [ev_agree k.left, ev_agree k.right]
  case del => rw [ev_agree k.left, ev_agree k.right]
  case clr => rw [ev_agree k]
  case mm => rw [evs_agree k]
  case appb => rw [ev_agree k.left, ev_agree k.right]
  case ustr => rw [ev_agree k.left, ev_agree k.right]
  case uto => rw [ev_agree k]
  case ufr => rw [ev_agree k]
  case sdat => rw [ev_agree k]
  case rng => rw [ev_agree k]
  case ent => rw [ev_agree k]
  case mkif => rw [ev_agree k]
  case tas => rw [ev_agree k]

theorem evalK_agree {call : CallFn} {op : AOp} {K : Kont} (k : AgreeO ρ ρ' (tsA op)) : evalK call ρ h op K = evalK call ρ' h op K := by
  cases hn : isCall op with
  | false => rw [evalK_plain hn, evalK_plain hn, evalA_agree k]
  | true =>
    cases op <;> first | (cases hn; done) | skip
    case nxt x => simp only [evalK, ev_agree (show AgreeO ρ ρ' (tsO x) from k)]
    case call f l =>
      simp only [tsA] at k
      simp only [evalK, ev_agree k.left, evs_agree k.right]
    case pnc x => simp only [evalK, ev_agree (show AgreeO ρ ρ' (tsO x) from k)]
    case dfr f l => rfl
    case rcv => rfl

theorem wanted_agree {g : Option (Nat × Bool)} {op : AOp} {d : Option Nat} (k : AgreeO ρ ρ' (looks ⟨d, op, g⟩)) : wantedA ρ g = wantedA ρ' g := by
  cases g with
  | none => rfl
  | some p =>
    obtain ⟨j, b⟩ := p
    simp only [wantedA, k j (by simp [looks])]

theorem looks_op {o : AOper} (k : AgreeO ρ ρ' (looks o)) : AgreeO ρ ρ' (tsA o.op) := by
  intro t ht
  refine k t ?_
  unfold looks
  split
  · exact List.mem_cons_of_mem _ ht
  · exact ht

theorem looks_grd {o : AOper} (k : AgreeO ρ ρ' (looks o)) : wantedA ρ o.grd = wantedA ρ' o.grd := by
  obtain ⟨d, op, g⟩ := o
  exact wanted_agree k

/-! ### What does not act -/
theorem evalA_keeps {op : AOp} (hc : clsOf op < 2) (he : evalA ρ h op = some (v, h')) : h' = h := by
  cases op <;> first | (simp [clsOf] at hc; done) | skip
  all_goals simp only [evalA] at he
  all_goals first | (exact (pureV_some he).2) | (cases he; done) | skip
  case pick =>
    split at he
    · exact (pureV_some he).2
    · exact (pureV_some he).2
    · cases he
  case build =>
    split at he
    · cases he; rfl
    · cases he
  case eq =>
    split at he
    · split at he
      · cases he; rfl
      · cases he
    · cases he
  case mkfn =>
    split at he
    · cases he; rfl
    · cases he
  case mm =>
    split at he
    · exact (pureV_some he).2
    · cases he

theorem pureV_at {r : Option AV} {g : AHeap} (he : pureV r h = some (v, h')) : pureV r g = some (v, g) := by
  rw [(pureV_some he).1]; rfl

theorem evalA_blind {op : AOp} {g : AHeap} (hc : clsOf op = 0) (he : evalA ρ h op = some (v, h')) : evalA ρ g op = some (v, g) := by
  cases op <;> first | (simp [clsOf] at hc; done) | skip
  all_goals simp only [evalA] at he ⊢
  all_goals first | (exact pureV_at he) | (cases he; done) | skip
  case pick =>
    split at he
    · exact pureV_at he
    · exact pureV_at he
    · cases he
  case build =>
    split at he
    · cases he; rfl
    · cases he
  case mkfn =>
    split at he
    · cases he; rfl
    · cases he
  case mm =>
    split at he
    · exact pureV_at he
    · cases he

/-! ### Values that are the same -/
theorem kidx_eq {a b : IntKind} (k : Nat.beq (kidx a) (kidx b) = true) : a = b := by
  cases a <;> cases b <;> first | rfl | (exact absurd k (by decide))

theorem sameFn_eq {f g : AFn} (k : sameFn f g = true) : f = g := by
  cases f <;> cases g <;> simp only [sameFn] at k <;> first | (cases k; done) | rw [Nat.eq_of_beq_eq_true k]

mutual
theorem same_eq (a b : AV) (k : AV.same a b = true) : a = b := by
  cases a <;> cases b <;> simp only [AV.same, Bool.and_eq_true] at k <;> try (cases k; done)
  case bool.bool => rw [eq_of_beq k]
  case int.int => rw [kidx_eq k.1, eq_of_beq ((ieqb_eq _ _).symm.trans k.2)]
  case str.str => rw [eq_of_beq ((leqb_eq _ _).symm.trans k)]
  case ptr.ptr => rw [Nat.eq_of_beq_eq_true k.1.1.1, Nat.eq_of_beq_eq_true k.1.1.2, Nat.eq_of_beq_eq_true k.1.2, Nat.eq_of_beq_eq_true k.2]
  case nilPtr.nilPtr => rfl
  case slc.slc => rw [Nat.eq_of_beq_eq_true k.1.1.1.1.1, Nat.eq_of_beq_eq_true k.1.1.1.1.2, Nat.eq_of_beq_eq_true k.1.1.1.2, Nat.eq_of_beq_eq_true k.1.1.2, Nat.eq_of_beq_eq_true k.1.2, eq_of_beq k.2]
  case nilSlc.nilSlc => rfl
  case emp.emp => rfl
  case map.map => rw [Nat.eq_of_beq_eq_true k]
  case nilMap.nilMap => rfl
  case fn.fn f l m f' l' m' =>
    rw [sameFn_eq k.1.1, sames_eq _ _ k.1.2, sames_eq _ _ k.2]
  case nilFn.nilFn => rfl
  case agg.agg => rw [sames_eq _ _ k]
  case tup.tup => rw [sames_eq _ _ k]
  case nilIf.nilIf => rfl
  case ifc.ifc => rw [Nat.eq_of_beq_eq_true k.1, same_eq _ _ k.2]
  termination_by SizeOf.sizeOf a
theorem sames_eq (a b : List AV) (k : sames a b = true) : a = b := by
  cases a <;> cases b <;> simp only [sames, Bool.and_eq_true] at k <;> try (cases k; done)
  case nil.nil => rfl
  case cons.cons => rw [same_eq _ _ k.1, sames_eq _ _ k.2]
  termination_by SizeOf.sizeOf a
end

/-! ### Lists of numbers -/
theorem memN_iff {n : Nat} : ∀ {l : List Nat}, memN n l = true ↔ n ∈ l
  | [] => by simp [memN]
  | m :: l => by
    simp only [memN, List.mem_cons]
    cases hb : Nat.beq n m with
    | true => simp [Nat.eq_of_beq_eq_true hb]
    | false =>
      have : n ≠ m := nbeq_false.1 hb
      simp [this, memN_iff]

theorem allN_iff {p : Nat → Bool} : ∀ {l : List Nat}, allN l p = true ↔ ∀ i ∈ l, p i = true
  | [] => by simp [allN]
  | m :: l => by
    simp only [allN]
    cases hb : p m with
    | true => simp [hb, allN_iff]
    | false => simp [hb]

theorem disjN_iff {l m : List Nat} : disjN l m = true ↔ ∀ i ∈ l, i ∉ m := by
  unfold disjN
  rw [allN_iff]
  constructor
  · intro k i hi hm
    have := k i hi
    rw [memN_iff.2 hm] at this
    cases this
  · intro k i hi
    cases hb : memN i m with
    | false => rfl
    | true => exact absurd (memN_iff.1 hb) (k i hi)

/-- The registers of the list alone. -/
def restrict (ρ : Regs) : List Nat → Regs
  | [] => .lf
  | t :: l => match ρ.get t with
    | some v => (restrict ρ l).set t v
    | none => restrict ρ l

theorem restrict_get {ρ : Regs} {t : Nat} : ∀ {l : List Nat}, (restrict ρ l).get t = if t ∈ l then ρ.get t else none
  | [] => by simp [restrict, PT.get_lf]
  | u :: l => by
    unfold restrict
    split
    · rename_i v hv
      rw [PT.get_set]
      by_cases e : t = u
      · subst e; simp [hv]
      · rw [if_neg e, restrict_get]; simp [e]
    · rename_i hv
      rw [restrict_get]
      by_cases e : t = u
      · subst e; simp [hv]
      · simp [e]

theorem restrict_agree {ρ : Regs} {l : List Nat} : AgreeO (restrict ρ l) ρ l := fun t ht => by rw [restrict_get, if_pos ht]

theorem put_get {d : Option Nat} {t : Nat} (hd : d ≠ some t) : (put ρ d v).get t = ρ.get t := by
  cases d with
  | none => rfl
  | some d => simp only [put]; rw [PT.get_set, if_neg (fun e => hd (by rw [e]))]

theorem put_same {d : Nat} : (put ρ (some d) v).get d = some v := by simp only [put]; rw [PT.get_set, if_pos rfl]

theorem mem_dsts {o : AOper} {d : Nat} : d ∈ dsts o ↔ o.dst = some d := by
  unfold dsts
  split
  · rename_i e he; simp [he, eq_comm]
  · rename_i he; simp [he]

end
end
end Go.Ab
