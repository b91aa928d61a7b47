/-
  The operations but those on maps, appends and calls: each does in the model what the abstract machine does.
-/
import Derived.Test.YtgmdelacokkenaaGreatDoorAbMem
namespace Go.Ab
set_option linter.unusedSimpArgs false
set_option linter.unusedVariables false

def SimV (P : Program) (B : Base) (φ : Phi) (h' : AHeap) (v : AV) (w : World) (r : Result Value) : Prop :=
  ∃ cv w' φ', r = .ok cv w' ∧ RelV φ' v cv ∧ RelH P B φ' h' w' ∧ φ.le φ' ∧ Gw B w w'

def SimU (P : Program) (B : Base) (φ : Phi) (h' : AHeap) (w : World) (r : Result Unit) : Prop :=
  ∃ w' φ', r = .ok () w' ∧ RelH P B φ' h' w' ∧ φ.le φ' ∧ Gw B w w'

/-- What an operation of the model yields, beside what the abstract one does. -/
def Sim (P : Program) (B : Base) (φ : Phi) (h' : AHeap) (v : AV) (w : World) (r : Result Next) : Prop :=
  ∃ cv w' φ', (r = .ok (.value cv) w' ∨ (r = .ok .skip w' ∧ cv = undef)) ∧ RelV φ' v cv ∧ RelH P B φ' h' w' ∧ φ.le φ' ∧ Gw B w w'

section
variable {P : Program} {B : Base} {φ : Phi} {h h' : AHeap} {w : World} {v : AV}

theorem SimV.pure {r : Result Value} {cv : Value} (H : RelH P B φ h w) (hr : r = .ok cv w) (hv : RelV φ v cv) : SimV P B φ h v w r :=
  ⟨cv, w, φ, hr, hv, H, φ.le_refl, Gw.refl B w⟩

theorem Sim.ofV {s : Sem Value} (hs : SimV P B φ h' v w (s.run P w)) : Sim P B φ h' v w ((do let x ← s; Pure.pure (Next.value x) : Sem Next).run P w) := by
  obtain ⟨cv, w', φ', hr, rest⟩ := hs
  exact ⟨cv, w', φ', .inl (by simp [Sem.run_bind, hr]), rest⟩

theorem Sim.ofU {s : Sem Unit} (hs : SimU P B φ h' w (s.run P w)) : Sim P B φ h' (.tup []) w ((do s; Pure.pure Next.skip : Sem Next).run P w) := by
  obtain ⟨w', φ', hr, rest⟩ := hs
  exact ⟨undef, w', φ', .inr ⟨by simp [hr], rfl⟩, .tup .nil, rest⟩

/-! ### Types -/
theorem run_isAggT {t : TypeId} {b : Bool} (ht : isAggT P t = some b) (w : World) : (isAgg t).run P w = .ok b w := by
  unfold isAggT at ht
  unfold isAgg
  split at ht <;> rename_i hu
  · cases ht; simp [Sem.run_bind, run_underlying hu]
  · cases ht; simp [Sem.run_bind, run_underlying hu]
  · rename_i d h1 h2
    cases ht
    rw [Sem.run_bind, run_underlying hu]
    cases d <;> first | rfl | (exact absurd rfl (h1 _)) | (exact absurd rfl (h2 _ _))
  · cases ht

theorem run_sizeT {t : TypeId} {n : Nat} (ht : sizeT P t = some n) (w : World) : (sizeOf t).run P w = .ok n w := by
  unfold sizeT at ht
  cases hi : P.info? t with
  | none => simp [hi] at ht
  | some i => simp [hi] at ht; subst ht; simp [sizeOf, typeInfo, hi]

theorem run_bytesT {t : TypeId} {n : Nat} (ht : bytesT P t = some n) (w : World) : ∃ i, (typeInfo t).run P w = .ok i w ∧ i.bytes = n ∧ P.info? t = some i := by
  unfold bytesT at ht
  cases hi : P.info? t with
  | none => simp [hi] at ht
  | some i => simp [hi] at ht; exact ⟨i, by simp [typeInfo, hi], ht, rfl⟩

theorem run_zeroT {t : TypeId} {z : AV} (ht : zeroT P t = some z) (w : World) : ∃ zv i, (zeroValue t).run P w = .ok zv w ∧ avOf zv = some z ∧ P.info? t = some i ∧ i.zero = some zv := by
  unfold zeroT at ht
  cases hi : P.info? t with
  | none => simp [hi] at ht
  | some i =>
    cases hz : i.zero with
    | none => simp [hi, hz] at ht
    | some zv => simp [hi, hz] at ht; exact ⟨zv, i, by simp [zeroValue, typeInfo, hi, hz], ht, rfl, hz⟩

/-! ### Integers -/
theorem kidx_inj {j k : IntKind} (e : kidx j = kidx k) : j = k := by
  cases j <;> cases k <;> first | rfl | (simp [kidx] at e)

theorem wrapA_eq (k : IntKind) (n : Int) : wrapA k n = k.wrap n := by
  unfold wrapA
  cases hf : fitsK k n with
  | false => rfl
  | true =>
    rw [cond_true]
    symm
    cases k <;> cases n <;> simp only [fitsK, nble_true, Bool.false_eq_true] at hf
    all_goals first
      | (rw [IntWalk.i64_in]; constructor <;> simp only [Int.ofNat_eq_natCast, Int.negSucc_eq] <;> omega)
      | (rw [IntWalk.u8_in]; constructor <;> simp only [Int.ofNat_eq_natCast] <;> omega)
      | (rw [IntWalk.u64_in]; constructor <;> simp only [Int.ofNat_eq_natCast] <;> omega)
      | (rw [IntWalk.i32_in]; constructor <;> simp only [Int.ofNat_eq_natCast] <;> omega)
      | (rw [IntWalk.u32_in]; constructor <;> simp only [Int.ofNat_eq_natCast] <;> omega)

theorem ieqb_eq (a b : Int) : ieqb a b = (a == b) := by
  rw [Bool.eq_iff_iff, beq_iff_eq]
  cases a <;> cases b <;> simp [ieqb]
  · omega

theorem iltb_iff (a b : Int) : iltb a b = true ↔ a < b := by
  cases a <;> cases b <;> simp only [iltb, nblt_true, Bool.false_eq_true, Int.ofNat_eq_natCast, Int.negSucc_eq] <;> constructor <;> intro <;> first | omega | trivial

theorem iltb_eq (a b : Int) : iltb a b = decide (a < b) := by
  rw [Bool.eq_iff_iff, iltb_iff]; simp

theorem not_iltb (a b : Int) : (!iltb a b) = decide (b ≤ a) := by
  rw [iltb_eq, ← decide_not]; congr 1; simp

theorem leqb_eq : ∀ (a b : List Nat), leqb a b = (a == b)
  | [], [] => rfl
  | [], _ :: _ => rfl
  | _ :: _, [] => rfl
  | x :: a, y :: b => by
    simp only [leqb, List.cons_beq_cons]
    cases e : Nat.beq x y with
    | true => rw [cond_true, leqb_eq a b]; have := nbeq_true.1 e; subst this; simp
    | false => rw [cond_false]; have := nbeq_false.1 e; simp [this]

theorem leqb_bytes {a b : ByteArray} {l m : List Nat} (ha : a.data.toList.map UInt8.toNat = l) (hb : b.data.toList.map UInt8.toNat = m) : leqb l m = (a.toList == b.toList) := by
  rw [leqb_eq, ByteArray.toList_eq, ByteArray.toList_eq, ← ha, ← hb]
  rw [Bool.eq_iff_iff, beq_iff_eq, beq_iff_eq]
  constructor
  · intro e
    exact List.map_inj_right (fun x y h => UInt8.toNat.inj h) |>.1 e
  · intro e; rw [e]

theorem lltb_bytes : ∀ (a b : List UInt8), lltb (a.map UInt8.toNat) (b.map UInt8.toNat) = Op.bytesLess a b
  | _, [] => by cases ‹List UInt8› <;> simp [lltb, Op.bytesLess]
  | [], _ :: _ => by simp [lltb, Op.bytesLess]
  | x :: a, y :: b => by
    simp only [List.map_cons, lltb, Op.bytesLess]
    cases e : Nat.blt x.toNat y.toNat with
    | true =>
      have h1 : x < y := UInt8.lt_iff_toNat_lt.2 (nblt_true.1 e)
      simp [h1]
    | false =>
      have h1 : ¬ x < y := fun h => by rw [nblt_true.2 (UInt8.lt_iff_toNat_lt.1 h)] at e; cases e
      cases e2 : Nat.beq x.toNat y.toNat with
      | true =>
        have h2 : x = y := UInt8.toNat.inj (nbeq_true.1 e2)
        subst h2
        simp [lltb_bytes a b]
      | false =>
        have h2 : ¬ x = y := fun h => by subst h; rw [nbeq_true.2 rfl] at e2; cases e2
        simp [h1, h2]

theorem str_size {s : ByteArray} {l : List Nat} (hs : s.data.toList.map UInt8.toNat = l) : s.size = l.length := by
  rw [← hs, List.length_map, Array.length_toList]; rfl

theorem binA_sound {op : BinOp} {x y v : AV} {cx cy : Value} (hx : RelV φ x cx) (hy : RelV φ y cy) (he : binA op x y = some v) (t : TypeId) : ∃ cv, (binOp op t cx cy).run P w = .ok cv w ∧ RelV φ v cv ∧ (∀ a b, cx ≠ .agg a ∨ cy ≠ .agg b) ∧ (cx ≠ .nilIface) := by
  unfold binA at he
  split at he
  · rename_i k a j b
    cases hx; cases hy
    refine (fun (hh : ∃ cv, (binOp op t (.int k a) (.int j b)).run P w = .ok cv w ∧ RelV φ v cv) => ?_) ?_
    · obtain ⟨cv, h1, h2⟩ := hh
      exact ⟨cv, h1, h2, fun _ _ => .inl (by simp), by simp⟩
    cases hsft : isShift op with
    | true =>
      rw [hsft, cond_true] at he
      unfold shiftA at he
      cases hneg : iltb b 0 with
      | true => rw [hneg] at he; simp at he
      | false =>
        have hb : ¬ b < 0 := fun h => by rw [(iltb_iff b 0).2 h] at hneg; cases hneg
        rw [hneg, cond_false] at he
        cases op <;> simp [isShift] at hsft <;> cases he
        · exact ⟨.int k (k.wrap (a * 2 ^ (min b.toNat k.bits))), by simp only [binOp, Op.shift, hb, if_false]; rfl, .int _ _⟩
        · exact ⟨.int k (a.fdiv (2 ^ (min b.toNat k.bits))), by simp only [binOp, Op.shift, hb, if_false]; rfl, .int _ _⟩
    | false =>
      rw [hsft, cond_false] at he
      cases hk : Nat.beq (kidx k) (kidx j) with
      | false => rw [hk] at he; simp at he
      | true =>
        rw [hk, cond_true] at he
        have := kidx_inj (nbeq_true.1 hk); subst this
        cases op <;> simp [isShift] at hsft <;> simp only [intOp, bitsA] at he
        case add => cases he; exact ⟨.int k (k.wrap (a + b)), by simp [binOp, Op.intArith], by rw [wrapA_eq]; exact .int _ _⟩
        case sub => cases he; exact ⟨.int k (k.wrap (a - b)), by simp [binOp, Op.intArith], by rw [wrapA_eq]; exact .int _ _⟩
        case mul => cases he; exact ⟨.int k (k.wrap (a * b)), by simp [binOp, Op.intArith], by rw [wrapA_eq]; exact .int _ _⟩
        case quo =>
          cases hz : ieqb b 0 with
          | true => rw [hz] at he; simp at he
          | false =>
            rw [hz] at he; simp at he; subst he
            have hb : ¬ b = 0 := fun e => by rw [ieqb_eq, e] at hz; simp at hz
            exact ⟨.int k (k.wrap (a.tdiv b)), by simp [binOp, Op.intDiv, hb], by rw [wrapA_eq]; exact .int _ _⟩
        case rem =>
          cases hz : ieqb b 0 with
          | true => rw [hz] at he; simp at he
          | false =>
            rw [hz] at he; simp at he; subst he
            have hb : ¬ b = 0 := fun e => by rw [ieqb_eq, e] at hz; simp at hz
            exact ⟨.int k (a.tmod b), by simp [binOp, Op.intDiv, hb], .int _ _⟩
        case and => cases he; exact ⟨.int k (k.wrap (BitVec.ofInt k.bits a &&& BitVec.ofInt k.bits b).toNat), by simp only [binOp, Op.intBits, ne_eq, not_true_eq_false, if_false]; rfl, .int _ _⟩
        case or => cases he; exact ⟨.int k (k.wrap (BitVec.ofInt k.bits a ||| BitVec.ofInt k.bits b).toNat), by simp only [binOp, Op.intBits, ne_eq, not_true_eq_false, if_false]; rfl, .int _ _⟩
        case xor => cases he; exact ⟨.int k (k.wrap (BitVec.ofInt k.bits a ^^^ BitVec.ofInt k.bits b).toNat), by simp only [binOp, Op.intBits, ne_eq, not_true_eq_false, if_false]; rfl, .int _ _⟩
        case andNot => cases he; exact ⟨.int k (k.wrap (BitVec.ofInt k.bits a &&& ~~~ BitVec.ofInt k.bits b).toNat), by simp only [binOp, Op.intBits, ne_eq, not_true_eq_false, if_false]; rfl, .int _ _⟩
        case eql => cases he; exact ⟨.bool (a == b), by simp [binOp, Op.intCmp], by rw [ieqb_eq]; exact .bool _⟩
        case neq => cases he; exact ⟨.bool (!(a == b)), by simp [binOp, Op.intCmp, bne], by rw [ieqb_eq]; exact .bool _⟩
        case lss => cases he; exact ⟨.bool (decide (a < b)), by simp [binOp, Op.intCmp], by rw [iltb_eq]; exact .bool _⟩
        case leq => cases he; exact ⟨.bool (decide (a ≤ b)), by simp [binOp, Op.intCmp], by rw [not_iltb]; exact .bool _⟩
        case gtr => cases he; exact ⟨.bool (decide (b < a)), by simp [binOp, Op.intCmp], by rw [iltb_eq]; exact .bool _⟩
        case geq => cases he; exact ⟨.bool (decide (b ≤ a)), by simp [binOp, Op.intCmp], by rw [not_iltb]; exact .bool _⟩
  · rename_i l m
    cases hx with
    | str ha =>
      rename_i a
      cases hy with
      | str hb =>
        rename_i b
        refine (fun (hh : ∃ cv, (binOp op t (.string a) (.string b)).run P w = .ok cv w ∧ RelV φ v cv) => ?_) ?_
        · obtain ⟨cv, h1, h2⟩ := hh
          exact ⟨cv, h1, h2, fun _ _ => .inl (by simp), by simp⟩
        have e1 := leqb_bytes ha hb
        have e2 : lltb l m = Op.bytesLess a.toList b.toList := by
          rw [← ha, ← hb, lltb_bytes, ByteArray.toList_eq, ByteArray.toList_eq]
        have hsz : ((a.size + b.size : Nat) : Int) = ((l.length + m.length : Nat) : Int) := by rw [str_size ha, str_size hb]
        cases op <;> simp only [strOp] at he <;> try (cases he; done)
        case add =>
          cases hle : Nat.ble (l.length + m.length) most with
          | false => rw [hle] at he; simp at he
          | true =>
            rw [hle] at he; simp at he; subst he
            have h1 := nble_true.1 hle
            unfold most at h1
            have h2 : ¬ (IntKind.i64.max < ((a.size : Int) + (b.size : Int))) := by
              have : ((a.size : Int) + (b.size : Int)) = ((a.size + b.size : Nat) : Int) := by omega
              rw [this, hsz]
              have : IntKind.i64.max = 9223372036854775807 := by rfl
              rw [this]; omega
            refine ⟨.string (a ++ b), by simp [binOp, Op.stringOp]; omega, .str ?_⟩
            rw [← ha, ← hb, ← List.map_append]
            simp [ByteArray.data_append]
        case eql => cases he; exact ⟨.bool (a.toList == b.toList), by simp only [binOp, Op.stringOp]; rfl, by rw [e1]; exact .bool _⟩
        case neq => cases he; exact ⟨.bool (!(a.toList == b.toList)), by simp only [binOp, Op.stringOp]; rfl, by rw [e1]; exact .bool _⟩
        case lss => cases he; exact ⟨.bool (Op.bytesLess a.toList b.toList), by simp only [binOp, Op.stringOp]; rfl, by rw [e2]; exact .bool _⟩
        case leq => cases he; exact ⟨.bool (Op.bytesLess a.toList b.toList || a.toList == b.toList), by simp only [binOp, Op.stringOp]; rfl, by rw [e1, e2]; exact .bool _⟩
        case gtr => cases he; exact ⟨.bool (!(Op.bytesLess a.toList b.toList || a.toList == b.toList)), by simp only [binOp, Op.stringOp]; rfl, by rw [e1, e2]; exact .bool _⟩
        case geq => cases he; exact ⟨.bool (!Op.bytesLess a.toList b.toList), by simp only [binOp, Op.stringOp]; rfl, by rw [e2]; exact .bool _⟩
  · cases he


theorem unops {k : IntKind} {n : Int} : (Op.unary .neg (.int k n)).run P w = .ok (.int k (k.wrap (0 - n))) w := by simp [Op.unary, Op.intArith]

/-! ### Parts, loads, stores -/
theorem part_sound {t : TypeId} {ag : Bool} {n off : Nat} {l : List AV} {v : AV} {cs : List Value} (hl : RelVs φ l cs) (he : partA ag off n l = some v) (hag : isAggT P t = some ag) (hn : sizeT P t = some n) :
    ∃ cv, (part t ⟨cs⟩ off).run P w = .ok cv w ∧ RelV φ v cv := by
  unfold partA at he
  cases ag with
  | true =>
    rw [cond_true] at he
    cases hle : Nat.ble (off + n) l.length with
    | false => rw [hle] at he; cases he
    | true =>
      rw [hle, cond_true] at he; cases he
      refine ⟨.agg ⟨(cs.drop off).take n⟩, ?_, .agg ((hl.drop off).take n)⟩
      have hx : (⟨cs⟩ : Array Value).extract off (off + n) = ⟨(cs.drop off).take n⟩ := by
        apply Array.ext'
        simp [List.extract_eq_take_drop]
      simp [part, Sem.run_bind, run_isAggT hag, run_sizeT hn, hx]
  | false =>
    rw [cond_false, nth_eq] at he
    obtain ⟨cv, h1, h2⟩ := hl.get he
    refine ⟨cv, ?_, h2⟩
    have h3 : (⟨cs⟩ : Array Value)[off]? = some cv := by simpa using h1
    simp [part, Sem.run_bind, run_isAggT hag, h3]

theorem load_sound {ag : Bool} {n : Nat} {x v : AV} {cx : Value} {t : TypeId} (H : RelH P B φ h w) (hx : RelV φ x cx) (he : loadA h ag n x = some v) (hag : isAggT P t = some ag) (hn : sizeT P t = some n) :
    ∃ cv, (Instr.loadAt t cx).run P w = .ok cv w ∧ (∀ A, cx = .pointer (some A) → (loadVar t A).run P w = .ok cv w) ∧ RelV φ v cv := by
  unfold loadA at he
  split at he
  · rename_i id g i o
    cases hrow : h.row id with
    | none => simp [hrow] at he
    | some r =>
      rw [hrow] at he
      simp only at he
      cases hm : Nat.ble r.m g with
      | false => rw [hm] at he; cases he
      | true =>
        rw [hm, cond_true, nth_eq] at he
        cases hi : r.es[i]? with
        | none => simp [hi] at he
        | some e =>
          rw [hi] at he
          simp only at he
          cases hx with
          | ptr hL hlt =>
            rename_i L
            have hr : RelRow φ id r w := H.obj id _ (AHeap.row_some.1 hrow)
            refine (fun (hh : ∃ cv, (loadVar t ⟨L.blk, L.base + i * L.sz + o, none⟩).run P w = .ok cv w ∧ RelV φ v cv) => ?_) ?_
            · obtain ⟨cv, a, b⟩ := hh
              exact ⟨cv, by simp [Instr.loadAt, Instr.sureAddr, a], fun A e => by cases e; exact a, b⟩
            unfold partA at he
            cases ag with
            | true =>
              rw [cond_true] at he
              cases hle : Nat.ble (o + n) e.length with
              | false => rw [hle] at he; cases he
              | true =>
                rw [hle, cond_true] at he; cases he
                obtain ⟨vs, h1, h2, h3⟩ := row_seg hr hL (nble_true.1 hm) hlt hi (nble_true.1 hle)
                refine ⟨.agg ⟨vs⟩, ?_, .agg h1⟩
                have := run_loadCells_list (P := P) w ⟨L.blk, L.base + i * L.sz + o, none⟩ vs h3
                rw [h2] at this
                simp [loadVar, Sem.run_bind, run_isAggT hag, run_sizeT hn, this]
            | false =>
              rw [cond_false, nth_eq] at he
              have ho : o < e.length := (List.getElem?_eq_some_iff.1 he).1
              obtain ⟨vs, h1, h2, h3⟩ := row_seg hr hL (nble_true.1 hm) hlt hi (o := o) (n := 1) (by omega)
              obtain ⟨cv, h4, h5⟩ := h1.get (i := 0) (a := v) (by
                rw [List.getElem?_take_of_lt (by omega), List.getElem?_drop]; simpa using he)
              refine ⟨cv, ?_, h5⟩
              have h6 := h3 0 cv h4
              rw [Addr.add_lit, Nat.add_zero] at h6
              simp [loadVar, Sem.run_bind, run_isAggT hag, h6]
  · cases he

theorem store_sound {n : Nat} {x v : AV} {cx cv : Value} {t : TypeId} (H : RelH P B φ h w) (hx : RelV φ x cx) (hv : RelV φ v cv) (he : storeA h n x v = some h') (hn : sizeT P t = some n) :
    SimU P B φ h' w ((Instr.storeAt t cx cv).run P w) := by
  unfold storeA at he
  split at he
  · rename_i id g i o
    cases hrow : h.row id with
    | none =>
      rw [hrow] at he
      simp only at he
      cases hc : (Nat.beq n 0 && Nat.beq v.cells.length 0) with
      | false => rw [hc] at he; cases he
      | true =>
        rw [hc, cond_true] at he; cases he
        simp only [Bool.and_eq_true, nbeq_true] at hc
        obtain ⟨rfl, c2⟩ := hc
        cases hx with
        | ptr hL hlt =>
          have hcs : cv.cells.toList = [] := List.eq_nil_of_length_eq_zero (by rw [← hv.cells.length, c2])
          have hcz : cv.cells.size = 0 := by rw [← Array.length_toList, hcs]; rfl
          refine ⟨w, φ, ?_, H, φ.le_refl, Gw.refl B w⟩
          simp [Instr.storeAt, Instr.sureAddr, storeVar, Sem.run_bind, run_sizeT hn, hcz, hcs, storeCells]
    | some r =>
      rw [hrow] at he
      simp only at he
      cases hc : (r.rw && Nat.beq g r.g && Nat.beq v.cells.length n && allLeaf v.cells) with
      | false => rw [hc] at he; cases he
      | true =>
        rw [hc, cond_true, nth_eq] at he
        simp only [Bool.and_eq_true, nbeq_true] at hc
        obtain ⟨⟨⟨c1, c2⟩, c3⟩, c4⟩ := hc
        subst c2
        cases hi : r.es[i]? with
        | none => simp [hi] at he
        | some e =>
          rw [hi] at he
          simp only at he
          cases hle : Nat.ble (o + n) e.length with
          | false => rw [hle] at he; cases he
          | true =>
            rw [hle, cond_true, setNth_eq] at he; cases he
            have hle := nble_true.1 hle
            cases hx with
            | ptr hL hlt =>
              rename_i L
              have hget := AHeap.row_some.1 hrow
              have hr : RelRow φ id r w := H.obj id _ hget
              have hsz : L.sz = r.sz := (hr.gen _ L hL).2
              obtain ⟨hilt, hie⟩ := List.getElem?_eq_some_iff.1 hi
              have hel : e.length = r.sz := hr.es e (List.mem_of_getElem? hi)
              have hfit : i * r.sz + o + v.cells.length ≤ r.es.length * r.sz := by
                have : (i + 1) * r.sz ≤ r.es.length * r.sz := Nat.mul_le_mul_right _ hilt
                rw [Nat.add_mul] at this; omega
              obtain ⟨w', h1, h2, h3⟩ := row_store H hget c1 hL hv.cells c4 (p := i * r.sz + o) hfit (es' := r.es.set i (lay e o v.cells))
                (by
                  intro x hx
                  rcases List.mem_or_eq_of_mem_set hx with hx | rfl
                  · exact hr.es x hx
                  · rw [lay_length _ _ _ (by omega), hel])
                (by simp) (fl_set hr.es hi (by omega)) (by
                  intro x hx
                  rcases List.mem_or_eq_of_mem_set hx with hx | rfl
                  · exact hr.leaf x hx
                  · exact allLeaf_lay (hr.leaf e (List.mem_of_getElem? hi)) c4 o)
              refine ⟨w', φ, ?_, h2, φ.le_refl, h3⟩
              have hcs : cv.cells.size = n := by
                have := hv.cells.length
                rw [c3] at this
                simpa using this.symm
              have ha : (⟨L.blk, L.base + i * L.sz + o, none⟩ : Addr) = ⟨L.blk, L.base + (i * r.sz + o), none⟩ := by rw [hsz, Nat.add_assoc]
              simp [Instr.storeAt, Instr.sureAddr, storeVar, Sem.run_bind, run_sizeT hn, hcs, ha, h1]
  · cases he

theorem box_fill {n id : Nat} {x : AV} {cx : Value} {t : TypeId} (H : RelH P B φ h w) (hx : RelV φ x cx) (hc : (Nat.beq x.cells.length n && allLeaf x.cells && Nat.blt 0 n) = true) (hg : B.gh id = some (.row { es := [x.cells], sz := n, g := 0, m := 0, rw := true })) :
    SimV P (B.del id) φ h (.ptr id 0 0 0) w ((Instr.box t cx).run P w) := by
  simp only [Bool.and_eq_true, nbeq_true, nblt_true] at hc
  obtain ⟨⟨c1, c2⟩, c3⟩ := hc
  have hcells := hx.cells
  obtain ⟨φ', h1, h2, h3, h4⟩ := row_fillT H (es := [x.cells]) c3 (by intro e he; simp at he; subst he; exact c1) (by intro e he; simp at he; subst he; exact c2) (vals := cx.cells.toList) (spare := []) (by simpa using hcells) (tot := 1)
    (by simp; rw [← c1, hcells.length]; simp) t none (fun _ e => by cases e) hg
  refine ⟨.pointer (some ⟨w.heap.size, 0, none⟩), _, φ', ?_, ?_, h3, h1, h4⟩
  · simp [Instr.box, newVar, newRow, Go.newRow]
  · have := RelV.ptr (φ := φ') (i := 0) (o := 0) h2 (by simp)
    simpa using this

theorem box_sound {n : Nat} {x v : AV} {cx : Value} {t : TypeId} (H : RelH P B φ h w) (hx : RelV φ x cx) (he : boxA h none n x = some (v, h')) : SimV P B φ h' v w ((Instr.box t cx).run P w) := by
  unfold boxA at he
  cases hc : (Nat.beq x.cells.length n && allLeaf x.cells && Nat.blt 0 n) with
  | false => rw [hc] at he; cases he
  | true =>
    rw [hc, cond_true] at he; cases he
    have := box_fill (t := t) (H.pushGhost (.row { es := [x.cells], sz := n, g := 0, m := 0, rw := true }) rfl) hx hc (Base.add_same _ _ _)
    rwa [Base.del_add H.noGhost] at this

theorem alloc0_fill {z : List AV} {t : TypeId} {id : Nat} (H : RelH P B φ h w) {za : AV} (hz : zeroT P t = some za) (hzc : za.cells = z) (hc : z.length = 0) (hg : B.gh id = some .gone) :
    SimV P (B.del id) φ h (.ptr id 0 0 0) w ((Instr.alloc t true (.tuple #[])).run P w) := by
  obtain ⟨zv, i, h1, h2, h3, h4⟩ := run_zeroT hz w
  have hnone := (H.ghost id _ hg).2.2.1
  have hle := Phi.le_add (φ := φ) (id := id) (g := 0) ⟨w.heap.size, 0, 0, 1, 0⟩ (hnone 0)
  have hp := H.fill hg rfl (L := ⟨w.heap.size, 0, 0, 1, 0⟩) (ob := .cells zv.cells t) rfl (fun ds e => by cases e) trivial
  refine ⟨.pointer (some ⟨w.heap.size, 0, none⟩), _, φ.add id 0 ⟨w.heap.size, 0, 0, 1, 0⟩, ?_, ?_, hp, hle, Gw.alloc H.base (fun _ _ _ e => by cases e; rfl)⟩
  · simp [Instr.alloc, h1, newVar, Go.newRow]
  · have := RelV.ptr (φ := φ.add id 0 ⟨w.heap.size, 0, 0, 1, 0⟩) (i := 0) (o := 0) (Phi.add_same _ _ _ _) (by simp)
    simpa using this

theorem alloc_fill {z : List AV} {t : TypeId} {id : Nat} (H : RelH P B φ h w) {za : AV} (hz : zeroT P t = some za) (hzc : za.cells = z) (hc : (Nat.blt 0 z.length && allLeaf z) = true) (hg : B.gh id = some (.row { es := [z], sz := z.length, g := 0, m := 0, rw := true })) :
    SimV P (B.del id) φ h (.ptr id 0 0 0) w ((Instr.alloc t true (.tuple #[])).run P w) := by
  obtain ⟨zv, i, h1, h2, h3, h4⟩ := run_zeroT hz w
  subst hzc
  obtain ⟨cv, w', φ', a, b⟩ := box_fill (t := t) (n := za.cells.length) H (relV_avOf h2) (by simp only [Bool.and_eq_true] at hc ⊢; exact ⟨⟨nbeq_true.2 rfl, hc.2⟩, hc.1⟩) hg
  refine ⟨cv, w', φ', ?_, b⟩
  simp [Instr.alloc, h1]
  simpa [Instr.box] using a

theorem allocA_push {z : List AV} (he : allocA h z = some (v, h')) : v = .ptr h.sz 0 0 0 ∧ ∃ ob, h' = h.push ob ∧ ((z.length = 0 ∧ ob = .gone) ∨ ((Nat.blt 0 z.length && allLeaf z) = true ∧ ob = .row { es := [z], sz := z.length, g := 0, m := 0, rw := true })) := by
  unfold allocA at he
  cases h0 : Nat.beq z.length 0 with
  | true => rw [h0, cond_true] at he; cases he; exact ⟨rfl, _, rfl, .inl ⟨nbeq_true.1 h0, rfl⟩⟩
  | false =>
    rw [h0, cond_false] at he
    cases hl : allLeaf z with
    | false => rw [hl] at he; cases he
    | true =>
      rw [hl, cond_true] at he; cases he
      have := nbeq_false.1 h0
      exact ⟨rfl, _, rfl, .inr ⟨by rw [nblt_true.2 (by omega)]; rfl, rfl⟩⟩

theorem allocA_fill {z : List AV} {t : TypeId} {hp : AHeap} {ob : AObj} (H : RelH P B φ h w) {za : AV} (hz : zeroT P t = some za) (hzc : za.cells = z) (he : allocA hp z = some (v, hp.push ob)) (hg : B.gh hp.sz = some ob) :
    SimV P (B.del hp.sz) φ h v w ((Instr.alloc t true (.tuple #[])).run P w) := by
  obtain ⟨rfl, ob', e, h1⟩ := allocA_push he
  have e := push_inj e
  subst e
  rcases h1 with ⟨h1, rfl⟩ | ⟨h1, rfl⟩
  · exact alloc0_fill H hz hzc h1 hg
  · exact alloc_fill H hz hzc h1 hg

theorem alloc_sound {z : List AV} {v : AV} {t : TypeId} (H : RelH P B φ h w) {za : AV} (hz : zeroT P t = some za) (hzc : za.cells = z) (he : allocA h z = some (v, h')) :
    SimV P B φ h' v w ((Instr.alloc t true (.tuple #[])).run P w) := by
  obtain ⟨_, ob, rfl, ho⟩ := allocA_push he
  have := allocA_fill (H.pushGhost ob (by rcases ho with ⟨_, rfl⟩ | ⟨_, rfl⟩ <;> rfl)) hz hzc he (Base.add_same _ _ _)
  rwa [Base.del_add H.noGhost] at this

end
end Go.Ab
