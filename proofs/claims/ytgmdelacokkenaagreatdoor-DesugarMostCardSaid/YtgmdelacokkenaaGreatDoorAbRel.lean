/-
  How an abstract value and heap stand for the model's: 'RelV', 'RelH'; first laws.
-/
import Derived.Test.YtgmdelacokkenaaGreatDoorAbCore
import Derived.WalkKit
import Derived.RangeFuncLeaves
import Derived.RangeFuncRecord
namespace Go.Ab

/-! ### Tries, lists -/
theorem nbeq_true {a b : Nat} : Nat.beq a b = true ↔ a = b := ⟨Nat.eq_of_beq_eq_true, fun h => by subst h; exact Nat.beq_refl a⟩
theorem nbeq_false {a b : Nat} : Nat.beq a b = false ↔ a ≠ b := by
  rw [← Bool.not_eq_true, nbeq_true]
theorem nble_true {a b : Nat} : Nat.ble a b = true ↔ a ≤ b := ⟨Nat.le_of_ble_eq_true, Nat.ble_eq_true_of_le⟩
theorem nblt_true {a b : Nat} : Nat.blt a b = true ↔ a < b := by unfold Nat.blt; exact nble_true

/-- The place that a path leads to. -/
def L4.val : L4 → Nat
  | .e => 0
  | .a p => 4 * p.val + 1
  | .b p => 4 * p.val + 2
  | .c p => 4 * p.val + 3
  | .d p => 4 * p.val + 4
theorem L4.val_dig : ∀ (m : Nat) (p : L4), m < 4 → (L4.dig m p).val = 4 * p.val + m + 1
  | 0, _, _ => rfl
  | 1, _, _ => rfl
  | 2, _, _ => rfl
  | 3, _, _ => rfl
  | _ + 4, _, h => by omega
theorem val_pathR : ∀ (f n : Nat), n < f → (pathR f n).val = n
  | 0, _, h => by omega
  | _ + 1, 0, _ => rfl
  | f + 1, k + 1, h => by
    have e : pathR (f + 1) (k + 1) = L4.dig (Nat.mod k 4) (pathR f (Nat.div k 4)) := rfl
    have h1 : Nat.div k 4 = k / 4 := rfl
    have h2 : Nat.mod k 4 = k % 4 := rfl
    rw [e, h1, h2, L4.val_dig _ _ (Nat.mod_lt _ (by omega)), val_pathR f (k / 4) (by omega)]
    omega
theorem path_inj {n m : Nat} (h : path n = path m) : n = m := by
  have := congrArg L4.val h
  unfold path at this
  rwa [val_pathR _ _ (Nat.lt_succ_self n), val_pathR _ _ (Nat.lt_succ_self m)] at this

section
variable {α : Type}
theorem PT.getL_newL (x : Option α) : ∀ p : L4, (PT.newL x p).getL p = x
  | .e => rfl
  | .a p => PT.getL_newL x p
  | .b p => PT.getL_newL x p
  | .c p => PT.getL_newL x p
  | .d p => PT.getL_newL x p
theorem PT.getL_newL_ne (x : Option α) : ∀ p q : L4, q ≠ p → (PT.newL x p).getL q = none
  | .e, .e, h => absurd rfl h
  | .e, .a _, _ | .e, .b _, _ | .e, .c _, _ | .e, .d _, _ => rfl
  | .a p, .a q, h => PT.getL_newL_ne x p q fun e => h (congrArg _ e)
  | .b p, .b q, h => PT.getL_newL_ne x p q fun e => h (congrArg _ e)
  | .c p, .c q, h => PT.getL_newL_ne x p q fun e => h (congrArg _ e)
  | .d p, .d q, h => PT.getL_newL_ne x p q fun e => h (congrArg _ e)
  | .a _, .e, _ | .b _, .e, _ | .c _, .e, _ | .d _, .e, _ => rfl
  | .a _, .b _, _ | .a _, .c _, _ | .a _, .d _, _ | .b _, .a _, _ | .b _, .c _, _ | .b _, .d _, _ => rfl
  | .c _, .a _, _ | .c _, .b _, _ | .c _, .d _, _ | .d _, .a _, _ | .d _, .b _, _ | .d _, .c _, _ => rfl
theorem PT.getL_setL (x : Option α) : ∀ (t : PT α) (p : L4), (t.setL x p).getL p = x
  | .lf, p => PT.getL_newL x p
  | .nd _ _ _ _ _, .e => rfl
  | .nd _ t _ _ _, .a p => PT.getL_setL x t p
  | .nd _ _ t _ _, .b p => PT.getL_setL x t p
  | .nd _ _ _ t _, .c p => PT.getL_setL x t p
  | .nd _ _ _ _ t, .d p => PT.getL_setL x t p
theorem PT.getL_setL_ne (x : Option α) : ∀ (t : PT α) (p q : L4), q ≠ p → (t.setL x p).getL q = t.getL q
  | .lf, p, q, h => PT.getL_newL_ne x p q h
  | .nd _ _ _ _ _, .e, .e, h => absurd rfl h
  | .nd _ _ _ _ _, .e, .a _, _ | .nd _ _ _ _ _, .e, .b _, _ | .nd _ _ _ _ _, .e, .c _, _ | .nd _ _ _ _ _, .e, .d _, _ => rfl
  | .nd _ t _ _ _, .a p, .a q, h => PT.getL_setL_ne x t p q fun e => h (congrArg _ e)
  | .nd _ _ t _ _, .b p, .b q, h => PT.getL_setL_ne x t p q fun e => h (congrArg _ e)
  | .nd _ _ _ t _, .c p, .c q, h => PT.getL_setL_ne x t p q fun e => h (congrArg _ e)
  | .nd _ _ _ _ t, .d p, .d q, h => PT.getL_setL_ne x t p q fun e => h (congrArg _ e)
  | .nd _ _ _ _ _, .a _, .e, _ | .nd _ _ _ _ _, .b _, .e, _ | .nd _ _ _ _ _, .c _, .e, _ | .nd _ _ _ _ _, .d _, .e, _ => rfl
  | .nd _ _ _ _ _, .a _, .b _, _ | .nd _ _ _ _ _, .a _, .c _, _ | .nd _ _ _ _ _, .a _, .d _, _ => rfl
  | .nd _ _ _ _ _, .b _, .a _, _ | .nd _ _ _ _ _, .b _, .c _, _ | .nd _ _ _ _ _, .b _, .d _, _ => rfl
  | .nd _ _ _ _ _, .c _, .a _, _ | .nd _ _ _ _ _, .c _, .b _, _ | .nd _ _ _ _ _, .c _, .d _, _ => rfl
  | .nd _ _ _ _ _, .d _, .a _, _ | .nd _ _ _ _ _, .d _, .b _, _ | .nd _ _ _ _ _, .d _, .c _, _ => rfl
theorem PT.setL_new_comm (x y : Option α) : ∀ (p q : L4), p ≠ q → (PT.newL y q).setL x p = (PT.newL x p).setL y q
  | .e, .e, h => absurd rfl h
  | .e, .a _, _ | .e, .b _, _ | .e, .c _, _ | .e, .d _, _ => rfl
  | .a p, .a q, h => congrArg (fun r => PT.nd none r .lf .lf .lf) (PT.setL_new_comm x y p q fun e => h (congrArg _ e))
  | .b p, .b q, h => congrArg (fun r => PT.nd none .lf r .lf .lf) (PT.setL_new_comm x y p q fun e => h (congrArg _ e))
  | .c p, .c q, h => congrArg (fun r => PT.nd none .lf .lf r .lf) (PT.setL_new_comm x y p q fun e => h (congrArg _ e))
  | .d p, .d q, h => congrArg (fun r => PT.nd none .lf .lf .lf r) (PT.setL_new_comm x y p q fun e => h (congrArg _ e))
  | .a _, .e, _ | .b _, .e, _ | .c _, .e, _ | .d _, .e, _ => rfl
  | .a _, .b _, _ | .a _, .c _, _ | .a _, .d _, _ | .b _, .a _, _ | .b _, .c _, _ | .b _, .d _, _ => rfl
  | .c _, .a _, _ | .c _, .b _, _ | .c _, .d _, _ | .d _, .a _, _ | .d _, .b _, _ | .d _, .c _, _ => rfl
theorem PT.setL_comm (x y : Option α) : ∀ (t : PT α) (p q : L4), p ≠ q → (t.setL y q).setL x p = (t.setL x p).setL y q
  | .lf, p, q, h => PT.setL_new_comm x y p q h
  | .nd _ _ _ _ _, .e, .e, h => absurd rfl h
  | .nd _ _ _ _ _, .e, .a _, _ | .nd _ _ _ _ _, .e, .b _, _ | .nd _ _ _ _ _, .e, .c _, _ | .nd _ _ _ _ _, .e, .d _, _ => rfl
  | .nd v t b c d, .a p, .a q, h => congrArg (fun r => PT.nd v r b c d) (PT.setL_comm x y t p q fun e => h (congrArg _ e))
  | .nd v a t c d, .b p, .b q, h => congrArg (fun r => PT.nd v a r c d) (PT.setL_comm x y t p q fun e => h (congrArg _ e))
  | .nd v a b t d, .c p, .c q, h => congrArg (fun r => PT.nd v a b r d) (PT.setL_comm x y t p q fun e => h (congrArg _ e))
  | .nd v a b c t, .d p, .d q, h => congrArg (fun r => PT.nd v a b c r) (PT.setL_comm x y t p q fun e => h (congrArg _ e))
  | .nd _ _ _ _ _, .a _, .e, _ | .nd _ _ _ _ _, .b _, .e, _ | .nd _ _ _ _ _, .c _, .e, _ | .nd _ _ _ _ _, .d _, .e, _ => rfl
  | .nd _ _ _ _ _, .a _, .b _, _ | .nd _ _ _ _ _, .a _, .c _, _ | .nd _ _ _ _ _, .a _, .d _, _ => rfl
  | .nd _ _ _ _ _, .b _, .a _, _ | .nd _ _ _ _ _, .b _, .c _, _ | .nd _ _ _ _ _, .b _, .d _, _ => rfl
  | .nd _ _ _ _ _, .c _, .a _, _ | .nd _ _ _ _ _, .c _, .b _, _ | .nd _ _ _ _ _, .c _, .d _, _ => rfl
  | .nd _ _ _ _ _, .d _, .a _, _ | .nd _ _ _ _ _, .d _, .b _, _ | .nd _ _ _ _ _, .d _, .c _, _ => rfl

theorem PT.get_lf (n : Nat) : (PT.lf : PT α).get n = none := rfl
theorem PT.get_setO (t : PT α) (n m : Nat) (x : Option α) : (t.setO n x).get m = if m = n then x else t.get m := by
  by_cases h : m = n
  · subst h; rw [if_pos rfl]; exact PT.getL_setL x t (path m)
  · rw [if_neg h]; exact PT.getL_setL_ne x t (path n) (path m) fun e => h (path_inj e)
theorem PT.get_set (t : PT α) (n m : Nat) (x : α) : (t.set n x).get m = if m = n then some x else t.get m := PT.get_setO t n m (some x)
theorem PT.set_comm (t : PT α) {n m : Nat} (x y : α) (h : n ≠ m) : (t.set m y).set n x = (t.set n x).set m y :=
  PT.setL_comm (some x) (some y) t (path n) (path m) fun e => h (path_inj e)
end

theorem nth_eq {α : Type} : ∀ (l : List α) (n : Nat), nth l n = l[n]?
  | [], _ => by simp [nth]
  | x :: l, 0 => by simp [nth]
  | x :: l, n + 1 => by simp [nth, nth_eq l n]

theorem setNth_eq {α : Type} : ∀ (l : List α) (n : Nat) (y : α), setNth l n y = l.set n y
  | [], _, _ => by simp [setNth]
  | x :: l, 0, y => by simp [setNth]
  | x :: l, n + 1, y => by simp [setNth, setNth_eq l n y]

theorem repl_eq {α : Type} : ∀ (n : Nat) (x : α), repl n x = List.replicate n x
  | 0, _ => rfl
  | n + 1, x => by simp [repl, repl_eq n x, List.replicate_succ]

theorem AHeap.get_put (h : AHeap) (id j : Nat) (o : AObj) : (h.put id o).get j = if j = id then some o else h.get j := PT.get_set _ _ _ _
theorem AHeap.get_push (h : AHeap) (j : Nat) (o : AObj) : (h.push o).get j = if j = h.sz then some o else h.get j := PT.get_set _ _ _ _
@[simp] theorem AHeap.sz_put (h : AHeap) (id : Nat) (o : AObj) : (h.put id o).sz = h.sz := rfl
@[simp] theorem AHeap.sz_push (h : AHeap) (o : AObj) : (h.push o).sz = h.sz + 1 := rfl
theorem AHeap.row_some {h : AHeap} {id : Nat} {r : Row} : h.row id = some r ↔ h.get id = some (.row r) := by
  unfold AHeap.row
  constructor
  · intro e
    split at e
    · rename_i r' hr; cases e; exact hr
    · cases e
  · intro e; rw [e]

/-! ### Values -/
structure Loc where
  blk : Nat
  base : Nat
  sz : Nat
  ext : Nat
  tot : Nat

abbrev Phi := Nat → Nat → Option Loc

mutual
inductive RelV (φ : Phi) : AV → Value → Prop
  | bool (b : Bool) : RelV φ (.bool b) (.bool b)
  | int (k : IntKind) (n : Int) : RelV φ (.int k n) (.int k n)
  | str {l : List Nat} {s : ByteArray} (h : s.data.toList.map UInt8.toNat = l) : RelV φ (.str l) (.string s)
  | ptr {id g i o : Nat} {L : Loc} (h : φ id g = some L) (hi : i < L.ext) : RelV φ (.ptr id g i o) (.pointer (some ⟨L.blk, L.base + i * L.sz + o, none⟩))
  | nilPtr : RelV φ .nilPtr (.pointer none)
  | slc {id g s len cap c off : Nat} {ex : Bool} {L : Loc} (h : φ id g = some L) (h1 : len ≤ cap) (h2 : s + cap ≤ L.ext) (h3 : s + c ≤ L.tot) (h4 : cap ≤ c) (h5 : ex = true → c = cap) (h6 : 0 < c → off = L.base + s * L.sz) :
      RelV φ (.slc id g s len cap ex) (.slice (some ⟨L.blk, off, none⟩) len c)
  | nilSlc : RelV φ .nilSlc (.slice none 0 0)
  | emp {A : Addr} : RelV φ .emp (.slice (some A) 0 0)
  | map {id : Nat} {L : Loc} (h : φ id 0 = some L) : RelV φ (.map id) (.map (some L.blk))
  | nilMap : RelV φ .nilMap (.map none)
  | itr {id : Nat} {L : Loc} (h : φ id 0 = some L) : RelV φ (.itr id) (.pointer (some ⟨L.blk, 0, none⟩))
  | func {f : Nat} {a b : List AV} {a' b' : List Value} (ha : RelVs φ a a') (hb : RelVs φ b b') : RelV φ (.fn (.func f) a b) (.func (.func f) ⟨a'⟩ ⟨b'⟩)
  | yield {id : Nat} {L : Loc} (h : φ id 0 = some L) : RelV φ (.fn (.yield id) [] []) (.func (.yield L.blk) #[] #[])
  | nilFn : RelV φ .nilFn .nilFunc
  | agg {l : List AV} {l' : List Value} (h : RelVs φ l l') : RelV φ (.agg l) (.agg ⟨l'⟩)
  | tup {l : List AV} {l' : List Value} (h : RelVs φ l l') : RelV φ (.tup l) (.tuple ⟨l'⟩)
  | nilIf : RelV φ .nilIf .nilIface
  | ifc {t : Nat} {a : AV} {v : Value} (h : RelV φ a v) : RelV φ (.ifc t a) (.iface t v)
inductive RelVs (φ : Phi) : List AV → List Value → Prop
  | nil : RelVs φ [] []
  | cons {a : AV} {l : List AV} {v : Value} {m : List Value} (h : RelV φ a v) (t : RelVs φ l m) : RelVs φ (a :: l) (v :: m)
end

def Phi.le (φ ψ : Phi) : Prop := ∀ id g L, φ id g = some L → ψ id g = some L
theorem Phi.le_refl (φ : Phi) : φ.le φ := fun _ _ _ h => h
theorem Phi.le_trans {φ ψ χ : Phi} (h : φ.le ψ) (k : ψ.le χ) : φ.le χ := fun _ _ _ e => k _ _ _ (h _ _ _ e)

mutual
theorem RelV.mono {φ ψ : Phi} (hle : φ.le ψ) : ∀ {a : AV} {v : Value}, RelV φ a v → RelV ψ a v
  | _, _, .bool b => .bool b
  | _, _, .int k n => .int k n
  | _, _, .str h => .str h
  | _, _, .ptr h hi => .ptr (hle _ _ _ h) hi
  | _, _, .nilPtr => .nilPtr
  | _, _, .slc h h1 h2 h3 h4 h5 h6 => .slc (hle _ _ _ h) h1 h2 h3 h4 h5 h6
  | _, _, .nilSlc => .nilSlc
  | _, _, .emp => .emp
  | _, _, .map h => .map (hle _ _ _ h)
  | _, _, .nilMap => .nilMap
  | _, _, .itr h => .itr (hle _ _ _ h)
  | _, _, .func ha hb => .func (RelVs.mono hle ha) (RelVs.mono hle hb)
  | _, _, .yield h => .yield (hle _ _ _ h)
  | _, _, .nilFn => .nilFn
  | _, _, .agg h => .agg (RelVs.mono hle h)
  | _, _, .tup h => .tup (RelVs.mono hle h)
  | _, _, .nilIf => .nilIf
  | _, _, .ifc h => .ifc (RelV.mono hle h)
theorem RelVs.mono {φ ψ : Phi} (hle : φ.le ψ) : ∀ {l : List AV} {m : List Value}, RelVs φ l m → RelVs ψ l m
  | _, _, .nil => .nil
  | _, _, .cons h t => .cons (RelV.mono hle h) (RelVs.mono hle t)
end

theorem RelVs.length {φ : Phi} : ∀ {l : List AV} {m : List Value}, RelVs φ l m → l.length = m.length
  | _, _, .nil => rfl
  | _, _, .cons _ t => by simp [RelVs.length t]

theorem RelVs.append {φ : Phi} : ∀ {l : List AV} {m : List Value}, RelVs φ l m → ∀ {l' : List AV} {m' : List Value}, RelVs φ l' m' → RelVs φ (l ++ l') (m ++ m')
  | _, _, .nil, _, _, k => k
  | _, _, .cons h t, _, _, k => .cons h (RelVs.append t k)

theorem RelVs.get {φ : Phi} : ∀ {l : List AV} {m : List Value}, RelVs φ l m → ∀ {i : Nat} {a : AV}, l[i]? = some a → ∃ v, m[i]? = some v ∧ RelV φ a v
  | _, _, .nil, _, _, e => by simp at e
  | _, _, .cons h t, 0, _, e => by simp at e; subst e; exact ⟨_, by simp, h⟩
  | _, _, .cons h t, i + 1, _, e => by simp at e; simpa using RelVs.get t e

theorem RelVs.take {φ : Phi} : ∀ {l : List AV} {m : List Value}, RelVs φ l m → ∀ (n : Nat), RelVs φ (l.take n) (m.take n)
  | _, _, h, 0 => by simp; exact .nil
  | _, _, .nil, n + 1 => by simp; exact .nil
  | _, _, .cons h t, n + 1 => by simp; exact .cons h (RelVs.take t n)

theorem RelVs.drop {φ : Phi} : ∀ {l : List AV} {m : List Value}, RelVs φ l m → ∀ (n : Nat), RelVs φ (l.drop n) (m.drop n)
  | _, _, h, 0 => by simpa using h
  | _, _, .nil, n + 1 => by simp; exact .nil
  | _, _, .cons h t, n + 1 => by simpa using RelVs.drop t n

theorem RelVs.of_get {φ : Phi} : ∀ {l : List AV} {m : List Value}, l.length = m.length → (∀ (i : Nat) (a : AV) (v : Value), l[i]? = some a → m[i]? = some v → RelV φ a v) → RelVs φ l m
  | [], [], _, _ => .nil
  | [], _ :: _, h, _ => by simp at h
  | _ :: _, [], h, _ => by simp at h
  | a :: l, v :: m, h, k => .cons (k 0 a v (by simp) (by simp)) (RelVs.of_get (by simpa using h) fun i a v h1 h2 => k (i + 1) a v (by simpa using h1) (by simpa using h2))

theorem RelVs.replicate {φ : Phi} {l : List AV} {m : List Value} (h : RelVs φ l m) : ∀ n, RelVs φ (List.replicate n l).flatten (List.replicate n m).flatten
  | 0 => by simp; exact .nil
  | n + 1 => by simp [List.replicate_succ]; exact h.append (RelVs.replicate h n)

theorem RelV.cells {φ : Phi} {a : AV} {v : Value} (h : RelV φ a v) : RelVs φ a.cells v.cells.toList := by
  cases h with
  | agg h => exact h
  | _ => first | exact .cons (by constructor <;> assumption) .nil | exact .cons (by constructor) .nil

theorem RelV.leaf {φ : Phi} {a : AV} {v : Value} (h : RelV φ a v) (hl : a.leaf = true) : v.oneCell' = true := by
  cases h <;> simp_all [AV.leaf, Value.oneCell']

theorem RelVs.leaf {φ : Phi} : ∀ {l : List AV} {m : List Value}, RelVs φ l m → allLeaf l = true → ∀ v ∈ m, v.oneCell' = true
  | _, _, .nil, _, v, hv => by simp at hv
  | _, _, .cons h t, hl, v, hv => by
    simp only [allLeaf] at hl
    rename_i a l _ _
    cases ha : a.leaf with
    | false => simp [ha] at hl
    | true =>
      simp [ha] at hl
      rcases List.mem_cons.1 hv with rfl | hv
      · exact h.leaf ha
      · exact RelVs.leaf t hl v hv

theorem allLeaf_iff : ∀ {l : List AV}, allLeaf l = true ↔ ∀ v ∈ l, v.leaf = true
  | [] => by simp [allLeaf]
  | a :: l => by
    simp only [allLeaf, List.mem_cons, forall_eq_or_imp]
    cases a.leaf with
    | false => simp
    | true => simp [allLeaf_iff (l := l)]

theorem allLeaf_append {l m : List AV} (h : allLeaf l = true) (k : allLeaf m = true) : allLeaf (l ++ m) = true := by
  rw [allLeaf_iff] at *
  intro v hv
  rcases List.mem_append.1 hv with h1 | h1
  · exact h v h1
  · exact k v h1
theorem allLeaf_take {l : List AV} (h : allLeaf l = true) (n : Nat) : allLeaf (l.take n) = true := by
  rw [allLeaf_iff] at *
  exact fun v hv => h v (List.mem_of_mem_take hv)
theorem allLeaf_drop {l : List AV} (h : allLeaf l = true) (n : Nat) : allLeaf (l.drop n) = true := by
  rw [allLeaf_iff] at *
  exact fun v hv => h v (List.mem_of_mem_drop hv)
theorem allLeaf_lay {l m : List AV} (h : allLeaf l = true) (k : allLeaf m = true) (n : Nat) : allLeaf (lay l n m) = true :=
  allLeaf_append (allLeaf_append (allLeaf_take h n) k) (allLeaf_drop h _)
theorem allLeaf_flatten {es : List (List AV)} (h : ∀ e ∈ es, allLeaf e = true) : allLeaf es.flatten = true := by
  rw [allLeaf_iff]
  intro v hv
  obtain ⟨e, he, hv⟩ := List.mem_flatten.1 hv
  exact allLeaf_iff.1 (h e he) v hv

/-! ### Temporaries -/
def RelR (φ : Phi) (N : Nat) (ρ : Regs) (tmps : Array Value) : Prop := N ≤ tmps.size ∧ ∀ t v, ρ.get t = some v → ∃ cv, tmps[t]? = some cv ∧ RelV φ v cv

theorem RelR.mono {φ ψ : Phi} {N : Nat} {ρ : Regs} {tmps : Array Value} (hle : φ.le ψ) (h : RelR φ N ρ tmps) : RelR ψ N ρ tmps :=
  ⟨h.1, fun t v e => let ⟨cv, h1, h2⟩ := h.2 t v e; ⟨cv, h1, h2.mono hle⟩⟩

theorem RelR.set {φ : Phi} {N : Nat} {ρ : Regs} {tmps : Array Value} (h : RelR φ N ρ tmps) {d : Nat} (hd : d < N) {v : AV} {cv : Value} (hv : RelV φ v cv) : RelR φ N (ρ.set d v) (tmps.setIfInBounds d cv) := by
  refine ⟨by simpa using h.1, fun t u e => ?_⟩
  rw [PT.get_set] at e
  by_cases ht : t = d
  · subst ht
    simp at e
    subst e
    refine ⟨cv, ?_, hv⟩
    have : t < tmps.size := Nat.lt_of_lt_of_le hd h.1
    simp [this]
  · rw [if_neg ht] at e
    obtain ⟨cu, h1, h2⟩ := h.2 t u e
    exact ⟨cu, by rw [Array.getElem?_setIfInBounds_ne (Ne.symm ht)]; exact h1, h2⟩

theorem RelR.put {φ : Phi} {N : Nat} {ρ : Regs} {a : Act} (h : RelR φ N ρ a.tmps) {d : Option Nat} (hd : dstOk N d = true) {v : AV} {cv : Value} (hv : RelV φ v cv) : RelR φ N (Ab.put ρ d v) (a.put d cv).tmps := by
  cases d with
  | none => exact h
  | some d =>
    simp only [dstOk, Nat.blt_eq] at hd
    exact h.set hd hv

mutual
theorem relV_avOf {φ : Phi} : ∀ {v : Value} {a : AV}, avOf v = some a → RelV φ a v
  | .bool b, a, h => by simp [avOf] at h; subst h; exact .bool b
  | .int k n, a, h => by simp [avOf] at h; subst h; exact .int k n
  | .string s, a, h => by simp [avOf] at h; subst h; exact .str rfl
  | .pointer none, a, h => by simp [avOf] at h; subst h; exact .nilPtr
  | .pointer (some _), a, h => by simp [avOf] at h
  | .slice none 0 0, a, h => by simp [avOf] at h; subst h; exact .nilSlc
  | .slice none 0 (_ + 1), a, h => by simp [avOf] at h
  | .slice none (_ + 1) _, a, h => by simp [avOf] at h
  | .slice (some _) _ _, a, h => by simp [avOf] at h
  | .map none, a, h => by simp [avOf] at h; subst h; exact .nilMap
  | .map (some _), a, h => by simp [avOf] at h
  | .nilFunc, a, h => by simp [avOf] at h; subst h; exact .nilFn
  | .agg ⟨l⟩, a, h => by
    simp only [avOf] at h
    cases hl : avsOf l with
    | none => simp [hl] at h
    | some r => simp [hl] at h; subst h; exact .agg (relVs_avsOf hl)
  | .tuple ⟨l⟩, a, h => by
    simp only [avOf] at h
    cases hl : avsOf l with
    | none => simp [hl] at h
    | some r => simp [hl] at h; subst h; exact .tup (relVs_avsOf hl)
  | .float _ _, a, h => by simp [avOf] at h
  | .complex _ _ _, a, h => by simp [avOf] at h
  | .chan _, a, h => by simp [avOf] at h
  | .func _ _ _, a, h => by simp [avOf] at h
  | .iface _ _, a, h => by simp [avOf] at h
  | .nilIface, a, h => by simp [avOf] at h; subst h; exact .nilIf
theorem relVs_avsOf {φ : Phi} : ∀ {l : List Value} {r : List AV}, avsOf l = some r → RelVs φ r l
  | [], r, h => by simp [avsOf] at h; subst h; exact .nil
  | v :: l, r, h => by
    simp only [avsOf] at h
    cases hv : avOf v with
    | none => simp [hv] at h
    | some a =>
      cases hl : avsOf l with
      | none => simp [hv, hl] at h
      | some r' => simp [hv, hl] at h; subst h; exact .cons (relV_avOf hv) (relVs_avsOf hl)
end

theorem ev_opd {φ : Phi} {N : Nat} {ρ : Regs} {a : Act} (h : RelR φ N ρ a.tmps) {x : Operand} {y : Opd} (hx : opdOf x = some y) {v : AV} (hv : ev ρ y = some v) : RelV φ v (a.eval x) := by
  cases x with
  | tmp t =>
    simp [opdOf] at hx; subst hx
    obtain ⟨cv, h1, h2⟩ := h.2 t v hv
    have : a.eval (.tmp t) = cv := by simp [Act.eval, h1]
    rw [this]; exact h2
  | const c =>
    simp only [opdOf] at hx
    cases hc : avOf c with
    | none => simp [hc] at hx
    | some u =>
      simp [hc] at hx; subst hx
      simp [ev] at hv; subst hv
      exact relV_avOf hc
  | global g => simp [opdOf] at hx
  | func f =>
    simp [opdOf] at hx; subst hx
    simp [ev] at hv; subst hv
    exact .func .nil .nil

theorem evs_opds {φ : Phi} {N : Nat} {ρ : Regs} {a : Act} (h : RelR φ N ρ a.tmps) : ∀ {l : List Operand} {m : List Opd}, opdsOf l = some m → ∀ {vs : List AV}, evs ρ m = some vs → RelVs φ vs (l.map a.eval)
  | [], m, hm, vs, hv => by simp [opdsOf] at hm; subst hm; simp [evs] at hv; subst hv; exact .nil
  | x :: l, m, hm, vs, hv => by
    simp only [opdsOf] at hm
    cases hx : opdOf x with
    | none => simp [hx] at hm
    | some y =>
      cases hl : opdsOf l with
      | none => simp [hx, hl] at hm
      | some m' =>
        simp [hx, hl] at hm; subst hm
        simp only [evs] at hv
        cases he : ev ρ y with
        | none => simp [he] at hv
        | some v =>
          cases hes : evs ρ m' with
          | none => simp [he, hes] at hv
          | some vs' =>
            simp [he, hes] at hv; subst hv
            exact .cons (ev_opd h hx he) (evs_opds h hl hes)

/-! ### The heap -/
def pendOf : LState → LoopState × Option Code
  | .ready => (.ready, none)
  | .busy => (.busy, none)
  | .done .normal => (.done, none)
  | .done .ret => (.done, some .ret)
  | .done (.exit id) => (.done, some (.exit id))
  | .done (.goto l) => (.done, some (.goto l))
  | .done (.panic _) => (.done, none)
  | .exh => (.exhausted, none)

/-- What a record of a loop says, of its state; of one that is busy or over the pending jump is not told. -/
def RelSt (s : LState) (r : Loop) : Prop :=
  match s with
  | .ready => r.state = .ready ∧ r.pending = none
  | .busy => r.state = .busy
  | .done x => r.state = .done ∧ (match x with | .normal => False | .ret => r.pending = some .ret | .exit id => r.pending = some (.exit id) | .goto l => r.pending = some (.goto l) | .panic _ => False)
  | .exh => r.state = .exhausted

inductive RelEs (φ : Phi) : List (AV × AV × Nat) → List MapEntry → Prop
  | nil : RelEs φ [] []
  | cons {k v : AV} {b : Nat} {l : List (AV × AV × Nat)} {e : MapEntry} {m : List MapEntry} (hk : RelV φ k e.key) (hv : RelV φ v e.val) (hb : e.born = b) (t : RelEs φ l m) : RelEs φ ((k, v, b) :: l) (e :: m)

theorem RelEs.mono {φ ψ : Phi} (hle : φ.le ψ) {l : List (AV × AV × Nat)} {m : List MapEntry} (h : RelEs φ l m) : RelEs ψ l m := by
  induction h with
  | nil => exact .nil
  | cons hk hv hb _ ih => exact .cons (hk.mono hle) (hv.mono hle) hb ih

structure RelRow (φ : Phi) (id : Nat) (r : Row) (w : World) : Prop where
  mg : r.m ≤ r.g
  sz : 0 < r.sz
  es : ∀ e ∈ r.es, e.length = r.sz
  leaf : ∀ e ∈ r.es, allLeaf e = true
  cur : ∃ L, φ id r.g = some L ∧ L.ext = r.es.length
  gen : ∀ g L, φ id g = some L → g ≤ r.g ∧ L.sz = r.sz
  cells : ∀ g L, r.m ≤ g → φ id g = some L → L.ext ≤ r.es.length ∧
    ∃ vals : List Value, RelVs φ (r.es.take L.ext).flatten vals ∧ ∀ (j : Nat) (v : Value), vals[j]? = some v → w.cell? ⟨L.blk, L.base + j, none⟩ = some v
  own : r.rw = true → ∀ g L, r.m ≤ g → φ id g = some L → L.base = 0 ∧ ∃ c t, w.heap[L.blk]? = some (.cells c t (0, 0)) ∧ c.size = L.tot * L.sz ∧ L.ext ≤ L.tot
  ty : ∀ e, r.ty = some e → r.rw = true → ∀ g L, r.m ≤ g → φ id g = some L → ∃ c f, w.heap[L.blk]? = some (.cells c e f)

def RelO (P : Program) (φ : Phi) (id : Nat) (o : AObj) (w : World) : Prop :=
  match o with
  | .row r => RelRow φ id r w
  | .map es clock => ∃ L cs, φ id 0 = some L ∧ w.heap[L.blk]? = some (.map cs clock) ∧ RelEs φ es cs.toList
  | .iter m since seen stepped => ∃ L, φ id 0 = some L ∧ ∃ cm, w.heap[L.blk]? = some (.mapIter cm since seen.reverse.toArray stepped) ∧
      (match m with | none => cm = none | some k => ∃ L', φ k 0 = some L' ∧ cm = some L'.blk)
  | .gone => True
  | .rmap es clock => ∃ L cs, φ id 0 = some L ∧ w.heap[L.blk]? = some (.map cs clock) ∧ RelEs φ es cs.toList
  | .dead => True
  | .gvar b => ∃ L te pe, φ id 0 = some L ∧ L.blk = b ∧ w.cell? ⟨b, 0, none⟩ = some (.iface te pe)
  | .loop l => ∃ L r N, φ id 0 = some L ∧ w.heap[L.blk]? = some (.loop r) ∧ RelR φ N l.regs r.tmps ∧ r.params.toList = l.ps ∧ (∀ p ∈ l.ps, p < N) ∧ comp P N r.assign = some (strip l.asg) ∧ comp P N r.body = some (strip l.body) ∧ RelSt l.st r


/-- What a step leaves alone: the blocks below 'n'; the objects that have no block yet. -/
structure Base where
  n : Nat
  gh : Nat → Option AObj

instance : Coe Base Nat := ⟨Base.n⟩

@[reducible] def Base.of (n : Nat) : Base := ⟨n, fun _ => none⟩
@[simp] theorem Base.of_n (n : Nat) : (Base.of n).n = n := rfl
@[simp] theorem Base.of_gh (n id : Nat) : (Base.of n).gh id = none := rfl

structure RelH (P : Program) (B : Base) (φ : Phi) (h : AHeap) (w : World) : Prop where
  base : B ≤ w.heap.size
  dom : ∀ id g L, φ id g = some L → id < h.sz
  gone : ∀ id, h.sz ≤ id → h.get id = none
  objn : ∀ id o, h.get id = some o → B.gh id = none → RelO P φ id o w
  lt : ∀ id g L, φ id g = some L → L.blk < w.heap.size
  own : ∀ id o g L, h.get id = some o → φ id g = some L → (o.own = true → B ≤ L.blk) ∧ (o.own = false → L.blk < B)
  disj : ∀ id o id' g g' L L', h.get id = some o → o.own = true → φ id g = some L → φ id' g' = some L' → L.blk = L'.blk → id = id'
  nodef : ∀ id g L, φ id g = some L → ∀ ds : Option (List Deferred), w.heap[L.blk]? ≠ some (Obj.deferred ds)
  ghost : ∀ id o, B.gh id = some o → (∀ u, h.get id = some u → u = o) ∧ id < h.sz ∧ (∀ g, φ id g = none) ∧ o.own = true

theorem RelH.real {P : Program} {B : Base} {φ : Phi} {h : AHeap} {w : World} (H : RelH P B φ h w) {id g : Nat} {L : Loc} (hL : φ id g = some L) : B.gh id = none := by
  cases e : B.gh id with
  | none => rfl
  | some o => rw [(H.ghost id o e).2.2.1 g] at hL; cases hL

theorem RelH.obj {P : Program} {B : Base} {φ : Phi} {h : AHeap} {w : World} (H : RelH P B φ h w) (id : Nat) (o : AObj) (ho : h.get id = some o) (hd : ∃ g L, φ id g = some L := by exact ⟨_, _, by assumption⟩) : RelO P φ id o w := by
  obtain ⟨g, L, hL⟩ := hd
  exact H.objn id o ho (H.real hL)

/-- What a step of the call leaves: the outer world, all that lay below B, the blocks for deferred calls. -/
structure Gw (B : Nat) (w w' : World) : Prop where
  os : w'.os = w.os
  tape : w'.tape = w.tape
  output : w'.output = w.output
  size : w.heap.size ≤ w'.heap.size
  below : ∀ k : Nat, k < B → w'.heap[k]? = w.heap[k]?
  defd : ∀ (k : Nat) (ds : Option (List Deferred)), w.heap[k]? = some (Obj.deferred ds) → w'.heap[k]? = some (Obj.deferred ds)
  loops : ∀ (k : Nat) (r : Loop), w.heap[k]? = some (Obj.loop r) → ∃ r', w'.heap[k]? = some (Obj.loop r')

theorem Gw.refl (B : Nat) (w : World) : Gw B w w := ⟨rfl, rfl, rfl, Nat.le_refl _, fun _ _ => rfl, fun _ _ h => h, fun _ r h => ⟨r, h⟩⟩
/-- What is frozen below B stays so. -/
theorem Gw.frozen {B : Nat} {w w' : World} (h : Gw B w w') (a : Addr) (ha : a.block < B) : w'.frozen? a = w.frozen? a := by simp only [World.frozen?, h.below _ ha]
theorem Gw.trans {B : Nat} {w w1 w2 : World} (h : Gw B w w1) (k : Gw B w1 w2) : Gw B w w2 :=
  ⟨k.os.trans h.os, k.tape.trans h.tape, k.output.trans h.output, Nat.le_trans h.size k.size, fun i hi => (k.below i hi).trans (h.below i hi), fun i ds hd => k.defd i ds (h.defd i ds hd), fun i r hr => (let ⟨r', h'⟩ := h.loops i r hr; k.loops i r' h')⟩

theorem Gw.drew (B : Nat) (w : World) : Gw B w w.drew := ⟨rfl, rfl, rfl, Nat.le_refl _, fun _ _ => rfl, fun _ _ h => h, fun _ r h => ⟨r, h⟩⟩

/-- A world whose heap is the same: what holds of the one holds of the other. -/
theorem RelO.heap {P : Program} {φ : Phi} {id : Nat} {o : AObj} {w w' : World} (h : RelO P φ id o w) (e : w'.heap = w.heap) : RelO P φ id o w' := by
  have ec : ∀ a, w'.cell? a = w.cell? a := fun a => by simp [World.cell?, e]
  cases o with
  | row r =>
    refine ⟨h.mg, h.sz, h.es, h.leaf, h.cur, h.gen, fun g L h1 h2 => ?_, fun hr g L h1 h2 => by rw [e]; exact h.own hr g L h1 h2, fun t ht hr g L h1 h2 => by rw [e]; exact h.ty t ht hr g L h1 h2⟩
    obtain ⟨a, vals, b, c⟩ := h.cells g L h1 h2
    exact ⟨a, vals, b, fun j v hj => by rw [ec]; exact c j v hj⟩
  | map es c => simpa only [RelO, e] using h
  | iter m s l p => simpa only [RelO, e] using h
  | loop l => simpa only [RelO, e] using h
  | gone => trivial
  | rmap es c => simpa only [RelO, e] using h
  | dead => trivial
  | gvar b => simpa only [RelO, ec] using h

theorem RelH.heap {P : Program} {B : Base} {φ : Phi} {h : AHeap} {w w' : World} (k : RelH P B φ h w) (e : w'.heap = w.heap) : RelH P B φ h w' :=
  ⟨by rw [e]; exact k.base, k.dom, k.gone, fun id o ho hd => (k.objn id o ho hd).heap e, fun id g L hl => by rw [e]; exact k.lt id g L hl, k.own, k.disj, fun id g L hl => by rw [e]; exact k.nodef id g L hl, k.ghost⟩

theorem RelH.drew {P : Program} {B : Base} {φ : Phi} {h : AHeap} {w : World} (k : RelH P B φ h w) : RelH P B φ h w.drew := k.heap rfl

end Go.Ab
