/-
  What comes in: data that read as a type's are laid on the abstract heap, as rows that may not be written.
-/
import Derived.Test.YtbamgdknkhhikaaAbBridge
import Derived.Test.YtbamgdknkhhikaaAbSim
import Derived.ChangeOld
import Derived.ChangeSame
namespace Go.Ab
set_option linter.unusedSimpArgs false
set_option linter.unusedVariables false

inductive All2 {α β : Type} (R : α → β → Prop) : List α → List β → Prop
  | nil : All2 R [] []
  | cons {a : α} {b : β} {l : List α} {m : List β} (h : R a b) (t : All2 R l m) : All2 R (a :: l) (b :: m)

theorem All2.length {α β : Type} {R : α → β → Prop} {l : List α} {m : List β} (h : All2 R l m) : l.length = m.length := by
  induction h with
  | nil => rfl
  | cons _ _ ih => simp [ih]
theorem All2.mono {α β : Type} {R S : α → β → Prop} (k : ∀ a b, R a b → S a b) {l : List α} {m : List β} (h : All2 R l m) : All2 S l m := by
  induction h with
  | nil => exact .nil
  | cons h _ ih => exact .cons (k _ _ h) ih
theorem All2.get {α β : Type} {R : α → β → Prop} {l : List α} {m : List β} (h : All2 R l m) : ∀ {i : Nat} {b : β}, m[i]? = some b → ∃ a, l[i]? = some a ∧ R a b := by
  induction h with
  | nil => intro i b e; simp at e
  | cons h _ ih =>
    intro i b e
    cases i with
    | zero => simp at e; subst e; exact ⟨_, by simp, h⟩
    | succ i => simp at e; simpa using ih e
theorem All2.get' {α β : Type} {R : α → β → Prop} {l : List α} {m : List β} (h : All2 R l m) : ∀ {i : Nat} {a : α}, l[i]? = some a → ∃ b, m[i]? = some b ∧ R a b := by
  induction h with
  | nil => intro i b e; simp at e
  | cons h _ ih =>
    intro i b e
    cases i with
    | zero => simp at e; subst e; exact ⟨_, by simp, h⟩
    | succ i => simp at e; simpa using ih e
theorem All2.take {α β : Type} {R : α → β → Prop} {l : List α} {m : List β} (h : All2 R l m) : ∀ n, All2 R (l.take n) (m.take n) := by
  induction h with
  | nil => intro n; simp; exact .nil
  | cons h _ ih =>
    intro n
    cases n with
    | zero => simp; exact .nil
    | succ n => simp; exact .cons h (ih n)
theorem All2.drop {α β : Type} {R : α → β → Prop} {l : List α} {m : List β} (h : All2 R l m) : ∀ n, All2 R (l.drop n) (m.drop n) := by
  induction h with
  | nil => intro n; simp; exact .nil
  | cons h t ih =>
    intro n
    cases n with
    | zero => simp; exact .cons h t
    | succ n => simpa using ih n
theorem All2.append {α β : Type} {R : α → β → Prop} {l : List α} {m : List β} (h : All2 R l m) {l' : List α} {m' : List β} (h' : All2 R l' m') : All2 R (l ++ l') (m ++ m') := by
  induction h with
  | nil => exact h'
  | cons h _ ih => exact .cons h ih

/-! ### How much data there is -/
mutual
def bulk {H : Type} : DataW H → Nat
  | .lit (.string bytes) => bytes.length + 1
  | .lit _ => 1
  | .nil => 1
  | .ptr d => bulk d + 1
  | .slice elems spare => bulkAll elems + bulkAll spare + 1
  | .agg parts => bulkAll parts + 1
  | .iface _ d => bulk d + 1
  | .map entries => bulkEntries entries + 1
  | .held _ => 1
def bulkAll {H : Type} : List (DataW H) → Nat
  | [] => 0
  | d :: r => bulk d + bulkAll r
def bulkEntries {H : Type} : List (Lit × DataW H) → Nat
  | [] => 0
  | x :: r => bulkEntry x + bulkEntries r
def bulkEntry {H : Type} : Lit × DataW H → Nat
  | (.string bytes, d) => bytes.length + bulk d + 1
  | (_, d) => bulk d + 1
end

theorem bulkAll_append {H : Type} : ∀ (l m : List (DataW H)), bulkAll (l ++ m) = bulkAll l + bulkAll m
  | [], m => by simp [bulkAll]
  | d :: l, m => by simp [bulkAll, bulkAll_append l m, Nat.add_assoc]

def szL {α : Type} (sz : α → Nat) : List α → Nat
  | [] => 0
  | x :: l => sz x + szL sz l

theorem szL_length {α : Type} {sz : α → Nat} (h : ∀ x, 1 ≤ sz x) : ∀ (l : List α), l.length ≤ szL sz l
  | [] => Nat.le_refl _
  | x :: l => by have := szL_length h l; have := h x; simp [szL]; omega
theorem szL_take {α : Type} {sz : α → Nat} : ∀ (l : List α) (n : Nat), szL sz (l.take n) ≤ szL sz l
  | [], n => by simp
  | x :: l, 0 => by simp [szL]
  | x :: l, n + 1 => by have := szL_take (sz := sz) l n; simp [szL]; omega
theorem szL_mem {α : Type} {sz : α → Nat} : ∀ {l : List α} {x : α}, x ∈ l → sz x ≤ szL sz l
  | y :: l, x, h => by
    rcases List.mem_cons.1 h with rfl | h
    · simp [szL]
    · have := szL_mem (sz := sz) h; simp [szL]; omega

/-! ### Rows that are kept -/
def Ext (h h' : AHeap) : Prop := h.sz ≤ h'.sz ∧ ∀ id o, h.get id = some o → h'.get id = some o
theorem Ext.refl (h : AHeap) : Ext h h := ⟨Nat.le_refl _, fun _ _ e => e⟩
theorem Ext.trans {a b c : AHeap} (h : Ext a b) (k : Ext b c) : Ext a c := ⟨Nat.le_trans h.1 k.1, fun id o e => k.2 id o (h.2 id o e)⟩
theorem Ext.row {h h' : AHeap} (e : Ext h h') {id : Nat} {r : Row} (hr : h.row id = some r) : h'.row id = some r := AHeap.row_some.2 (e.2 id _ (AHeap.row_some.1 hr))

section
variable {H : Type} {enc : TypeId × Value → H} {P : Program} {W : World} {held : Bool}

abbrev Rd (α : Type) := AHeap → List AV → α → Prop
def Mono {α : Type} (R : Rd α) : Prop := ∀ h h' a x, Ext h h' → R h a x → R h' a x

/-- Whatever reads as a datum of type t, to a depth, can be laid: n cells, that stand for a datum of Lean. -/
abbrev InAt (enc : TypeId × Value → H) (P : Program) (W : World) (held : Bool) {α : Type} (t : TypeId) (n : Nat) (sz : α → Nat) (R : Rd α) (fuel : Nat) : Prop :=
  ∀ (cs : List Value) (d : DataW H) (ps : List MemPlace), DataW.trod enc P W 0 (fun _ => true) held fuel t cs = some (d, ps) → ∀ φ h, RelH P (.of W.heap.size) φ h W →
    (∀ (W' : World) (sp' : Nat → Bool), (∀ k : Nat, k < W.heap.size → W'.heap[k]? = W.heap[k]?) → (∀ p ∈ ps, sp' p.block = true) → DataW.trod enc P W' 0 sp' held fuel t cs = some (d, ps)) ∧
    ∃ φ' h' avs x, φ.le φ' ∧ Ext h h' ∧ RelH P (.of W.heap.size) φ' h' W ∧ RelVs φ' avs cs ∧ avs.length = n ∧ allLeaf avs = true ∧ R h' avs x ∧ sz x ≤ bulk d

/-- ... to any depth. -/
def In (enc : TypeId × Value → H) (P : Program) (W : World) (held : Bool) {α : Type} (t : TypeId) (n : Nat) (sz : α → Nat) (R : Rd α) : Prop :=
  ∀ (fuel : Nat), InAt enc P W held t n sz R fuel

theorem InAt.zero {α : Type} {t : TypeId} {n : Nat} {sz : α → Nat} {R : Rd α} : InAt enc P W held t n sz R 0 := by
  intro cs d ps ht
  simp [DataW.trod] at ht

theorem InAt.conv {α β : Type} {t : TypeId} {n : Nat} {sz : α → Nat} {R : Rd α} {fuel : Nat} (I : InAt enc P W held t n sz R fuel) {sz' : β → Nat} {S : Rd β} (k : ∀ h a x, R h a x → ∃ y, S h a y ∧ sz' y ≤ sz x) : InAt enc P W held t n sz' S fuel := by
  intro cs d ps ht φ h HH
  obtain ⟨h1, φ', h', avs, x, a1, a2, a3, a4, a5, a6, a7, a8⟩ := I cs d ps ht φ h HH
  obtain ⟨y, b1, b2⟩ := k h' avs x a7
  exact ⟨h1, φ', h', avs, y, a1, a2, a3, a4, a5, a6, b1, Nat.le_trans b2 a8⟩

theorem In.conv {α β : Type} {t : TypeId} {n : Nat} {sz : α → Nat} {R : Rd α} (I : In enc P W held t n sz R) {sz' : β → Nat} {S : Rd β} (k : ∀ h a x, R h a x → ∃ y, S h a y ∧ sz' y ≤ sz x) : In enc P W held t n sz' S := by
  intro fuel cs d ps ht φ h HH
  obtain ⟨h1, φ', h', avs, x, a1, a2, a3, a4, a5, a6, a7, a8⟩ := I fuel cs d ps ht φ h HH
  obtain ⟨y, b1, b2⟩ := k h' avs x a7
  exact ⟨h1, φ', h', avs, y, a1, a2, a3, a4, a5, a6, b1, Nat.le_trans b2 a8⟩

def RBool : Rd Bool := fun _ a b => a = [.bool b]
def RInt (k : IntKind) : Rd Int := fun _ a n => a = [.int k n] ∧ k.min ≤ n ∧ n ≤ k.max
def RStr : Rd (List Nat) := fun _ a s => a = [.str s] ∧ ∀ b ∈ s, b < 256

theorem In.bool {t : TypeId} (hu : P.underlying t = some .bool) : In enc P W held t 1 (fun _ : Bool => 1) RBool := by
  intro fuel cs d ps ht φ h HH
  cases fuel with
  | zero => simp [DataW.trod] at ht
  | succ fuel =>
    unfold DataW.trod at ht
    rw [hu] at ht
    split at ht <;> simp only [reduceCtorEq, Option.some.injEq] at * <;> try (cases ht; done)
    rename_i b h1
    simp only [Prod.mk.injEq] at ht
    obtain ⟨rfl, rfl⟩ := ht
    refine ⟨fun W' sp' _ _ => ?_, φ, h, [.bool b], b, φ.le_refl, Ext.refl h, HH, .cons (.bool _) .nil, rfl, rfl, rfl, by simp [bulk]⟩
    unfold DataW.trod; rw [hu]

theorem In.int {t : TypeId} {k : IntKind} (hu : P.underlying t = some (.int k)) : In enc P W held t 1 (fun _ : Int => 1) (RInt k) := by
  intro fuel cs d ps ht φ h HH
  cases fuel with
  | zero => simp [DataW.trod] at ht
  | succ fuel =>
    have ht0 := ht
    unfold DataW.trod at ht
    rw [hu] at ht
    split at ht <;> simp only [reduceCtorEq, Option.some.injEq, TypeDesc.int.injEq] at * <;> try (cases ht; done)
    rename_i k' k'' n h1
    subst h1
    split at ht
    · rename_i hc
      obtain ⟨rfl, hw⟩ := hc
      simp only [Option.some.injEq, Prod.mk.injEq] at ht
      obtain ⟨rfl, rfl⟩ := ht
      simp only [Lit.wf, Bool.and_eq_true, decide_eq_true_eq] at hw
      refine ⟨fun W' sp' _ _ => ?_, φ, h, [.int _ n], n, φ.le_refl, Ext.refl h, HH, .cons (.int _ _) .nil, rfl, rfl, ⟨rfl, hw⟩, by simp [bulk]⟩
      unfold DataW.trod; rw [hu]; simp [Lit.wf, hw]
    · cases ht

theorem In.str {t : TypeId} (hu : P.underlying t = some .string) : In enc P W held t 1 (fun s : List Nat => s.length + 1) RStr := by
  intro fuel cs d ps ht φ h HH
  cases fuel with
  | zero => simp [DataW.trod] at ht
  | succ fuel =>
    unfold DataW.trod at ht
    rw [hu] at ht
    split at ht <;> simp only [reduceCtorEq, Option.some.injEq] at * <;> try (cases ht; done)
    rename_i s h1
    split at ht
    · rename_i hs
      simp only [Option.some.injEq, Prod.mk.injEq] at ht
      obtain ⟨rfl, rfl⟩ := ht
      refine ⟨fun W' sp' _ _ => ?_, φ, h, [.str (s.data.toList.map UInt8.toNat)], _, φ.le_refl, Ext.refl h, HH, .cons (.str rfl) .nil, rfl, rfl, ⟨rfl, ?_⟩, by simp [bulk]⟩
      · unfold DataW.trod; rw [hu]; simp [hs]
      · intro b hb
        obtain ⟨u, _, rfl⟩ := List.mem_map.1 hb
        exact u.toNat_lt
    · cases ht

/-! ### Slices -/
def RSl {α : Type} (n : Nat) (R : Rd α) : Rd (List α) := fun h a l =>
  (l = [] ∧ (a = [.nilSlc] ∨ a = [.emp])) ∨ ∃ id cap r, a = [.slc id 0 0 l.length cap true] ∧ h.row id = some r ∧ r.rw = false ∧ r.m = 0 ∧ r.g = 0 ∧ r.sz = n ∧ l.length ≤ cap ∧ cap = r.es.length ∧ All2 (R h) (r.es.take l.length) l

theorem RSl.mono {α : Type} {n : Nat} {R : Rd α} (hR : Mono R) : Mono (RSl n R) := by
  intro h h' a l e hh
  rcases hh with hh | ⟨id, cap, r, h1, h2, h3, h4, h5, h6, h7, h8, h9⟩
  · exact .inl hh
  · exact .inr ⟨id, cap, r, h1, e.row h2, h3, h4, h5, h6, h7, h8, h9.mono fun a b => hR h h' a b e⟩

theorem addr_add_spot {a : Addr} {i : Nat} {W : World} {v : Value} (h : W.cell? (a.add i) = some v) : a.add i = ⟨a.block, a.off + i, none⟩ := by
  have hspot : (a.add i).spot = none := by
    cases hsp : (a.add i).spot with
    | none => rfl
    | some s =>
      simp only [World.cell?] at h
      split at h
      · simp [hsp] at h
      · cases h
  unfold Addr.add at hspot ⊢
  split
  · rename_i h0
    subst h0
    rw [if_pos rfl] at hspot
    cases a
    simp_all
  · rfl

/-- The cells of an element, where they lie. -/
theorem cells_at {a : Addr} {i n : Nat} {cells : List Value} (hn : 0 < n) (h : W.cells? 0 (a.add (i * n)) n = some cells) : cells.length = n ∧ ∀ (j : Nat) v, cells[j]? = some v → W.cell? ⟨a.block, a.off + i * n + j, none⟩ = some v := by
  obtain ⟨_, hl, hc⟩ := World.cells?_some h
  refine ⟨hl, fun j v hj => ?_⟩
  have hjl := (List.getElem?_eq_some_iff.1 hj).1
  have h1 := hc j (by omega)
  rw [hj] at h1
  have h0 := hc 0 hn
  have hcell0 : ∃ v0, cells[0]? = some v0 := ⟨cells[0], by simp⟩
  obtain ⟨v0, hv0⟩ := hcell0
  rw [hv0] at h0
  have e1 : a.add (i * n) = ⟨a.block, a.off + i * n, none⟩ := by
    have : (a.add (i * n)).add 0 = a.add (i * n) := by unfold Addr.add; simp
    rw [this] at h0
    exact addr_add_spot h0
  rw [e1] at h1
  have e2 := addr_add_spot h1
  rw [e2] at h1
  exact h1

theorem elems_flat {φ : Phi} {a : Addr} {n : Nat} (hn : 0 < n) : ∀ {s : Nat} {k : Nat} {es : List (List AV)}, All2 (fun i e => ∃ cells, W.cells? 0 (a.add (i * n)) n = some cells ∧ RelVs φ e cells ∧ e.length = n ∧ allLeaf e = true) (List.range' s k) es →
    ∃ vals, RelVs φ es.flatten vals ∧ ∀ (j : Nat) v, vals[j]? = some v → W.cell? ⟨a.block, a.off + s * n + j, none⟩ = some v
  | s, 0, es, h => by
    cases h
    exact ⟨[], by simp; exact .nil, by simp⟩
  | s, k + 1, es, h => by
    rw [List.range'_succ] at h
    cases h with
    | cons h t =>
      rename_i e es
      obtain ⟨cells, c1, c2, c3, c4⟩ := h
      obtain ⟨vals, v1, v2⟩ := elems_flat hn t
      obtain ⟨q1, q2⟩ := cells_at hn c1
      refine ⟨cells ++ vals, by simpa using c2.append v1, fun j v hj => ?_⟩
      by_cases hjn : j < n
      · rw [List.getElem?_append_left (by omega)] at hj
        exact q2 j v hj
      · rw [List.getElem?_append_right (by omega), q1] at hj
        have := v2 (j - n) v hj
        have e : a.off + s * n + j = a.off + (s + 1) * n + (j - n) := by rw [Nat.add_mul]; omega
        rw [e]; exact this

theorem mapM_cons_some {α β : Type} {f : α → Option β} {x : α} {l : List α} {r : List β} (h : (x :: l).mapM f = some r) : ∃ y m, f x = some y ∧ l.mapM f = some m ∧ r = y :: m := by
  rw [List.mapM_cons] at h
  cases hx : f x with
  | none => simp [hx] at h
  | some y =>
    cases hl : l.mapM f with
    | none => simp [hx, hl] at h
    | some m => simp [hx, hl] at h; exact ⟨y, m, rfl, rfl, h.symm⟩

theorem lay_elems {α : Type} {e : TypeId} {n : Nat} {sz : α → Nat} {R : Rd α} (hR : Mono R) (fuel : Nat) (I : InAt enc P W held e n sz R fuel) (a : Addr) (hn : P.cellsOf e = n) : ∀ (l : List Nat) (xs : List (DataW H × List MemPlace)),
    l.mapM (fun i => (W.cells? 0 (a.add (i * P.cellsOf e)) (P.cellsOf e)).bind (DataW.trod enc P W 0 (fun _ => true) held fuel e)) = some xs → ∀ φ h, RelH P (.of W.heap.size) φ h W →
      (∀ (W' : World) (sp' : Nat → Bool), (∀ k : Nat, k < W.heap.size → W'.heap[k]? = W.heap[k]?) → (∀ p ∈ xs.flatMap (·.2), sp' p.block = true) → 0 < n → l.mapM (fun i => (W'.cells? 0 (a.add (i * P.cellsOf e)) (P.cellsOf e)).bind (DataW.trod enc P W' 0 sp' held fuel e)) = some xs) ∧
      ∃ φ' h' es ys, φ.le φ' ∧ Ext h h' ∧ RelH P (.of W.heap.size) φ' h' W ∧ All2 (fun i e => ∃ cells, W.cells? 0 (a.add (i * n)) n = some cells ∧ RelVs φ' e cells ∧ e.length = n ∧ allLeaf e = true) l es ∧ All2 (R h') es ys ∧ szL sz ys ≤ bulkAll (xs.map (·.1))
  | [], xs, hm, φ, h, HH => by
    simp at hm; subst hm
    exact ⟨fun _ _ _ _ _ => by simp, φ, h, [], [], φ.le_refl, Ext.refl h, HH, .nil, .nil, by simp [szL]⟩
  | i :: l, xs, hm, φ, h, HH => by
    obtain ⟨y, m, hy, hm', rfl⟩ := mapM_cons_some hm
    rw [hn] at hy
    cases hc : W.cells? 0 (a.add (i * n)) n with
    | none => rw [hc] at hy; cases hy
    | some cells =>
      rw [hc] at hy
      simp only [Option.bind_some] at hy
      obtain ⟨y1, y2⟩ := y
      obtain ⟨b1, φ1, h1, avs, x, a1, a2, a3, a4, a5, a6, a7, a8⟩ := I cells y1 y2 hy φ h HH
      obtain ⟨b2, φ2, h2, es, ys, c1, c2, c3, c4, c5, c6⟩ := lay_elems hR fuel I a hn l m hm' φ1 h1 a3
      refine ⟨fun W' sp' hW hp hpos => ?_, φ2, h2, avs :: es, x :: ys, Phi.le_trans a1 c1, a2.trans c2, c3, .cons ⟨cells, hc, a4.mono c1, a5, a6⟩ c4, .cons (hR _ _ _ _ c2 a7) c5, by simp [szL, bulkAll]; omega⟩
      rw [List.mapM_cons]
      have hk := b2 W' sp' hW (fun p hpp => hp p (by simp [List.flatMap_cons]; exact .inr (by simpa using hpp))) hpos
      have hcells : W'.cells? 0 (a.add (i * n)) n = some cells := by
        refine World.cells?_carry hc fun p hpp => ?_
        obtain ⟨k, hk, rfl⟩ := MemPlace.mem_row.1 hpp
        have hblk := World.cells?_block hc (by omega)
        show W'.cell? _ = W.cell? _
        simp only [World.cell?]
        rw [hW _ hblk]
      rw [hn] at hk ⊢
      rw [hcells]
      simp only [Option.bind_some]
      rw [b1 W' sp' hW (fun p hpp => hp p (by simp [List.flatMap_cons]; exact .inl hpp))]
      simp [hk]

theorem RelH.pushRO {φ : Phi} {h : AHeap} (HH : RelH P (.of W.heap.size) φ h W) {r : Row} (hrw : r.rw = false) {L : Loc} (hL : L.blk < W.heap.size) (hnd : ∀ ds : Option (List Deferred), W.heap[L.blk]? ≠ some (Obj.deferred ds)) (ho : RelRow (φ.add h.sz 0 L) h.sz r W) :
    RelH P (.of W.heap.size) (φ.add h.sz 0 L) (h.push (.row r)) W := by
  have hle : φ.le (φ.add h.sz 0 L) := Phi.le_add L (HH.fresh 0)
  have hget : ∀ id o', (h.push (.row r)).get id = some o' → (id = h.sz ∧ o' = .row r) ∨ (id < h.sz ∧ h.get id = some o') := by
    intro id o' e
    rw [AHeap.get_push] at e
    by_cases hi : id = h.sz
    · rw [if_pos hi] at e; cases e; exact .inl ⟨hi, rfl⟩
    · rw [if_neg hi] at e
      refine .inr ⟨?_, e⟩
      rcases Nat.lt_or_ge id h.sz with h1 | h1
      · exact h1
      · rw [HH.gone id h1] at e; cases e
  have hphi : ∀ id g K, φ.add h.sz 0 L id g = some K → (id = h.sz ∧ g = 0 ∧ K = L) ∨ φ id g = some K := by
    intro id g K e
    by_cases hk : id = h.sz ∧ g = 0
    · obtain ⟨rfl, rfl⟩ := hk; rw [Phi.add_same] at e; cases e; exact .inl ⟨rfl, rfl, rfl⟩
    · rw [Phi.add_other _ _ hk] at e; exact .inr e
  refine ⟨HH.base, ?_, ?_, ?_, ?_, ?_, ?_, ?_, ?_, fun id o e => (by cases e)⟩
  · intro id g K e
    rcases hphi id g K e with ⟨rfl, _, _⟩ | e
    · simp
    · have := HH.dom id g K e; simp; omega
  · intro id hid
    simp at hid
    rw [AHeap.get_push]
    by_cases hi : id = h.sz
    · exact ⟨_, by rw [if_pos hi]⟩
    · rw [if_neg hi]; exact HH.there id (by omega)
  · intro id hid
    simp at hid
    rw [AHeap.get_push, if_neg (by omega)]
    exact HH.gone id (by omega)
  · intro id o e _
    rcases hget id o e with ⟨rfl, rfl⟩ | ⟨hid, e⟩
    · exact ho
    · exact (HH.objn id o e rfl).other hle (fun g => Phi.add_other _ _ (by omega)) (fun _ _ _ => rfl)
  · intro id g K e
    rcases hphi id g K e with ⟨_, _, rfl⟩ | e
    · exact hL
    · exact HH.lt id g K e
  · intro id o g K e hK
    rcases hget id o e with ⟨rfl, rfl⟩ | ⟨hid, e⟩
    · rcases hphi _ g K hK with ⟨_, _, rfl⟩ | hK
      · exact ⟨fun h1 => by simp [AObj.own, hrw] at h1, fun _ => hL⟩
      · rw [HH.fresh] at hK; cases hK
    · rcases hphi _ g K hK with ⟨rfl, _, _⟩ | hK
      · omega
      · exact HH.own id o g K e hK
  · intro id o id' g g' K K' e hown hK hK' hb
    rcases hget id o e with ⟨rfl, rfl⟩ | ⟨hid, e⟩
    · simp [AObj.own, hrw] at hown
    · rcases hphi _ g K hK with ⟨rfl, _, _⟩ | hK2
      · omega
      · rcases hphi _ g' K' hK' with ⟨_, _, e3⟩ | hK3
        · have : W.heap.size ≤ K.blk := (HH.own id o g K e hK2).1 hown
          rw [e3] at hb
          omega
        · exact HH.disj id o id' g g' K K' e hown hK2 hK3 hb
  · intro id g K hK ds
    rcases hphi id g K hK with ⟨_, _, rfl⟩ | hK
    · exact hnd ds
    · exact HH.nodef id g K hK ds

theorem InAt.slice {α : Type} {t e : TypeId} {n : Nat} {sz : α → Nat} {R : Rd α} {fuel : Nat} (hu : P.underlying t = some (.slice e)) (hn : P.cellsOf e = n) (hpos : 0 < n) (hR : Mono R) (I : InAt enc P W held e n sz R fuel) :
    InAt enc P W held t 1 (fun l => szL sz l + 1) (RSl n R) (fuel + 1) := by
  intro cs d ps ht φ h HH
  · skip
    unfold DataW.trod at ht
    rw [hu] at ht
    split at ht <;> simp only [reduceCtorEq, Option.some.injEq, TypeDesc.slice.injEq] at * <;> try (cases ht; done)
    · rename_i e' h1
      simp only [Prod.mk.injEq] at ht
      obtain ⟨rfl, rfl⟩ := ht
      refine ⟨fun W' sp' _ _ => ?_, φ, h, [.nilSlc], [], φ.le_refl, Ext.refl h, HH, .cons .nilSlc .nil, rfl, rfl, .inl ⟨rfl, .inl rfl⟩, by simp [bulk, szL]⟩
      unfold DataW.trod; rw [hu]; rfl
    · rename_i e' a len cap h1
      subst h1
      split at ht
      rotate_left
      · cases ht
      rename_i hc
      obtain ⟨c1, c2, c3⟩ := hc
      simp only [if_true] at ht
      cases hel : (List.range len).mapM (fun i => (W.cells? 0 (a.add (i * P.cellsOf e)) (P.cellsOf e)).bind (DataW.trod enc P W 0 (fun _ => true) held fuel e)) with
      | none => rw [hel] at ht; cases ht
      | some elems =>
        rw [hel] at ht
        simp only [Option.bind_some] at ht
        cases hsp : (List.range (cap - len)).mapM (fun j => (W.cells? 0 (a.add ((len + j) * P.cellsOf e)) (P.cellsOf e)).bind (DataW.trod enc P W 0 (fun _ => true) held fuel e)) with
        | none => rw [hsp] at ht; cases ht
        | some rest =>
          rw [hsp] at ht
          simp only [Option.map_some, Option.some.injEq, Prod.mk.injEq] at ht
          obtain ⟨rfl, rfl⟩ := ht
          have hsp' : (List.range' len (cap - len)).mapM (fun i => (W.cells? 0 (a.add (i * P.cellsOf e)) (P.cellsOf e)).bind (DataW.trod enc P W 0 (fun _ => true) held fuel e)) = some rest := by
            rw [← hsp, List.range'_eq_map_range, List.mapM_map]
            rfl
          rw [List.range_eq_range'] at hel
          obtain ⟨b1, φ1, h1, es, ys, p1, p2, p3, p4, p5, p6⟩ := lay_elems hR fuel I a hn _ _ hel φ h HH
          obtain ⟨b2, φ2, h2, es2, ys2, q1, q2, q3, q4, q5, q6⟩ := lay_elems hR fuel I a hn _ _ hsp' φ1 h1 p3
          have hlen : es.length = len := by have := p4.length; simpa using this.symm
          have hlen2 : es2.length = cap - len := by have := q4.length; simpa using this.symm
          have hylen : ys.length = len := by rw [← p5.length, hlen]
          have hread : ∀ (W' : World) (sp' : Nat → Bool), (∀ k : Nat, k < W.heap.size → W'.heap[k]? = W.heap[k]?) → (∀ p ∈ MemPlace.row a ((elems.length + rest.length) * P.cellsOf e) ++ (elems ++ rest).flatMap (·.2), sp' p.block = true) → DataW.trod enc P W' 0 sp' held (fuel + 1) t [.slice (some a) len cap] = some (.slice (elems.map (·.1)) (rest.map (·.1)), MemPlace.row a ((elems.length + rest.length) * P.cellsOf e) ++ (elems ++ rest).flatMap (·.2)) := by
            intro W' sp' hW hp
            have k1 := b1 W' sp' hW (fun p hpp => hp p (by simp only [List.mem_append, List.flatMap_append]; exact .inr (.inl hpp))) hpos
            have k2 := b2 W' sp' hW (fun p hpp => hp p (by simp only [List.mem_append, List.flatMap_append]; exact .inr (.inr hpp))) hpos
            have hl1 : elems.length = len := by
              have := mapM_some_length hel
              simpa using this
            have hl2 : rest.length = cap - len := by
              have := mapM_some_length hsp'
              simpa using this
            unfold DataW.trod
            rw [hu]
            simp only
            rw [if_pos ⟨c1, c2, c3⟩]
            rw [← List.range_eq_range'] at k1
            rw [k1]
            simp only [Option.bind_some]
            by_cases hcap : cap = len
            · have hr0 : rest = [] := List.length_eq_zero_iff.1 (by omega)
              subst hr0
              have e0 : cap - len = 0 := by omega
              rw [e0]
              simp
            · have : sp' a.block = true := hp (.cell a.block a.off) (by
                rw [List.mem_append]
                refine .inl (MemPlace.mem_row.2 ⟨0, ?_, rfl⟩)
                rw [hn, hl1, hl2]
                exact Nat.mul_pos (by omega) hpos)
              rw [if_pos this]
              rw [List.range'_eq_map_range, List.mapM_map] at k2
              have k2' : (List.range (cap - len)).mapM (fun j => (W'.cells? 0 (a.add ((len + j) * P.cellsOf e)) (P.cellsOf e)).bind (DataW.trod enc P W' 0 sp' held fuel e)) = some rest := by
                rw [← k2]; rfl
              rw [k2']
              simp
          by_cases hcap0 : cap = 0
          · subst hcap0
            have hl0 : len = 0 := by omega
            subst hl0
            have : ys = [] := List.length_eq_zero_iff.1 hylen
            refine ⟨hread, φ, h, [.emp], [], φ.le_refl, Ext.refl h, HH, .cons .emp .nil, rfl, rfl, .inl ⟨rfl, .inr rfl⟩, by simp [bulk, szL]⟩
          · have hall : All2 (fun i e => ∃ cells, W.cells? 0 (a.add (i * n)) n = some cells ∧ RelVs φ2 e cells ∧ e.length = n ∧ allLeaf e = true) (List.range' 0 cap) (es ++ es2) := by
              have hr : List.range' 0 cap = List.range' 0 len ++ List.range' len (cap - len) := by
                have := @List.range'_append 0 len (cap - len) 1
                simp only [Nat.one_mul, Nat.zero_add] at this
                rw [this]
                congr 1; omega
              rw [hr]
              refine (p4.mono ?_).append q4
              rintro i e ⟨cells, k1, k2, k3, k4⟩
              exact ⟨cells, k1, k2.mono q1, k3, k4⟩
            obtain ⟨vals, v1, v2⟩ := elems_flat hpos hall
            have hblk : a.block < W.heap.size := by
              obtain ⟨k, hk⟩ : ∃ k, cap = k + 1 := ⟨cap - 1, by omega⟩
              rw [hk, List.range'_succ] at hall
              generalize es ++ es2 = ee at hall
              cases hall with
              | cons hh _ =>
                obtain ⟨cells, k1, _⟩ := hh
                have := World.cells?_block k1 hpos
                unfold Addr.add at this
                split at this <;> exact this
            have hcellsB : ∃ c t f, W.heap[a.block]? = some (.cells c t f) := by
              obtain ⟨k, hk⟩ : ∃ k, cap = k + 1 := ⟨cap - 1, by omega⟩
              rw [hk, List.range'_succ] at hall
              generalize es ++ es2 = ee at hall
              cases hall with
              | cons hh _ =>
                obtain ⟨cells, k1, _⟩ := hh
                obtain ⟨w1, w2⟩ := cells_at hpos k1
                have hv : ∃ v, cells[0]? = some v := ⟨cells[0]'(by omega), by simp⟩
                obtain ⟨v, hv⟩ := hv
                have := w2 0 v hv
                simp only [World.cell?] at this
                split at this
                · rename_i c t f hh; exact ⟨c, t, f, hh⟩
                · cases this
            let L : Loc := ⟨a.block, a.off, n, cap, cap⟩
            let r : Row := { es := es ++ es2, sz := n, g := 0, m := 0, rw := false }
            have hlt : (es ++ es2).length = cap := by simp; omega
            have hfresh := q3.fresh 0
            have hle := Phi.le_add (φ := φ2) (id := h2.sz) (g := 0) L hfresh
            have hkey : ∀ g K, φ2.add h2.sz 0 L h2.sz g = some K → g = 0 ∧ K = L := by
              intro g K e
              by_cases hg : g = 0
              · subst hg; rw [Phi.add_same] at e; cases e; exact ⟨rfl, rfl⟩
              · rw [Phi.add_other _ _ (show ¬ (h2.sz = h2.sz ∧ g = 0) by omega)] at e; rw [q3.fresh] at e; cases e
            have hmem : ∀ x ∈ es ++ es2, x.length = n ∧ allLeaf x = true := by
              intro x hx
              obtain ⟨i, hi⟩ := List.getElem?_of_mem hx
              have key : ∀ {l : List Nat} {m : List (List AV)}, All2 (fun i e => ∃ cells, W.cells? 0 (a.add (i * n)) n = some cells ∧ RelVs φ2 e cells ∧ e.length = n ∧ allLeaf e = true) l m → ∀ {i : Nat} {x}, m[i]? = some x → x.length = n ∧ allLeaf x = true := by
                intro l m hh
                induction hh with
                | nil => intro i x e; simp at e
                | cons hh _ ih =>
                  intro i x e
                  obtain ⟨_, _, _, k3, k4⟩ := hh
                  cases i with
                  | zero => simp at e; subst e; exact ⟨k3, k4⟩
                  | succ i => simp at e; exact ih e
              exact key hall hi
            have hrow : RelRow (φ2.add h2.sz 0 L) h2.sz r W := by
              refine ⟨Nat.le_refl _, hpos, fun x hx => (hmem x hx).1, fun x hx => (hmem x hx).2, ⟨L, Phi.add_same _ _ _ _, hlt.symm⟩, fun g K e => ?_, fun g K _ e => ?_, (fun hh => by cases hh), (fun e he => by cases he)⟩
              · obtain ⟨rfl, rfl⟩ := hkey g K e; exact ⟨Nat.le_refl _, rfl⟩
              · obtain ⟨rfl, rfl⟩ := hkey g K e
                refine ⟨by simp only [L, r]; omega, vals, ?_, fun j v hj => ?_⟩
                · simp only [L, r]
                  rw [List.take_of_length_le (by omega)]
                  exact v1.mono hle
                · have := v2 j v hj
                  simpa using this
            have H3 := RelH.pushRO (L := L) q3 (r := r) rfl hblk (fun ds => by
              obtain ⟨c, t, f, hh⟩ := hcellsB
              show W.heap[a.block]? ≠ _
              rw [hh]; intro e; cases e) hrow
            have hext : Ext h2 (h2.push (.row r)) := by
              refine ⟨by simp, fun id o e => ?_⟩
              rw [AHeap.get_push]
              have : id < h2.sz := by
                rcases Nat.lt_or_ge id h2.sz with h1 | h1
                · exact h1
                · rw [q3.gone id h1] at e; cases e
              rw [if_neg (by omega)]; exact e
            refine ⟨hread, _, _, [.slc h2.sz 0 0 len cap true], ys, Phi.le_trans p1 (Phi.le_trans q1 hle), p2.trans (q2.trans hext), H3, ?_, rfl, rfl, ?_, ?_⟩
            · have hspot : a = ⟨a.block, a.off, none⟩ := by
                obtain ⟨k, hk⟩ : ∃ k, cap = k + 1 := ⟨cap - 1, by omega⟩
                rw [hk, List.range'_succ] at hall
                generalize es ++ es2 = ee at hall
                cases hall with
                | cons hh _ =>
                  obtain ⟨cells, k1, _⟩ := hh
                  obtain ⟨_, hl, hcc⟩ := World.cells?_some k1
                  have h0 := hcc 0 hpos
                  have hv : ∃ v, cells[0]? = some v := ⟨cells[0]'(by omega), by simp⟩
                  obtain ⟨v, hv⟩ := hv
                  rw [hv] at h0
                  have e0 : (a.add (0 * n)).add 0 = a.add 0 := by unfold Addr.add; simp
                  rw [e0] at h0
                  have := addr_add_spot h0
                  unfold Addr.add at this
                  simpa using this
              rw [hspot]
              exact .cons (.slc (L := L) (Phi.add_same _ _ _ _) c2 (by simp [L]) (by simp [L]) (Nat.le_refl _) (fun _ => rfl) (fun _ => by simp [L])) .nil
            · refine .inr ⟨h2.sz, cap, r, by rw [hylen], ?_, rfl, rfl, rfl, rfl, by rw [hylen]; exact c2, hlt.symm, ?_⟩
              · rw [AHeap.row_some, AHeap.get_push, if_pos rfl]
              · show All2 (R _) ((es ++ es2).take ys.length) ys
                rw [hylen, ← hlen, List.take_left]
                exact p5.mono fun x y hxy => hR _ _ _ _ (q2.trans hext) hxy
            · simp only [bulk]
              omega

theorem In.slice {α : Type} {t e : TypeId} {n : Nat} {sz : α → Nat} {R : Rd α} (hu : P.underlying t = some (.slice e)) (hn : P.cellsOf e = n) (hpos : 0 < n) (hR : Mono R) (I : In enc P W held e n sz R) :
    In enc P W held t 1 (fun l => szL sz l + 1) (RSl n R)
  | 0 => InAt.zero
  | fuel + 1 => InAt.slice hu hn hpos hR (I fuel)

/-! ### Structs -/
abbrev InFAt (enc : TypeId × Value → H) (P : Program) (W : World) (held : Bool) {α : Type} (fs : List (Nat × TypeId)) (off tot : Nat) (sz : α → Nat) (R : Rd α) (fuel : Nat) : Prop :=
  ∀ (cs : List Value) (xs : List (DataW H × List MemPlace)), cs.length = tot → fs.mapM (fun f => DataW.trod enc P W 0 (fun _ => true) held fuel f.2 ((cs.drop f.1).take (P.cellsOf f.2))) = some xs → ∀ φ h, RelH P (.of W.heap.size) φ h W →
    (∀ (W' : World) (sp' : Nat → Bool), (∀ k : Nat, k < W.heap.size → W'.heap[k]? = W.heap[k]?) → (∀ p ∈ xs.flatMap (·.2), sp' p.block = true) → fs.mapM (fun f => DataW.trod enc P W' 0 sp' held fuel f.2 ((cs.drop f.1).take (P.cellsOf f.2))) = some xs) ∧
    ∃ φ' h' avs x, φ.le φ' ∧ Ext h h' ∧ RelH P (.of W.heap.size) φ' h' W ∧ RelVs φ' avs (cs.drop off) ∧ allLeaf avs = true ∧ R h' avs x ∧ sz x ≤ bulkAll (xs.map (·.1))
def InF (enc : TypeId × Value → H) (P : Program) (W : World) (held : Bool) {α : Type} (fs : List (Nat × TypeId)) (off tot : Nat) (sz : α → Nat) (R : Rd α) : Prop := ∀ (fuel : Nat), InFAt enc P W held fs off tot sz R fuel

def RNil : Rd Unit := fun _ a _ => a = []
def RCons {α β : Type} (n : Nat) (R : Rd α) (S : Rd β) : Rd (α × β) := fun h a x => ∃ b c, a = b ++ c ∧ b.length = n ∧ R h b x.1 ∧ S h c x.2

theorem InF.nil {tot : Nat} : InF enc P W held [] tot tot (fun _ : Unit => 0) RNil := by
  intro fuel cs xs hl hm φ h HH
  simp at hm; subst hm
  refine ⟨fun _ _ _ _ => by simp, φ, h, [], (), φ.le_refl, Ext.refl h, HH, ?_, rfl, rfl, by simp [bulkAll]⟩
  rw [List.drop_of_length_le (by omega)]; exact .nil

theorem InFAt.cons {α β : Type} {t : TypeId} {off n tot : Nat} {fs : List (Nat × TypeId)} {sz : α → Nat} {sz' : β → Nat} {R : Rd α} {S : Rd β} {fuel : Nat} (hn : P.cellsOf t = n) (hR : Mono R) (I : InAt enc P W held t n sz R fuel) (J : InFAt enc P W held fs (off + n) tot sz' S fuel) :
    InFAt enc P W held ((off, t) :: fs) off tot (fun x : α × β => sz x.1 + sz' x.2) (RCons n R S) fuel := by
  intro cs xs hl hm φ h HH
  obtain ⟨y, m, hy, hm', rfl⟩ := mapM_cons_some hm
  simp only [hn] at hy
  obtain ⟨y1, y2⟩ := y
  obtain ⟨b1, φ1, h1, avs, x, a1, a2, a3, a4, a5, a6, a7, a8⟩ := I _ y1 y2 hy φ h HH
  obtain ⟨b2, φ2, h2, bvs, z, c1, c2, c3, c4, c5, c6, c7⟩ := J cs m hl hm' φ1 h1 a3
  refine ⟨fun W' sp' hW hp => ?_, φ2, h2, avs ++ bvs, (x, z), Phi.le_trans a1 c1, a2.trans c2, c3, ?_, allLeaf_append a6 c5, ⟨avs, bvs, rfl, a5, hR _ _ _ _ c2 a7, c6⟩, by simp [bulkAll]; omega⟩
  · rw [List.mapM_cons]
    simp only [hn]
    rw [b1 W' sp' hW (fun p hpp => hp p (by simp [List.flatMap_cons]; exact .inl hpp))]
    have k2 := b2 W' sp' hW (fun p hpp => hp p (by simp [List.flatMap_cons]; exact .inr (by simpa using hpp)))
    simp [k2]
  · have e : cs.drop off = (cs.drop off).take n ++ cs.drop (off + n) := by
      rw [← List.drop_drop, List.take_append_drop]
    rw [e]
    exact (a4.mono c1).append c4

theorem InF.cons {α β : Type} {t : TypeId} {off n tot : Nat} {fs : List (Nat × TypeId)} {sz : α → Nat} {sz' : β → Nat} {R : Rd α} {S : Rd β} (hn : P.cellsOf t = n) (hR : Mono R) (I : In enc P W held t n sz R) (J : InF enc P W held fs (off + n) tot sz' S) :
    InF enc P W held ((off, t) :: fs) off tot (fun x : α × β => sz x.1 + sz' x.2) (RCons n R S) := fun fuel => InFAt.cons hn hR (I fuel) (J fuel)

theorem mapM_pairs {β : Type} {g : Nat → TypeId → Option β} : ∀ (fs : List Field), fs.mapM (fun f => g f.offset f.type) = (fs.map fun f => (f.offset, f.type)).mapM (fun p => g p.1 p.2)
  | [] => rfl
  | f :: fs => by rw [List.mapM_cons, List.map_cons, List.mapM_cons, mapM_pairs fs]

theorem InAt.struct {α : Type} {t : TypeId} {fs : Array Field} {l : List (Nat × TypeId)} {tot : Nat} {sz : α → Nat} {R : Rd α} {fuel : Nat} (hu : P.underlying t = some (.struct fs)) (hl : (fs.toList.map fun f => (f.offset, f.type)) = l) (hn : P.cellsOf t = tot) (J : InFAt enc P W held l 0 tot sz R fuel) :
    InAt enc P W held t tot (fun x => sz x + 1) R (fuel + 1) := by
  intro cs d ps ht φ h HH
  · skip
    have hstep : ∀ (W' : World) (sp' : Nat → Bool) (held' : Bool), DataW.trod enc P W' 0 sp' held' (fuel + 1) t cs = if cs.length = P.cellsOf t then (fs.toList.mapM fun f => DataW.trod enc P W' 0 sp' held' fuel f.type ((cs.drop f.offset).take (P.cellsOf f.type))).map fun xs => (.agg (xs.map (·.1)), xs.flatMap (·.2)) else none := by
      intro W' sp' held'
      conv => lhs; unfold DataW.trod
      rw [hu]
    rw [hstep] at ht
    split at ht
    rotate_left
    · cases ht
    rename_i hlen
    rw [mapM_pairs (g := fun o ty => DataW.trod enc P W 0 (fun _ => true) held fuel ty ((cs.drop o).take (P.cellsOf ty))), hl] at ht
    cases hm : l.mapM (fun p => DataW.trod enc P W 0 (fun _ => true) held fuel p.2 ((cs.drop p.1).take (P.cellsOf p.2))) with
    | none => rw [hm] at ht; cases ht
    | some xs =>
      rw [hm] at ht
      simp only [Option.map_some, Option.some.injEq, Prod.mk.injEq] at ht
      obtain ⟨rfl, rfl⟩ := ht
      obtain ⟨b1, φ', h', avs, x, a1, a2, a3, a4, a5, a6, a7⟩ := J cs xs (by rw [hlen, hn]) hm φ h HH
      refine ⟨fun W' sp' hW hp => ?_, φ', h', avs, x, a1, a2, a3, by simpa using a4, ?_, a5, a6, by simp only [bulk]; omega⟩
      · rw [hstep, if_pos hlen, mapM_pairs (g := fun o ty => DataW.trod enc P W' 0 sp' held fuel ty ((cs.drop o).take (P.cellsOf ty))), hl, b1 W' sp' hW hp]
        simp
      · have := a4.length
        simp at this
        omega

theorem In.struct {α : Type} {t : TypeId} {fs : Array Field} {l : List (Nat × TypeId)} {tot : Nat} {sz : α → Nat} {R : Rd α} (hu : P.underlying t = some (.struct fs)) (hl : (fs.toList.map fun f => (f.offset, f.type)) = l) (hn : P.cellsOf t = tot) (J : InF enc P W held l 0 tot sz R) :
    In enc P W held t tot (fun x => sz x + 1) R
  | 0 => InAt.zero
  | fuel + 1 => InAt.struct hu hl hn (J fuel)

end
end Go.Ab
