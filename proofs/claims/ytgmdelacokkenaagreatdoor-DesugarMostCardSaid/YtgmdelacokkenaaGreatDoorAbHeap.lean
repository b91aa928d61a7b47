/-
  What a change of the heap does to 'RelH': a new object; an object's own block turned; other blocks.
-/
import Derived.Test.YtgmdelacokkenaaGreatDoorAbRel
namespace Go.Ab
set_option linter.unusedVariables false

/-! ### Rows laid flat -/
theorem fl_len {α : Type} {sz : Nat} : ∀ {es : List (List α)}, (∀ e ∈ es, e.length = sz) → es.flatten.length = es.length * sz
  | [], _ => by simp
  | e :: l, h => by
    have h1 := h e (by simp)
    have h2 := fl_len (es := l) (fun x hx => h x (by simp [hx]))
    simp only [List.flatten_cons, List.length_append, List.length_cons, h1, h2, Nat.add_mul]; omega

theorem fl_drop {α : Type} {sz : Nat} : ∀ {es : List (List α)}, (∀ e ∈ es, e.length = sz) → ∀ n, (es.drop n).flatten = es.flatten.drop (n * sz)
  | es, _, 0 => by simp
  | [], _, n + 1 => by simp
  | e :: l, h, n + 1 => by
    have h1 := h e (by simp)
    have h2 := fl_drop (es := l) (fun x hx => h x (by simp [hx])) n
    simp only [List.drop_succ_cons, List.flatten_cons, h2]
    have : (n + 1) * sz = e.length + n * sz := by rw [Nat.add_mul, h1]; omega
    rw [this, List.drop_length_add_append]

theorem fl_take {α : Type} {sz : Nat} : ∀ {es : List (List α)}, (∀ e ∈ es, e.length = sz) → ∀ n, (es.take n).flatten = es.flatten.take (n * sz)
  | es, _, 0 => by simp
  | [], _, n + 1 => by simp
  | e :: l, h, n + 1 => by
    have h1 := h e (by simp)
    have h2 := fl_take (es := l) (fun x hx => h x (by simp [hx])) n
    simp only [List.take_succ_cons, List.flatten_cons, h2]
    have : (n + 1) * sz = e.length + n * sz := by rw [Nat.add_mul, h1]; omega
    rw [this, List.take_length_add_append]

theorem fl_get {α : Type} {sz : Nat} : ∀ {es : List (List α)}, (∀ e ∈ es, e.length = sz) → ∀ {i o : Nat} {e : List α} {a : α}, es[i]? = some e → e[o]? = some a → es.flatten[i * sz + o]? = some a
  | [], _, _, _, _, _, hi, _ => by simp at hi
  | e :: l, h, 0, o, _, a, hi, ho => by
    simp at hi; subst hi
    have hlt : o < e.length := (List.getElem?_eq_some_iff.1 ho).1
    rw [List.flatten_cons, Nat.zero_mul, Nat.zero_add, List.getElem?_append_left hlt]; exact ho
  | e :: l, h, i + 1, o, e', a, hi, ho => by
    have h1 := h e (by simp)
    have h2 := fl_get (es := l) (fun x hx => h x (by simp [hx])) (i := i) (o := o) (e := e') (a := a) (by simpa using hi) ho
    have : (i + 1) * sz + o = e.length + (i * sz + o) := by rw [Nat.add_mul, h1]; omega
    rw [List.flatten_cons, this, List.getElem?_append_right (by omega)]
    simpa using h2

theorem lay_length {α : Type} (l : List α) (n : Nat) (new : List α) (h : n + new.length ≤ l.length) : (lay l n new).length = l.length := by
  unfold lay
  simp only [List.length_append, List.length_take, List.length_drop]
  omega

theorem fl_lay {α : Type} {sz : Nat} {es new : List (List α)} (h : ∀ e ∈ es, e.length = sz) (hn : ∀ e ∈ new, e.length = sz) (n : Nat) :
    (lay es n new).flatten = lay es.flatten (n * sz) new.flatten := by
  unfold lay
  rw [List.flatten_append, List.flatten_append, fl_take h, fl_drop h, fl_len hn, Nat.add_mul]

theorem set_eq_lay {α : Type} (l : List α) (i : Nat) (x : α) (h : i < l.length) : l.set i x = lay l i [x] := by
  unfold lay
  rw [List.set_eq_take_append_cons_drop, if_pos h]
  simp

theorem fl_set {α : Type} {sz : Nat} {es : List (List α)} (h : ∀ e ∈ es, e.length = sz) {i o : Nat} {e : List α} (hi : es[i]? = some e) {new : List α} (hn : o + new.length ≤ e.length) :
    (es.set i (lay e o new)).flatten = lay es.flatten (i * sz + o) new := by
  obtain ⟨hlt, he⟩ := List.getElem?_eq_some_iff.1 hi
  have hel : e.length = sz := h e (by rw [← he]; exact List.getElem_mem hlt)
  have h1 : ∀ x ∈ [lay e o new], x.length = sz := by
    intro x hx
    simp at hx
    subst hx
    rw [lay_length _ _ _ hn, hel]
  rw [set_eq_lay _ _ _ hlt, fl_lay h h1]
  have hes : es.flatten = (es.take i).flatten ++ (e ++ (es.drop (i + 1)).flatten) := by
    conv => lhs; rw [← List.take_append_drop i es]
    rw [List.flatten_append, List.drop_eq_getElem_cons hlt, he, List.flatten_cons]
  have hl1 : (es.take i).flatten.length = i * sz := by
    rw [fl_len (sz := sz) (fun x hx => h x (List.mem_of_mem_take hx)), List.length_take]
    congr 1; omega
  simp only [List.flatten_cons, List.flatten_nil, List.append_nil]
  unfold lay
  rw [hes]
  simp only [List.length_append, List.length_take, List.length_drop]
  have e1 : List.take (i * sz) ((es.take i).flatten ++ (e ++ (es.drop (i + 1)).flatten)) = (es.take i).flatten := by
    rw [← hl1]; exact List.take_left
  have e2 : List.take (i * sz + o) ((es.take i).flatten ++ (e ++ (es.drop (i + 1)).flatten)) = (es.take i).flatten ++ e.take o := by
    rw [← hl1, List.take_length_add_append, List.take_append_of_le_length (by omega)]
  have e3 : List.drop (i * sz + (min o e.length + new.length + (e.length - (o + new.length)))) ((es.take i).flatten ++ (e ++ (es.drop (i + 1)).flatten)) = (es.drop (i + 1)).flatten := by
    rw [show i * sz + (min o e.length + new.length + (e.length - (o + new.length))) = (es.take i).flatten.length + (e.length + 0) by omega, List.drop_length_add_append, List.drop_length_add_append]
    rfl
  have e4 : List.drop (i * sz + o + new.length) ((es.take i).flatten ++ (e ++ (es.drop (i + 1)).flatten)) = e.drop (o + new.length) ++ (es.drop (i + 1)).flatten := by
    rw [show i * sz + o + new.length = (es.take i).flatten.length + (o + new.length) by omega, List.drop_length_add_append, List.drop_append_of_le_length (by omega)]
  rw [e1, e2, e3, e4]
  simp

/-! ### The relation under changes -/
theorem cell_of_heap {w w' : World} {a : Addr} (h : w'.heap[a.block]? = w.heap[a.block]?) : w'.cell? a = w.cell? a := by simp [World.cell?, h]

theorem RelO.other {P : Program} {φ φ' : Phi} {id : Nat} {o : AObj} {w w' : World} (h : RelO P φ id o w) (hle : φ.le φ') (he : ∀ g, φ' id g = φ id g)
    (hb : ∀ g L, φ id g = some L → w'.heap[L.blk]? = w.heap[L.blk]?) : RelO P φ' id o w' := by
  cases o with
  | row r =>
    obtain ⟨L, h1, h2⟩ := h.cur
    refine ⟨h.mg, h.sz, h.es, h.leaf, ⟨L, by rw [he]; exact h1, h2⟩, fun g L hL => h.gen g L (by rw [← he]; exact hL), fun g L hm hL => ?_, fun hr g L hm hL => ?_, fun t ht hr g L hm hL => ?_⟩
    · rw [he] at hL
      obtain ⟨a, vals, b, c⟩ := h.cells g L hm hL
      exact ⟨a, vals, b.mono hle, fun j v hj => (cell_of_heap (hb g L hL)).trans (c j v hj)⟩
    · rw [he] at hL
      rw [hb g L hL]
      exact h.own hr g L hm hL
    · rw [he] at hL
      rw [hb g L hL]
      exact h.ty t ht hr g L hm hL
  | gone => trivial
  | dead => trivial
  | gvar b =>
    obtain ⟨L, te, pe, h1, h2, h3⟩ := h
    refine ⟨L, te, pe, hle _ _ _ h1, h2, ?_⟩
    subst h2
    exact (cell_of_heap (a := ⟨L.blk, 0, none⟩) (hb _ _ h1)).trans h3
  | rmap es c =>
    obtain ⟨L, cs, h1, h2, h3⟩ := h
    exact ⟨L, cs, hle _ _ _ h1, (hb _ _ h1).trans h2, h3.mono hle⟩
  | map es c =>
    obtain ⟨L, cs, h1, h2, h3⟩ := h
    exact ⟨L, cs, hle _ _ _ h1, (hb _ _ h1).trans h2, h3.mono hle⟩
  | iter m s l p =>
    obtain ⟨L, h1, cm, h2, h3⟩ := h
    refine ⟨L, hle _ _ _ h1, cm, (hb _ _ h1).trans h2, ?_⟩
    cases m with
    | none => exact h3
    | some k => obtain ⟨L', a, b⟩ := h3; exact ⟨L', hle _ _ _ a, b⟩
  | loop l =>
    obtain ⟨L, r, N, h1, h2, h3, h4⟩ := h
    exact ⟨L, r, N, hle _ _ _ h1, (hb _ _ h1).trans h2, h3.mono hle, h4⟩

theorem RelH.keep {P : Program} {B : Base} {φ : Phi} {h : AHeap} {w w' : World} (H : RelH P B φ h w) (hsz : w.heap.size ≤ w'.heap.size)
    (hk : ∀ id g L, φ id g = some L → w'.heap[L.blk]? = w.heap[L.blk]?) : RelH P B φ h w' :=
  ⟨Nat.le_trans H.base hsz, H.dom, H.gone, fun id o ho hd => (H.objn id o ho hd).other φ.le_refl (fun _ => rfl) (hk id), fun id g L hl => Nat.lt_of_lt_of_le (H.lt id g L hl) hsz, H.own, H.disj, fun id g L hl => by rw [hk id g L hl]; exact H.nodef id g L hl, H.ghost⟩

theorem RelH.alloc {P : Program} {B : Base} {φ : Phi} {h : AHeap} {w : World} (H : RelH P B φ h w) (ob : Obj) : RelH P B φ h (w.alloc ob) :=
  H.keep (by simp) fun id g L hL => heap_alloc_old w ob (H.lt id g L hL)

def Phi.add (φ : Phi) (id g : Nat) (L : Loc) : Phi := fun a b => if a = id ∧ b = g then some L else φ a b

theorem Phi.add_same (φ : Phi) (id g : Nat) (L : Loc) : φ.add id g L id g = some L := by simp [Phi.add]
theorem Phi.add_other (φ : Phi) {id g : Nat} (L : Loc) {a b : Nat} (h : ¬ (a = id ∧ b = g)) : φ.add id g L a b = φ a b := by simp [Phi.add, h]
theorem Phi.le_add {φ : Phi} {id g : Nat} (L : Loc) (h : φ id g = none) : φ.le (φ.add id g L) := fun a b K e => by
  rw [Phi.add_other]
  · exact e
  · rintro ⟨rfl, rfl⟩; rw [h] at e; cases e

theorem RelH.fresh {P : Program} {B : Base} {φ : Phi} {h : AHeap} {w : World} (H : RelH P B φ h w) (g : Nat) : φ h.sz g = none := by
  cases e : φ h.sz g with
  | none => rfl
  | some L => exact absurd (H.dom _ _ _ e) (Nat.lt_irrefl _)

theorem push_inj {h : AHeap} {o o' : AObj} (e : h.push o = h.push o') : o = o' := by
  have : (h.push o).get h.sz = (h.push o').get h.sz := by rw [e]
  rw [AHeap.get_push, AHeap.get_push, if_pos rfl, if_pos rfl] at this
  exact Option.some.inj this

/-- An object more that has no block yet; that has one now. -/
def Base.add (B : Base) (id : Nat) (o : AObj) : Base := ⟨B.n, fun a => if a = id then some o else B.gh a⟩
def Base.del (B : Base) (id : Nat) : Base := ⟨B.n, fun a => if a = id then none else B.gh a⟩
@[simp] theorem Base.add_n (B : Base) (id : Nat) (o : AObj) : (B.add id o).n = B.n := rfl
@[simp] theorem Base.del_n (B : Base) (id : Nat) : (B.del id).n = B.n := rfl
theorem Base.add_same (B : Base) (id : Nat) (o : AObj) : (B.add id o).gh id = some o := by simp [Base.add]
theorem Base.add_other (B : Base) {id a : Nat} (o : AObj) (h : a ≠ id) : (B.add id o).gh a = B.gh a := by simp [Base.add, h]
theorem Base.del_same (B : Base) (id : Nat) : (B.del id).gh id = none := by simp [Base.del]
theorem Base.del_other (B : Base) {id a : Nat} (h : a ≠ id) : (B.del id).gh a = B.gh a := by simp [Base.del, h]
theorem Base.del_add {B : Base} {id : Nat} {o : AObj} (h : B.gh id = none) : (B.add id o).del id = B := by
  cases B with
  | mk n gh =>
    simp only [Base.add, Base.del, Base.mk.injEq, true_and]
    funext a
    by_cases e : a = id
    · subst e; simpa using h.symm
    · simp [e]

theorem RelH.noGhost {P : Program} {B : Base} {φ : Phi} {h : AHeap} {w : World} (H : RelH P B φ h w) : B.gh h.sz = none := by
  cases e : B.gh h.sz with
  | none => rfl
  | some o => exact absurd (H.ghost _ _ e).2.1 (Nat.lt_irrefl _)

/-- A new object, its block to come. -/
theorem RelH.pushGhost {P : Program} {B : Base} {φ : Phi} {h : AHeap} {w : World} (H : RelH P B φ h w) (o : AObj) (hown : o.own = true) : RelH P (B.add h.sz o) φ (h.push o) w := by
  have hget : ∀ id o', (h.push o).get id = some o' → (id = h.sz ∧ o' = o) ∨ (id < h.sz ∧ h.get id = some o') := by
    intro id o' e
    rw [AHeap.get_push] at e
    by_cases hi : id = h.sz
    · rw [if_pos hi] at e; cases e; exact .inl ⟨hi, rfl⟩
    · rw [if_neg hi] at e
      refine .inr ⟨?_, e⟩
      rcases Nat.lt_or_ge id h.sz with h1 | h1
      · exact h1
      · rw [H.gone id h1] at e; cases e
  refine ⟨H.base, fun id g K e => Nat.lt_succ_of_lt (H.dom id g K e), fun id hid => ?_, fun id o' e hd => ?_, H.lt, fun id o' g K e e' => ?_, fun id o' id' g g' K K' e hown' e1 e2 hblk => ?_, H.nodef, fun id o' e => ?_⟩
  · simp at hid
    rw [AHeap.get_push, if_neg (by omega)]
    exact H.gone id (by omega)
  · rcases hget _ _ e with ⟨rfl, rfl⟩ | ⟨h1, h2⟩
    · rw [Base.add_same] at hd; cases hd
    · rw [Base.add_other _ _ (by omega)] at hd
      exact H.objn id o' h2 hd
  · rcases hget _ _ e with ⟨rfl, rfl⟩ | ⟨h1, h2⟩
    · have := H.dom _ _ _ e'; omega
    · exact H.own id o' g K h2 e'
  · rcases hget _ _ e with ⟨rfl, rfl⟩ | ⟨h1, h2⟩
    · have := H.dom _ _ _ e1; omega
    · exact H.disj id o' id' g g' K K' h2 hown' e1 e2 hblk
  · by_cases hi : id = h.sz
    · subst hi
      rw [Base.add_same] at e; cases e
      exact ⟨fun u hu => by rw [AHeap.get_push, if_pos rfl] at hu; cases hu; rfl, Nat.lt_succ_self _, fun g => H.fresh g, hown⟩
    · rw [Base.add_other _ _ hi] at e
      obtain ⟨h1, h2, h3⟩ := H.ghost id o' e
      exact ⟨fun u hu => by rw [AHeap.get_push, if_neg hi] at hu; exact h1 u hu, Nat.lt_succ_of_lt h2, h3⟩

/-- The block of an object that had none. -/
theorem RelH.fill {P : Program} {B : Base} {φ : Phi} {h : AHeap} {w : World} {id : Nat} {o : AObj} (H : RelH P B φ h w) (hg : B.gh id = some o) (hown : o.own = true) {L : Loc} {ob : Obj} (hL : L.blk = w.heap.size) (hob : ∀ ds, ob ≠ .deferred ds)
    (ho : RelO P (φ.add id 0 L) id o (w.alloc ob)) : RelH P (B.del id) (φ.add id 0 L) h (w.alloc ob) := by
  obtain ⟨hget, hid, hnone, _⟩ := H.ghost id o hg
  have hle : φ.le (φ.add id 0 L) := Phi.le_add L (hnone 0)
  have hphi : ∀ a g K, φ.add id 0 L a g = some K → (a = id ∧ g = 0 ∧ K = L) ∨ (a ≠ id ∧ φ a g = some K) := by
    intro a g K e
    by_cases hi : a = id ∧ g = 0
    · obtain ⟨rfl, rfl⟩ := hi
      rw [Phi.add_same] at e; cases e; exact .inl ⟨rfl, rfl, rfl⟩
    · rw [Phi.add_other _ _ hi] at e
      refine .inr ⟨fun ha => ?_, e⟩
      subst ha
      rw [hnone g] at e; cases e
  refine ⟨Nat.le_trans H.base (by simp), ?_, H.gone, ?_, ?_, ?_, ?_, ?_, ?_⟩
  · intro a g K e
    rcases hphi _ _ _ e with ⟨rfl, _, _⟩ | ⟨_, h1⟩
    · exact hid
    · exact H.dom _ _ _ h1
  · intro a o' e hd
    by_cases ha : a = id
    · subst ha
      cases hget o' e
      exact ho
    · rw [Base.del_other _ ha] at hd
      exact (H.objn a o' e hd).other hle (fun g => Phi.add_other _ _ (by omega)) (fun g K hK => heap_alloc_old w ob (H.lt a g K hK))
  · intro a g K e
    rcases hphi _ _ _ e with ⟨_, _, rfl⟩ | ⟨_, h2⟩
    · rw [hL]; simp
    · have := H.lt a g K h2; simp; omega
  · intro a o' g K e e'
    rcases hphi _ _ _ e' with ⟨rfl, _, rfl⟩ | ⟨_, h3⟩
    · cases hget o' e
      exact ⟨fun _ => by rw [hL]; exact H.base, fun hf => by rw [hown] at hf; cases hf⟩
    · exact H.own a o' g K e h3
  · intro a o' a' g g' K K' e hown' e1 e2 hblk
    rcases hphi _ _ _ e1 with ⟨rfl, _, rfl⟩ | ⟨h1, h1'⟩
    · rcases hphi _ _ _ e2 with ⟨rfl, _, _⟩ | ⟨_, h2'⟩
      · rfl
      · have := H.lt _ _ _ h2'; omega
    · rcases hphi _ _ _ e2 with ⟨rfl, _, rfl⟩ | ⟨h2, h2'⟩
      · have := H.lt _ _ _ h1'; omega
      · exact H.disj a o' a' g g' K K' e hown' h1' h2' hblk
  · intro a g K e ds hd
    rcases hphi _ _ _ e with ⟨_, _, rfl⟩ | ⟨_, h2⟩
    · rw [hL, heap_alloc_new] at hd
      exact hob ds (Option.some.inj hd)
    · rw [heap_alloc_old w ob (H.lt a g K h2)] at hd
      exact H.nodef a g K h2 ds hd
  · intro a o' e
    by_cases ha : a = id
    · subst ha; rw [Base.del_same] at e; cases e
    · rw [Base.del_other _ ha] at e
      obtain ⟨h1, h2, h3, h4⟩ := H.ghost a o' e
      exact ⟨h1, h2, fun g => by rw [Phi.add_other _ _ (by omega)]; exact h3 g, h4⟩

/-- A new object, in a new block. -/
theorem RelH.push {P : Program} {B : Base} {φ : Phi} {h : AHeap} {w : World} (H : RelH P B φ h w) {o : AObj} (hown : o.own = true) {L : Loc} {ob : Obj} (hL : L.blk = w.heap.size) (hob : ∀ ds, ob ≠ .deferred ds)
    (ho : RelO P (φ.add h.sz 0 L) h.sz o (w.alloc ob)) : RelH P B (φ.add h.sz 0 L) (h.push o) (w.alloc ob) := by
  have := (H.pushGhost o hown).fill (Base.add_same _ _ _) hown hL hob ho
  rwa [Base.del_add H.noGhost] at this

/-- No block for deferred calls comes in. -/
def NoDef (w w' : World) : Prop := ∀ (k : Nat) (ds : Option (List Deferred)), w'.heap[k]? = some (Obj.deferred ds) → w.heap[k]? = some (Obj.deferred ds)

theorem NoDef.put (w : World) {b : Nat} {o : Obj} (ho : ∀ ds, o ≠ .deferred ds) : NoDef w (w.putObj b o) := by
  intro k ds hk
  by_cases e : k = b
  · subst e
    have hlt : k < w.heap.size := by
      have := (Array.getElem?_eq_some_iff.1 hk).1
      simpa using this
    rw [World.putObj_heap_same hlt] at hk
    exact absurd (Option.some.inj hk) (ho ds)
  · rwa [World.putObj_heap_other e] at hk

theorem NoDef.alloc (w : World) {o : Obj} (ho : ∀ ds, o ≠ .deferred ds) : NoDef w (w.alloc o) := by
  intro k ds hk
  by_cases e : k = w.heap.size
  · subst e
    rw [heap_alloc_new] at hk
    exact absurd (Option.some.inj hk) (ho ds)
  · have hlt : k < w.heap.size := by
      have := (Array.getElem?_eq_some_iff.1 hk).1
      simp at this; omega
    rwa [heap_alloc_old w o hlt] at hk

theorem NoDef.of_block {w w' : World} {g : Nat} {y : Obj} (hy : w'.heap[g]? = some y) (ho : ∀ ds, y ≠ .deferred ds) (hk : ∀ k : Nat, k ≠ g → w'.heap[k]? = w.heap[k]?) : NoDef w w' := by
  intro k ds h
  by_cases e : k = g
  · subst e; rw [hy] at h; exact absurd (Option.some.inj h) (ho ds)
  · rwa [hk k e] at h

/-- An object's own blocks turned (and, of a row, one generation more). -/
theorem RelH.update {P : Program} {B : Base} {φ φ' : Phi} {h : AHeap} {w w' : World} (H : RelH P B φ h w) {id : Nat} {o o' : AObj} (ho : h.get id = some o) (hown : o.own = true) (hown' : o'.own = true)
    (hle : φ.le φ') (hφ : ∀ a g, a ≠ id → φ' a g = φ a g)
    (hnew : ∀ g L, φ' id g = some L → φ id g = some L ∨ (L.blk = w.heap.size ∧ L.blk < w'.heap.size) ∨ ∃ g0 L0, φ id g0 = some L0 ∧ L0.blk = L.blk)
    (hsz : w.heap.size ≤ w'.heap.size) (hkeep : ∀ k, k < w.heap.size → (∀ g L, φ id g = some L → L.blk ≠ k) → w'.heap[k]? = w.heap[k]?)
    (hkind : NoDef w w') (hobj : RelO P φ' id o' w') (hdm : ∃ g L, φ id g = some L := by exact ⟨_, _, by assumption⟩) : RelH P B φ' (h.put id o') w' := by
  have hng : B.gh id = none := (let ⟨_, _, hd⟩ := hdm; H.real hd)
  have hid : id < h.sz := by
    rcases Nat.lt_or_ge id h.sz with h1 | h1
    · exact h1
    · rw [H.gone id h1] at ho; cases ho
  have hget : ∀ a x, (h.put id o').get a = some x → (a = id ∧ x = o') ∨ (a ≠ id ∧ h.get a = some x) := by
    intro a x e
    rw [AHeap.get_put] at e
    by_cases ha : a = id
    · rw [if_pos ha] at e; cases e; exact .inl ⟨ha, rfl⟩
    · rw [if_neg ha] at e; exact .inr ⟨ha, e⟩
  -- the block of a location of id: old of id, or new
  have hloc : ∀ g L, φ' id g = some L → (∃ g0 L0, φ id g0 = some L0 ∧ L0.blk = L.blk) ∨ (L.blk = w.heap.size ∧ L.blk < w'.heap.size) := by
    intro g L e
    rcases hnew g L e with h1 | h1 | h1
    · exact .inl ⟨g, L, h1, rfl⟩
    · exact .inr h1
    · exact .inl h1
  refine ⟨Nat.le_trans H.base hsz, ?_, ?_, ?_, ?_, ?_, ?_, ?_, ?_⟩
  · intro a g L e
    by_cases ha : a = id
    · subst ha; simpa using hid
    · rw [hφ a g ha] at e; simpa using H.dom a g L e
  · intro a ha
    simp at ha
    rw [AHeap.get_put, if_neg (by omega)]
    exact H.gone a ha
  · intro a x e hd
    rcases hget a x e with ⟨rfl, rfl⟩ | ⟨h1, h2⟩
    · exact hobj
    · refine (H.objn a x h2 hd).other hle (fun g => hφ a g h1) (fun g L hL => hkeep L.blk (H.lt a g L hL) fun g0 L0 h0 heq => ?_)
      exact h1 (H.disj id o a g0 g L0 L ho hown h0 hL heq).symm
  · intro a g L e
    by_cases ha : a = id
    · subst ha
      rcases hloc g L e with ⟨g0, L0, h0, hb⟩ | h1
      · have := H.lt _ _ _ h0; omega
      · exact h1.2
    · rw [hφ a g ha] at e; exact Nat.lt_of_lt_of_le (H.lt a g L e) hsz
  · intro a x g L e e'
    rcases hget a x e with ⟨rfl, rfl⟩ | ⟨h1, h2⟩
    · refine ⟨fun _ => ?_, fun hf => by rw [hown'] at hf; cases hf⟩
      rcases hloc g L e' with ⟨g0, L0, h0, hb⟩ | h1
      · rw [← hb]; exact (H.own a o g0 L0 ho h0).1 hown
      · rw [h1.1]; exact H.base
    · rw [hφ a g h1] at e'; exact H.own a x g L h2 e'
  · intro a x a' g g' L L' e hx e1 e2 hblk
    rcases hget a x e with ⟨rfl, rfl⟩ | ⟨h1, h2⟩
    · by_cases ha' : a' = a
      · exact ha'.symm
      · rw [hφ a' g' ha'] at e2
        rcases hloc g L e1 with ⟨g0, L0, h0, hb⟩ | h1
        · exact H.disj a o a' g0 g' L0 L' ho hown h0 e2 (hb.trans hblk)
        · have := H.lt _ _ _ e2; omega
    · rw [hφ a g h1] at e1
      by_cases ha' : a' = id
      · subst ha'
        rcases hloc g' L' e2 with ⟨g0, L0, h0, hb⟩ | h3
        · exact H.disj a x a' g g0 L L0 h2 hx e1 h0 (hblk.trans hb.symm)
        · have := H.lt _ _ _ e1; omega
      · rw [hφ a' g' ha'] at e2
        exact H.disj a x a' g g' L L' h2 hx e1 e2 hblk
  · intro a g L e ds hd
    have hd := hkind _ _ hd
    by_cases ha : a = id
    · subst ha
      rcases hloc g L e with ⟨g0, L0, h0, hb⟩ | h1
      · exact H.nodef a g0 L0 h0 ds (by rw [hb]; exact hd)
      · have := (Array.getElem?_eq_some_iff.1 hd).1; omega
    · rw [hφ a g ha] at e
      exact H.nodef a g L e ds hd
  · intro a x e
    obtain ⟨h1, h2, h3, h4⟩ := H.ghost a x e
    have ha : a ≠ id := by
      rintro rfl
      rw [hng] at e; cases e
    exact ⟨fun u hu => by rw [AHeap.get_put, if_neg ha] at hu; exact h1 u hu, h2, fun g => by rw [hφ a g ha]; exact h3 g, h4⟩

theorem Gw.alloc {B : Nat} {w : World} (hB : B ≤ w.heap.size) {ob : Obj} (hf : ∀ c t fr, ob = .cells c t fr → fr = (0, 0)) : Gw B w (w.alloc ob) := by
  refine ⟨rfl, rfl, rfl, by simp, fun k hk => heap_alloc_old w ob (by omega), fun k ds hk => ?_, fun k r hk => ⟨r, ?_⟩⟩
  · have hlt : k < w.heap.size := (Array.getElem?_eq_some_iff.1 hk).1
    exact (heap_alloc_old w ob hlt).trans hk
  · have hlt : k < w.heap.size := (Array.getElem?_eq_some_iff.1 hk).1
    exact (heap_alloc_old w ob hlt).trans hk

theorem Gw.of_block {B : Nat} {w w' : World} {g : Nat} {x y : Obj} (hg : w.heap[g]? = some x) (hB : B ≤ g) (hnd : ∀ ds, x ≠ .deferred ds) (hlp : ∀ r, x = .loop r → ∃ r', y = .loop r') (hy : w'.heap[g]? = some y)
    (hfx : ∀ c t fr, x = .cells c t fr → fr = (0, 0)) (hfy : ∀ c t fr, y = .cells c t fr → fr = (0, 0))
    (ho : ∀ k : Nat, k ≠ g → w'.heap[k]? = w.heap[k]?) (hs : w'.heap.size = w.heap.size) (h1 : w'.os = w.os) (h2 : w'.tape = w.tape) (h3 : w'.output = w.output) (h4 : w.drawn ≤ w'.drawn := by exact Nat.le_refl _) : Gw B w w' := by
  refine ⟨h1, h2, h3, by omega, fun k hk => ho k (by omega), fun k ds hk => ?_, fun k r hk => ?_⟩
  · by_cases e : k = g
    · subst e; rw [hg] at hk; cases hk; exact absurd rfl (hnd ds)
    · exact (ho k e).trans hk
  · by_cases e : k = g
    · subst e; rw [hg] at hk; cases hk
      obtain ⟨r', hr'⟩ := hlp r rfl
      exact ⟨r', by rw [hy, hr']⟩
    · exact ⟨r, (ho k e).trans hk⟩

end Go.Ab
