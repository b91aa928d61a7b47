/-
  Maps as lists of keys and values, in the order in which the keys came; their iterators; what is kept.
-/
import Derived.Test.YtbamgdknkhhikaaAbStep
namespace Go.Ab
set_option linter.unusedSimpArgs false
set_option linter.unusedVariables false

/-- All but what lies at X is as it was. -/
structure Fr (X : Nat → Prop) (h h' : AHeap) : Prop where
  sz : h.sz ≤ h'.sz
  keep : ∀ j o, ¬ X j → h.get j = some o → h'.get j = some o

section
variable {X Y : Nat → Prop} {h h' h'' h0 : AHeap}
theorem Fr.refl (X : Nat → Prop) (h : AHeap) : Fr X h h := ⟨Nat.le_refl _, fun _ _ _ e => e⟩
theorem Fr.trans (p : Fr X h h') (q : Fr X h' h'') : Fr X h h'' := ⟨Nat.le_trans p.sz q.sz, fun j o e g => q.keep j o e (p.keep j o e g)⟩
theorem Fr.mono (p : Fr X h h') (i : ∀ j, X j → Y j) : Fr Y h h' := ⟨p.sz, fun j o e g => p.keep j o (fun x => e (i j x)) g⟩
theorem Fr.of_ext (e : Ext h h') : Fr X h h' := ⟨e.1, fun j o _ g => e.2 j o g⟩
theorem Fr.put {id : Nat} (hx : X id) (h : AHeap) (o : AObj) : Fr X h (h.put id o) := ⟨by simp, fun j o' e g => by rw [AHeap.get_put, if_neg (fun e' => e (by rw [e']; exact hx))]; exact g⟩
theorem Fr.of_but {id : Nat} (hx : X id) (b : But id h h') : Fr X h h' := ⟨b.sz, fun j o e g => b.keep j o (fun e' => e (by rw [e']; exact hx)) g⟩
theorem Fr.ext (p : Fr X h h') (e : Ext h0 h) (k0 : h0.Ok) (hx : ∀ j, X j → h0.sz ≤ j) : Ext h0 h' :=
  ⟨Nat.le_trans e.1 p.sz, fun j o hj => p.keep j o (fun x => by have := k0.lt hj; have := hx j x; omega) (e.2 j o hj)⟩
/-- New things may be written, too. -/
theorem Fr.new (p : Fr X h h') (q : Fr (fun j => X j ∨ h.sz ≤ j) h' h'') (k : h.Ok) : Fr X h h'' :=
  ⟨Nat.le_trans p.sz q.sz, fun j o e g => q.keep j o (fun x => by rcases x with x | x; exact e x; have := k.lt g; omega) (p.keep j o e g)⟩
theorem Fr.row {j : Nat} {r : Row} (p : Fr X h h') (e : ¬ X j) (g : h.row j = some r) : h'.row j = some r := by
  rw [AHeap.row_some] at *; exact p.keep j _ e g
theorem Fr.var {j : Nat} {c : List AV} (p : Fr X h h') (V : Var h j c) (e : ¬ X j) : Var h' j c := p.row e V
theorem Fr.view {n : Nat} {v : AV} {es : List (List AV)} (p : Fr X h h') (V : View h n v es) (e : ∀ id g s l c ex, v = .slc id g s l c ex → ¬ X id) : View h' n v es := by
  rcases V with h1 | ⟨id, g, s, cap, ex, r, rfl, h2, h3⟩
  · exact .inl h1
  · exact .inr ⟨id, g, s, cap, ex, r, rfl, p.row (e _ _ _ _ _ _ rfl) h2, h3⟩
end

/-! ### Maps -/
section
variable {κ : Type}

def lk [DecidableEq κ] : List (κ × AV) → κ → Option AV
  | [], _ => none
  | p :: t, k => if k = p.1 then some p.2 else lk t k
def up [DecidableEq κ] : List (κ × AV) → κ → AV → List (κ × AV)
  | [], k, v => [(k, v)]
  | p :: t, k, v => if k = p.1 then (k, v) :: t else p :: up t k v
def dl [DecidableEq κ] : List (κ × AV) → κ → List (κ × AV)
  | [], _ => []
  | p :: t, k => if k = p.1 then t else p :: dl t k

/-- Keys, as the machine has them. -/
structure Keys [DecidableEq κ] (kk : KK) (ek : κ → AV) : Prop where
  fits : ∀ k, fitsKK kk (ek k) = true
  eq : ∀ a b, keyEq (ek a) (ek b) = some (decide (a = b))

def strKey : Str → AV := .str
def intKey : Int → AV := .int .i64
theorem strKeys : Keys (.leaf .str) strKey := ⟨fun _ => rfl, keyEq_str⟩
theorem intKeys : Keys (.leaf .int) intKey := ⟨fun _ => rfl, fun a b => by simp only [intKey, keyEq, leafEq, Nat.beq_refl, cond_true, ieqb_dec]⟩

inductive Ents (ek : κ → AV) : List (AV × AV × Nat) → List (κ × AV) → Prop
  | nil : Ents ek [] []
  | cons {k : κ} {v : AV} {b : Nat} {es : List (AV × AV × Nat)} {l : List (κ × AV)} (t : Ents ek es l) : Ents ek ((ek k, v, b) :: es) ((k, v) :: l)

structure KMapE (ek : κ → AV) (h : AHeap) (id : Nat) (es : List (AV × AV × Nat)) (c : Nat) (l : List (κ × AV)) : Prop where
  get : h.get id = some (.map es c)
  ents : Ents ek es l
  born : ∀ e ∈ es, e.2.2 < c
  nd : (es.map fun e => e.2.2).Nodup
  keys : (l.map fun p => p.1).Nodup

def KMap (ek : κ → AV) (h : AHeap) (id : Nat) (l : List (κ × AV)) : Prop := ∃ es c, KMapE ek h id es c l

variable {kk : KK} {ek : κ → AV} {h h' : AHeap} {id : Nat} {l : List (κ × AV)}

theorem lk_none [DecidableEq κ] {l : List (κ × AV)} {k : κ} : lk l k = none ↔ k ∉ l.map fun p => p.1 := by
  induction l with
  | nil => simp [lk]
  | cons p t ih =>
    simp only [lk, List.map_cons, List.mem_cons, not_or]
    by_cases e : k = p.1
    · simp [e]
    · simp [e, ih]
theorem lk_some [DecidableEq κ] {l : List (κ × AV)} {k : κ} {v : AV} (hn : (l.map fun p => p.1).Nodup) : lk l k = some v ↔ (k, v) ∈ l := by
  induction l with
  | nil => simp [lk]
  | cons p t ih =>
    obtain ⟨a, b⟩ := p
    simp only [List.map_cons, List.nodup_cons] at hn
    simp only [lk, List.mem_cons, Prod.mk.injEq]
    by_cases e : k = a
    · subst e
      simp only [if_true, Option.some.injEq]
      constructor
      · intro e; subst e; exact .inl ⟨by simp, rfl⟩
      · rintro (⟨_, e⟩ | hm)
        · exact e.symm
        · exact absurd (List.mem_map.2 ⟨_, hm, rfl⟩) hn.1
    · rw [if_neg e, ih hn.2]
      constructor
      · exact .inr
      · rintro (⟨e', _⟩ | hm)
        · exact absurd e' e
        · exact hm

theorem up_keys [DecidableEq κ] {k : κ} {v : AV} : ∀ {l : List (κ × AV)}, (l.map fun p => p.1).Nodup → ((up l k v).map fun p => p.1).Nodup ∧ ∀ x, x ∈ (up l k v).map (fun p => p.1) → x = k ∨ x ∈ l.map fun p => p.1
  | [], _ => by simp [up]
  | p :: t, hn => by
    simp only [List.map_cons, List.nodup_cons] at hn
    obtain ⟨i1, i2⟩ := up_keys (k := k) (v := v) hn.2
    simp only [up]
    by_cases e : k = p.1
    · rw [if_pos e]
      subst e
      exact ⟨by simp only [List.map_cons, List.nodup_cons]; exact hn, fun x hx => .inr (by simpa using hx)⟩
    · rw [if_neg e]
      refine ⟨?_, fun x hx => ?_⟩
      · simp only [List.map_cons, List.nodup_cons]
        refine ⟨fun hm => ?_, i1⟩
        rcases i2 _ hm with e' | hm
        · exact e e'.symm
        · exact hn.1 hm
      · simp only [List.map_cons, List.mem_cons] at hx ⊢
        rcases hx with hx | hx
        · exact .inr (.inl hx)
        · rcases i2 x hx with hx | hx
          · exact .inl hx
          · exact .inr (.inr hx)
theorem dl_sub [DecidableEq κ] {k : κ} : ∀ {l : List (κ × AV)}, (dl l k).Sublist l
  | [] => .slnil
  | p :: t => by
    simp only [dl]
    by_cases e : k = p.1
    · rw [if_pos e]; exact List.sublist_cons_self _ _
    · rw [if_neg e]; exact dl_sub.cons_cons _

theorem Ents.find [DecidableEq κ] (K : Keys kk ek) (k : κ) {es : List (AV × AV × Nat)} {l : List (κ × AV)} (E : Ents ek es l) : findE (ek k) es = some (lk l k) := by
  induction E with
  | nil => rfl
  | cons t ih =>
    rename_i k' v b es l
    simp only [findE, K.eq, lk]
    by_cases e : k = k'
    · rw [decide_eq_true e, if_pos e]
    · rw [decide_eq_false e, if_neg e]; exact ih
theorem Ents.set [DecidableEq κ] (K : Keys kk ek) (k : κ) (v : AV) {es : List (AV × AV × Nat)} {l : List (κ × AV)} (E : Ents ek es l) (hs : lk l k ≠ none) : Ents ek (setE (ek k) v es) (up l k v) ∧ (setE (ek k) v es).map (fun e => e.2.2) = es.map fun e => e.2.2 := by
  induction E with
  | nil => exact absurd rfl hs
  | cons t ih =>
    rename_i k' v' b es l
    simp only [setE, K.eq, up]
    simp only [lk] at hs
    by_cases e : k = k'
    · rw [decide_eq_true e, if_pos e]
      exact ⟨.cons t, rfl⟩
    · rw [if_neg e] at hs
      rw [decide_eq_false e, if_neg e]
      obtain ⟨i1, i2⟩ := ih hs
      exact ⟨.cons i1, by simp only [List.map_cons, i2]⟩
theorem Ents.add [DecidableEq κ] {k : κ} {v : AV} {c : Nat} {es : List (AV × AV × Nat)} {l : List (κ × AV)} (E : Ents ek es l) (hs : lk l k = none) : Ents ek (es ++ [(ek k, v, c)]) (up l k v) := by
  induction E with
  | nil => exact .cons .nil
  | cons t ih =>
    rename_i k' v' b es l
    simp only [lk] at hs
    simp only [up, List.cons_append]
    by_cases e : k = k'
    · rw [if_pos e] at hs; cases hs
    · rw [if_neg e] at hs ⊢
      exact .cons (ih hs)
theorem Ents.del [DecidableEq κ] (K : Keys kk ek) (k : κ) {es : List (AV × AV × Nat)} {l : List (κ × AV)} (E : Ents ek es l) : Ents ek (delE (ek k) es) (dl l k) ∧ (delE (ek k) es).Sublist es := by
  induction E with
  | nil => exact ⟨.nil, .slnil⟩
  | cons t ih =>
    rename_i k' v' b es l
    simp only [delE, K.eq, dl]
    by_cases e : k = k'
    · rw [decide_eq_true e, if_pos e]
      exact ⟨t, List.sublist_cons_self _ _⟩
    · rw [decide_eq_false e, if_neg e]
      exact ⟨.cons ih.1, ih.2.cons_cons _⟩
theorem Ents.length {es : List (AV × AV × Nat)} {l : List (κ × AV)} (E : Ents ek es l) : es.length = l.length := by
  induction E with
  | nil => rfl
  | cons t ih => simp [ih]
theorem dl_none [DecidableEq κ] {k : κ} : ∀ {l : List (κ × AV)}, lk l k = none → dl l k = l
  | [], _ => rfl
  | p :: t, hs => by
    simp only [lk] at hs
    simp only [dl]
    by_cases e : k = p.1
    · rw [if_pos e] at hs; cases hs
    · rw [if_neg e] at hs ⊢
      rw [dl_none hs]

theorem kmap_new (h : AHeap) : mkmapV h = some (.map h.sz, h.push (.map [] 0)) ∧ KMap ek (h.push (.map [] 0)) h.sz ([] : List (κ × AV)) :=
  ⟨rfl, [], 0, by rw [AHeap.get_push, if_pos rfl], .nil, by simp, by simp, by simp⟩
theorem KMap.lt (M : KMap ek h id l) (k : h.Ok) : id < h.sz := by obtain ⟨es, c, m⟩ := M; exact k.lt m.get
theorem KMap.keys (M : KMap ek h id l) : (l.map fun p => p.1).Nodup := by obtain ⟨es, c, m⟩ := M; exact m.keys
theorem KMap.get_eq (M : KMap ek h id l) (e : h'.get id = h.get id) : KMap ek h' id l := by
  obtain ⟨es, c, m⟩ := M
  exact ⟨es, c, by rw [e]; exact m.get, m.ents, m.born, m.nd, m.keys⟩
theorem Fr.kmap {X : Nat → Prop} (p : Fr X h h') (M : KMap ek h id l) (e : ¬ X id) : KMap ek h' id l := by
  obtain ⟨es, c, m⟩ := M
  exact ⟨es, c, p.keep _ _ e m.get, m.ents, m.born, m.nd, m.keys⟩

theorem KMap.look [DecidableEq κ] (M : KMap ek h id l) (K : Keys kk ek) (z : AV) (k : κ) : lookA h kk false z (.map id) (ek k) = some ((lk l k).getD z) := by
  obtain ⟨es, c, m⟩ := M
  simp only [lookA, K.fits, cond_true, mapOf, m.get, m.ents.find K]
  cases lk l k <;> rfl
theorem KMap.look2 [DecidableEq κ] (M : KMap ek h id l) (K : Keys kk ek) (z : AV) (k : κ) : lookA h kk true z (.map id) (ek k) = some (.tup [(lk l k).getD z, .bool (lk l k).isSome]) := by
  obtain ⟨es, c, m⟩ := M
  simp only [lookA, K.fits, cond_true, mapOf, m.get, m.ents.find K]
  cases lk l k <;> rfl
theorem KMap.len (M : KMap ek h id l) : lenA h 2 (.map id) = some (.int .i64 (l.length : Int)) := by
  obtain ⟨es, c, m⟩ := M
  simp only [lenA, m.get, m.ents.length]; rfl
theorem KMap.upd [DecidableEq κ] (M : KMap ek h id l) (K : Keys kk ek) (k : κ) (v : AV) : ∃ h', mupdA h kk (.map id) (ek k) v = some h' ∧ But id h h' ∧ h'.sz = h.sz ∧ (h.Ok → h'.Ok) ∧ KMap ek h' id (up l k v) := by
  obtain ⟨es, c, m⟩ := M
  have hid := m.get
  cases hl : lk l k with
  | none =>
    refine ⟨h.put id (.map (es ++ [(ek k, v, c)]) (c + 1)), ?_, But.put _ _ _, by simp, fun o => o.put (o.lt m.get) _, es ++ [(ek k, v, c)], c + 1, by rw [AHeap.get_put, if_pos rfl], m.ents.add hl, ?_, ?_, (up_keys m.keys).1⟩
    · simp only [mupdA, K.fits, cond_true, m.get, m.ents.find K, hl]
    · intro e he
      rcases List.mem_append.1 he with he | he
      · have := m.born e he; omega
      · simp only [List.mem_singleton] at he; subst he; simp
    · rw [List.map_append, List.nodup_append]
      refine ⟨m.nd, by simp, fun a ha b hb => ?_⟩
      obtain ⟨e, he, rfl⟩ := List.mem_map.1 ha
      have := m.born e he
      simp at hb; omega
  | some u =>
    obtain ⟨i1, i2⟩ := m.ents.set K k v (by rw [hl]; exact fun e => by cases e)
    refine ⟨h.put id (.map (setE (ek k) v es) c), ?_, But.put _ _ _, by simp, fun o => o.put (o.lt m.get) _, setE (ek k) v es, c, by rw [AHeap.get_put, if_pos rfl], i1, ?_, by rw [i2]; exact m.nd, (up_keys m.keys).1⟩
    · simp only [mupdA, K.fits, cond_true, m.get, m.ents.find K, hl]
    · intro e he
      have : e.2.2 ∈ (setE (ek k) v es).map fun e => e.2.2 := List.mem_map.2 ⟨e, he, rfl⟩
      rw [i2] at this
      obtain ⟨e', he', heq⟩ := List.mem_map.1 this
      rw [← heq]; exact m.born e' he'
theorem KMap.del [DecidableEq κ] (M : KMap ek h id l) (K : Keys kk ek) (k : κ) : ∃ h', delA h kk (.map id) (ek k) = some h' ∧ But id h h' ∧ h'.sz = h.sz ∧ (h.Ok → h'.Ok) ∧ KMap ek h' id (dl l k) := by
  obtain ⟨es, c, m⟩ := M
  cases hl : lk l k with
  | none =>
    refine ⟨h, ?_, But.refl _ _, rfl, fun o => o, es, c, by rw [dl_none hl]; exact m⟩
    simp only [delA, K.fits, cond_true, m.get, m.ents.find K, hl]
  | some u =>
    obtain ⟨i1, i2⟩ := m.ents.del K k
    refine ⟨h.put id (.map (delE (ek k) es) c), ?_, But.put _ _ _, by simp, fun o => o.put (o.lt m.get) _, delE (ek k) es, c, by rw [AHeap.get_put, if_pos rfl], i1, fun e he => m.born e (i2.subset he), m.nd.sublist (i2.map _), m.keys.sublist (dl_sub.map _)⟩
    simp only [delA, K.fits, cond_true, m.get, m.ents.find K, hl]

/-! ### Iterators -/
/-- An iterator over a map that has not changed since; what it has come to. -/
def KIter (ek : κ → AV) (h : AHeap) (it id : Nat) (l done : List (κ × AV)) : Prop :=
  ∃ es c de, KMapE ek h id es c l ∧ Ents ek de done ∧ (∀ e ∈ de, e ∈ es) ∧ (de.map fun e => e.2.2).Nodup ∧ h.get it = some (.iter (some id) c ((de.map fun e => e.2.2).reverse) c)

theorem Fr.kiter {X : Nat → Prop} {it : Nat} {done : List (κ × AV)} (p : Fr X h h') (M : KIter ek h it id l done) (e1 : ¬ X it) (e2 : ¬ X id) : KIter ek h' it id l done := by
  obtain ⟨es, c, de, m, h1, h2, h3, h4⟩ := M
  exact ⟨es, c, de, ⟨p.keep _ _ e2 m.get, m.ents, m.born, m.nd, m.keys⟩, h1, h2, h3, p.keep _ _ e1 h4⟩
theorem KIter.map {it : Nat} {done : List (κ × AV)} (M : KIter ek h it id l done) : KMap ek h id l := by
  obtain ⟨es, c, de, m, _⟩ := M; exact ⟨es, c, m⟩

theorem KMap.range (M : KMap ek h id l) (o : h.Ok) : rngA h (.map id) = some (.itr h.sz, h.push (.iter (some id) ((h.push (.map [] 0)).sz - 1 - h.sz + (match h.get id with | some (.map _ c) => c | _ => 0)) [] (match h.get id with | some (.map _ c) => c | _ => 0))) ∧
    KIter ek (h.push (.iter (some id) ((h.push (.map [] 0)).sz - 1 - h.sz + (match h.get id with | some (.map _ c) => c | _ => 0)) [] (match h.get id with | some (.map _ c) => c | _ => 0))) h.sz id l [] := by
  obtain ⟨es, c, m⟩ := M
  have hlt := o.lt m.get
  simp only [m.get, AHeap.sz_push, Nat.add_sub_cancel, Nat.sub_self, Nat.zero_add]
  refine ⟨by simp only [rngA, m.get], es, c, [], ⟨?_, m.ents, m.born, m.nd, m.keys⟩, .nil, by simp, by simp, by rw [AHeap.get_push, if_pos rfl]; rfl⟩
  rw [AHeap.get_push, if_neg (by omega)]; exact m.get

theorem KMap.range' (M : KMap ek h id l) (o : h.Ok) : ∃ h', rngA h (.map id) = some (.itr h.sz, h') ∧ Ext h h' ∧ h'.Ok ∧ h'.sz = h.sz + 1 ∧ KIter ek h' h.sz id l [] := by
  obtain ⟨h1, h2⟩ := M.range o
  exact ⟨_, h1, ext_push o _, o.push _, by simp, h2⟩

theorem findBorn_mem {es : List (AV × AV × Nat)} (hn : (es.map fun e => e.2.2).Nodup) {e : AV × AV × Nat} (he : e ∈ es) : findBorn e.2.2 es = some e := by
  induction es with
  | nil => cases he
  | cons a t ih =>
    simp only [List.map_cons, List.nodup_cons] at hn
    simp only [findBorn]
    rcases List.mem_cons.1 he with rfl | he
    · rw [nbeq_true.2 rfl, cond_true]
    · have : a.2.2 ≠ e.2.2 := fun q => hn.1 (by rw [q]; exact List.mem_map.2 ⟨e, he, rfl⟩)
      rw [nbeq_false.2 this, cond_false]
      exact ih hn.2 he

theorem Ents.mem {es : List (AV × AV × Nat)} {l : List (κ × AV)} (E : Ents ek es l) {e : AV × AV × Nat} (he : e ∈ es) : ∃ k, e.1 = ek k ∧ (k, e.2.1) ∈ l := by
  induction E with
  | nil => cases he
  | cons t ih =>
    rename_i k v b es l
    rcases List.mem_cons.1 he with rfl | he
    · exact ⟨k, rfl, List.mem_cons_self⟩
    · obtain ⟨k', h1, h2⟩ := ih he
      exact ⟨k', h1, List.mem_cons_of_mem _ h2⟩
theorem Ents.append {es fs : List (AV × AV × Nat)} {l m : List (κ × AV)} (E : Ents ek es l) (F : Ents ek fs m) : Ents ek (es ++ fs) (l ++ m) := by
  induction E with
  | nil => exact F
  | cons t ih => exact .cons ih
theorem Ents.mem' {es : List (AV × AV × Nat)} {l : List (κ × AV)} (E : Ents ek es l) {p : κ × AV} (hp : p ∈ l) : ∃ b, (ek p.1, p.2, b) ∈ es := by
  induction E with
  | nil => cases hp
  | cons t ih =>
    rename_i k v b es l
    rcases List.mem_cons.1 hp with rfl | hp
    · exact ⟨b, List.mem_cons_self⟩
    · obtain ⟨b', h1⟩ := ih hp
      exact ⟨b', List.mem_cons_of_mem _ h1⟩

theorem Keys.inj [DecidableEq κ] (K : Keys kk ek) {a b : κ} (e : ek a = ek b) : a = b := by
  have h1 := K.eq a b
  have h2 := K.eq a a
  rw [← e, h2] at h1
  simp at h1
  exact h1

/-- In l each key stands once: an entry is told by its key. -/
theorem Ents.uniq [DecidableEq κ] (K : Keys kk ek) {es : List (AV × AV × Nat)} {l : List (κ × AV)} (E : Ents ek es l) (hk : (l.map fun p => p.1).Nodup) {e f : AV × AV × Nat} (he : e ∈ es) (hf : f ∈ es) (h1 : e.1 = f.1) : e = f := by
  induction E with
  | nil => cases he
  | cons t ih =>
    rename_i k v b es l
    simp only [List.map_cons, List.nodup_cons] at hk
    have no : ∀ x ∈ es, x.1 ≠ ek k := by
      intro x hx q
      obtain ⟨k', q1, q2⟩ := t.mem hx
      have : k = k' := K.inj (by rw [← q, q1])
      subst this
      exact hk.1 (List.mem_map.2 ⟨_, q2, rfl⟩)
    rcases List.mem_cons.1 he with rfl | he <;> rcases List.mem_cons.1 hf with rfl | hf
    · rfl
    · exact absurd h1.symm (no f hf)
    · exact absurd h1 (no e he)
    · exact ih hk.2 he hf

theorem KIter.next [DecidableEq κ] (K : Keys kk ek) {it : Nat} {done : List (κ × AV)} {Kt : Kont} (M : KIter ek h it id l done) (o : h.Ok) (hne : it ≠ id) (kE : done.Perm l → Kt (.tup [.bool false]) h = true)
    (kN : ∀ k v h', (k, v) ∈ l → (k, v) ∉ done → But it h h' → h'.Ok → h'.sz = h.sz → KIter ek h' it id l (done ++ [(k, v)]) → entA h' (.itr it) = some (.tup [ek k, v]) → Kt (.tup [.bool true, ek k, v]) h' = true) : nextA h (.itr it) Kt = true := by
  obtain ⟨es, c, de, m, h1, h2, h3, h4⟩ := M
  have hc : ∀ e ∈ es, Nat.blt e.2.2 c = true := fun e he => nblt_true.2 (m.born e he)
  have hdn : ∀ p, p ∈ done ↔ ∃ e ∈ de, e.1 = ek p.1 ∧ e.2.1 = p.2 := by
    intro p
    constructor
    · intro hp
      obtain ⟨b, hb⟩ := h1.mem' hp
      exact ⟨_, hb, rfl, rfl⟩
    · rintro ⟨e, he, e1, e2⟩
      obtain ⟨k, q1, q2⟩ := h1.mem he
      have : k = p.1 := K.inj (by rw [← q1, e1])
      subst this
      rw [e2] at q2
      exact q2
  have hdu : de.Nodup := by
    rw [List.nodup_iff_pairwise_ne] at h3 ⊢
    rw [List.pairwise_map] at h3
    exact h3.imp fun q e => q (by rw [e])
  unfold nextA
  simp only [h4, m.get]
  have hg : (!((de.map fun e => e.2.2).reverse).isEmpty && !es.isEmpty && es.all fun e => !Nat.blt e.2.2 c) = false := by
    cases hes : es with
    | nil => simp
    | cons a t =>
      have := hc a (by rw [hes]; exact List.mem_cons_self)
      simp [this]
  rw [hg, cond_false, List.all_eq_true]
  intro x hx
  have hcand : x = none ∧ (∀ e ∈ es, e ∈ de) ∨ ∃ e, x = some e ∧ e ∈ es ∧ e ∉ de := by
    simp only [cands] at hx
    have hmem : ∀ e ∈ es, (memN e.2.2 ((de.map fun e => e.2.2).reverse) = true ↔ e ∈ de) := by
      intro e he
      rw [memN_iff, List.mem_reverse]
      constructor
      · intro q
        obtain ⟨f, hf, q⟩ := List.mem_map.1 q
        have a1 := findBorn_mem m.nd he
        have a2 := findBorn_mem m.nd (h2 f hf)
        rw [q, a1] at a2
        cases a2; exact hf
      · intro q; exact List.mem_map.2 ⟨e, q, rfl⟩
    rcases List.mem_append.1 hx with hx | hx
    · refine .inl ?_
      cases he : (List.filter (fun e => Nat.blt e.2.2 c) (List.filter (fun e => !memN e.2.2 ((de.map fun e => e.2.2).reverse)) es)).isEmpty with
      | false => rw [he] at hx; cases hx
      | true =>
        rw [he] at hx
        simp only [cond_true, List.mem_singleton] at hx
        refine ⟨hx, fun e hee => ?_⟩
        rw [List.isEmpty_iff] at he
        cases hm : memN e.2.2 ((de.map fun e => e.2.2).reverse) with
        | true => exact (hmem e hee).1 hm
        | false =>
          have : e ∈ List.filter (fun e => Nat.blt e.2.2 c) (List.filter (fun e => !memN e.2.2 ((de.map fun e => e.2.2).reverse)) es) := by
            rw [List.mem_filter, List.mem_filter]
            exact ⟨⟨hee, by rw [hm]; rfl⟩, hc e hee⟩
          rw [he] at this; cases this
    · obtain ⟨e, he, rfl⟩ := List.mem_map.1 hx
      refine .inr ⟨e, rfl, ?_⟩
      have : e ∈ List.filter (fun e => !memN e.2.2 ((de.map fun e => e.2.2).reverse)) es := by
        rcases List.mem_append.1 he with he | he <;> exact (List.mem_filter.1 he).1
      rw [List.mem_filter] at this
      refine ⟨this.1, fun q => ?_⟩
      have := this.2
      rw [(hmem e (h2 e q)).2 q] at this
      cases this
  rcases hcand with ⟨rfl, hall⟩ | ⟨e, rfl, hes, hde⟩
  · refine kE ?_
    have hdd : (done.map fun p => p.1).Nodup := by
      rw [List.nodup_iff_pairwise_ne, List.pairwise_map]
      have : ∀ {de : List (AV × AV × Nat)} {done : List (κ × AV)}, Ents ek de done → (∀ e ∈ de, e ∈ es) → de.Nodup → done.Pairwise fun a b => a.1 ≠ b.1 := by
        intro de done E
        induction E with
        | nil => intro _ _; exact .nil
        | cons t ih =>
          rename_i k v b es' l'
          intro hsub hnd
          rw [List.nodup_cons] at hnd
          refine .cons (fun p hp q => ?_) (ih (fun e he => hsub e (List.mem_cons_of_mem _ he)) hnd.2)
          obtain ⟨b', hb'⟩ := t.mem' hp
          have := m.ents.uniq K m.keys (hsub _ List.mem_cons_self) (hsub _ (List.mem_cons_of_mem _ hb')) (by show ek k = ek p.1; rw [show k = p.1 from q])
          rw [this] at hnd
          exact hnd.1 hb'
      exact this h1 h2 hdu
    refine (List.perm_ext_iff_of_nodup ?_ ?_).2 fun p => ⟨fun hp => ?_, fun hp => ?_⟩
    · rw [List.nodup_iff_pairwise_ne] at hdd ⊢
      rw [List.pairwise_map] at hdd
      exact hdd.imp fun q e => q (by rw [e])
    · have hk := m.keys
      rw [List.nodup_iff_pairwise_ne] at hk ⊢
      rw [List.pairwise_map] at hk
      exact hk.imp fun q e => q (by rw [e])
    · obtain ⟨e, he, q1, q2⟩ := (hdn p).1 hp
      obtain ⟨k, q3, q4⟩ := m.ents.mem (h2 e he)
      have : k = p.1 := K.inj (by rw [← q3, q1])
      subst this
      rw [q2] at q4; exact q4
    · obtain ⟨b, hb⟩ := m.ents.mem' hp
      exact (hdn p).2 ⟨_, hall _ hb, rfl, rfl⟩
  · obtain ⟨k, q1, q2⟩ := m.ents.mem hes
    obtain ⟨ek1, v, b⟩ := e
    simp only at q1 q2
    subst q1
    show Kt (.tup [.bool true, ek k, v]) _ = true
    have gm : (h.put it (.iter (some id) c (b :: (de.map fun e => e.2.2).reverse) c)).get id = some (.map es c) := by
      rw [AHeap.get_put, if_neg (fun e => hne e.symm)]; exact m.get
    have gi : (h.put it (.iter (some id) c (b :: (de.map fun e => e.2.2).reverse) c)).get it = some (.iter (some id) c (b :: (de.map fun e => e.2.2).reverse) c) := get_put_same _ _ _
    refine kN k v _ q2 (fun hp => ?_) (But.put _ _ _) (o.put (o.lt h4) _) (by simp) ⟨es, c, de ++ [(ek k, v, b)], ⟨gm, m.ents, m.born, m.nd, m.keys⟩, h1.append (.cons .nil), ?_, ?_, ?_⟩ ?_
    · obtain ⟨f, hf, r1, r2⟩ := (hdn _).1 hp
      have := m.ents.uniq K m.keys hes (h2 f hf) (by simp only at r1; rw [r1])
      rw [this] at hde
      exact hde hf
    · intro e he
      rcases List.mem_append.1 he with he | he
      · exact h2 e he
      · simp only [List.mem_singleton] at he; subst he; exact hes
    · rw [List.map_append, List.nodup_append]
      refine ⟨h3, by simp, fun a ha b' hb' q => ?_⟩
      simp only [List.map_cons, List.map_nil, List.mem_singleton] at hb'
      subst hb'; subst q
      obtain ⟨f, hf, r⟩ := List.mem_map.1 ha
      have a1 := findBorn_mem m.nd hes
      have a2 := findBorn_mem m.nd (h2 f hf)
      simp only at a1 r
      rw [r, a1] at a2
      cases a2; exact hde hf
    · rw [gi, List.map_append, List.reverse_append]; rfl
    · have hb := findBorn_mem m.nd hes
      simp only at hb
      simp only [entA, gi, gm, Nat.beq_refl, cond_true, hb]
end
end Go.Ab
