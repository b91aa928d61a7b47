/-
  Slices of one's own: rows, appending, writing; a heap that is only read.
-/
import Derived.Test.YtbamgdknkhhikaaAbGo
import Derived.Test.YtbamgdknkhhikaaAbFrz
namespace Go.Ab
set_option linter.unusedSimpArgs false
set_option linter.unusedVariables false

def inRow (v : AV) (j : Nat) : Prop := ∃ g s l c ex, v = .slc j g s l c ex

theorem inRow_nil {j : Nat} : ¬ inRow .nilSlc j := by rintro ⟨_, _, _, _, _, e⟩; cases e
theorem inRow_slc {i g s l c : Nat} {ex : Bool} {j : Nat} : inRow (.slc i g s l c ex) j ↔ i = j := ⟨fun ⟨_, _, _, _, _, e⟩ => by cases e; rfl, fun e => by subst e; exact ⟨_, _, _, _, _, rfl⟩⟩

theorem app_row {h h' : AHeap} {n bytes : Nat} {v x v' : AV} (e : appendA h n bytes v x = some (v', h')) {j : Nat} (i : inRow v' j) : inRow v j ∨ j = h.sz := by
  unfold appendA at e
  cases hn : Nat.beq n 0 with
  | true => rw [hn] at e; cases e
  | false =>
    rw [hn, cond_false] at e
    split at e
    · cases e
    · rename_i new hs
      unfold appendNew at e
      split at e
      · split at e
        · cases e; exact absurd i inRow_nil
        · cases hc : (Nat.ble (new.length * bytes) most && Nat.ble new.length most) with
          | true => rw [hc] at e; cases e; exact .inr (inRow_slc.1 i).symm
          | false => rw [hc] at e; cases e
      · split at e
        · cases e; obtain ⟨_, _, _, _, _, e⟩ := i; cases e
        · cases hc : (Nat.ble (new.length * bytes) most && Nat.ble new.length most) with
          | true => rw [hc] at e; cases e; exact .inr (inRow_slc.1 i).symm
          | false => rw [hc] at e; cases e
      · rename_i id g st len cap ex
        split at e
        · cases e; exact .inl i
        · split at e
          · cases e
          · rename_i r hr
            revert e
            cases (Nat.ble ((len + new.length) * bytes) most && Nat.ble (len + new.length) most && Nat.beq r.sz n) with
            | false => intro e; cases e
            | true =>
              cases Nat.ble (len + new.length) cap with
              | true =>
                cases (r.rw && Nat.beq g r.g) with
                | true => intro e; cases e; exact .inl (inRow_slc.2 (inRow_slc.1 i))
                | false => intro e; cases e
              | false =>
                cases ex with
                | true =>
                  simp only [cond_true, cond_false]
                  cases Nat.ble r.m g with
                  | false => intro e; cases e
                  | true =>
                    simp only [cond_true]
                    cases Nat.beq (List.take len (List.drop st r.es)).length len with
                    | true => intro e; cases e; exact .inr (inRow_slc.1 i).symm
                    | false => intro e; cases e
                | false =>
                  simp only [cond_true, cond_false]
                  cases (r.rw && Nat.beq g r.g && Nat.beq st 0) with
                  | false => intro e; cases e
                  | true =>
                    simp only [cond_true]
                    cases Nat.beq len r.es.length with
                    | true => intro e; cases e; exact .inl (inRow_slc.2 (inRow_slc.1 i))
                    | false => intro e; cases e; exact .inl (inRow_slc.2 (inRow_slc.1 i))
      · cases e

theorem ext_none {h : AHeap} : Ext AHeap.empty h := ⟨Nat.zero_le _, fun id o e => by cases e⟩
theorem ok_none : AHeap.empty.Ok := fun id _ => rfl

theorem own_app {h : AHeap} {n bytes : Nat} {v x : AV} {es new : List (List AV)} (O : Own 0 h n v es) (hn : 0 < n) (o : h.Ok) (hs : source h n x = some new) (h1 : (es.length + new.length) * bytes ≤ most) (h2 : es.length + new.length ≤ most) :
    ∃ v' h', appendA h n bytes v x = some (v', h') ∧ Own 0 h' n v' (es ++ new) ∧ h'.Ok ∧ Fr (inRow v) h h' ∧ (∀ j, inRow v' j → inRow v j ∨ h.sz ≤ j) := by
  obtain ⟨v', h', a1, a2, a3, a4, a5, a6, a7⟩ := O.app hn (Nat.zero_le _) o ok_none ext_none (Nat.le_refl _) hs h1 h2
  exact ⟨v', h', a1, a2, a3, ⟨a5, fun j o' nj g => a6 j o' g fun id g' s l c ex e q => nj ⟨g', s, l, c, ex, by rw [e, q]⟩⟩, fun j i => by rcases app_row a1 i with e | e; exact .inl e; exact .inr (by omega)⟩

/-- A cell of an element, written. -/
theorem own_set {h : AHeap} {n i off : Nat} {v x : AV} {es : List (List AV)} {e : List AV} (O : Own 0 h n v es) (hi : es[i]? = some e) (ho : off < e.length) (hx : x.leaf = true) :
    ∃ id g, (∀ k, iadrA h n v (.int k (i : Int)) = some (.ptr id g i 0)) ∧ inRow v id ∧ ∃ h', storeA h 1 (.ptr id g i off) x = some h' ∧ Own 0 h' n v (es.set i (e.set off x)) ∧ But id h h' ∧ (h.Ok → h'.Ok) := by
  have hlt : i < es.length := (List.getElem?_eq_some_iff.1 hi).1
  rcases O with ⟨rfl, rfl⟩ | ⟨id, r, w1, rfl, w3, w4, w5, w6, w7⟩
  · simp at hi
  · have hc := cells_leaf hx
    refine ⟨id, r.g, fun k => ?_, ⟨_, _, _, _, _, rfl⟩, h.put id (.row { r with es := es.set i (e.set off x), m := r.g }), ?_, ?_, But.put _ _ _, fun o => o.put (o.lt (AHeap.row_some.1 w3)) _⟩
    · have : rowSz h id n = true := by simp only [rowSz, w3, nbeq_true]; exact w6
      simp only [iadrA, asNat_nat, nblt_true.2 hlt, this, Bool.and_self, cond_true, Nat.zero_add]
    · have hn : nth r.es i = some e := by rw [nth_eq, w7]; exact hi
      simp only [storeA, w3, w4, Nat.beq_refl, hc, Bool.and_self, cond_true, hn, List.length_cons, List.length_nil, Nat.zero_add, allLeaf, hx]
      rw [nble_true.2 (by omega), cond_true, setNth_eq, lay_one ho, w7]
    · exact .inr ⟨id, _, w1, by simp only [List.length_set], AHeap.row_some.2 (get_put_same _ _ _), w4, Nat.le_refl _, w6, rfl⟩

theorem own_fr {X : Nat → Prop} {h h' : AHeap} {n : Nat} {v : AV} {es : List (List AV)} (O : Own 0 h n v es) (f : Fr X h h') (d : ∀ j, inRow v j → ¬ X j) : Own 0 h' n v es := by
  rcases O with V | ⟨id, r, w1, w2, w3, w4, w5, w6, w7⟩
  · exact .inl V
  · exact .inr ⟨id, r, w1, w2, f.row (d id (by rw [w2]; exact ⟨_, _, _, _, _, rfl⟩)) w3, w4, w5, w6, w7⟩
theorem own_lt {h : AHeap} {n : Nat} {v : AV} {es : List (List AV)} (O : Own 0 h n v es) (o : h.Ok) {j : Nat} (i : inRow v j) : j < h.sz := by
  rcases O with ⟨rfl, _⟩ | ⟨id, r, w1, rfl, w3, _⟩
  · exact absurd i inRow_nil
  · rw [← inRow_slc.1 i]; exact o.lt (AHeap.row_some.1 w3)

theorem own_row {b : Nat} {h : AHeap} {n : Nat} {v : AV} {es : List (List AV)} (O : Own b h n v es) {j : Nat} (i : inRow v j) : b ≤ j := by
  rcases O with ⟨rfl, _⟩ | ⟨id, r, w1, rfl, _⟩
  · exact absurd i inRow_nil
  · rw [← inRow_slc.1 i]; exact w1
theorem own_low {b : Nat} {h : AHeap} {n : Nat} {v : AV} {es : List (List AV)} (O : Own b h n v es) : Own 0 h n v es := by
  rcases O with V | ⟨id, r, w1, w2⟩
  · exact .inl V
  · exact .inr ⟨id, r, Nat.zero_le _, w2⟩

/-! ### A heap that is only read -/
theorem load_frz {h : AHeap} {id : Nat} {c : List AV} (V : Var h id c) (ag : Bool) (off n : Nat) : loadA h.frz ag n (.ptr id 0 0 off) = partA ag off n c := by
  have V' : h.row id = some (VRow c) := V
  simp only [loadA, AHeap.row_frz V', VRow, Nat.ble_self_eq_true, cond_true, nth_zero]
theorem look_frz {κ : Type} {ek : κ → AV} {h : AHeap} {id : Nat} {l : List (κ × AV)} (M : KMap ek h id l) (kk : KK) (z k : AV) : lookA h.frz kk false z (.map id) k = lookA h kk false z (.map id) k := by
  obtain ⟨es, c, m⟩ := M
  have e1 : mapOf h (.map id) = some (es, c) := by simp only [mapOf, m.get]
  have e2 : mapOf h.frz (.map id) = some (es, c) := by simp only [mapOf, AHeap.get_frz, m.get, Option.map, frzO]
  simp only [lookA, e1, e2]


theorem fr_acc {A X : Nat → Prop} {h h1 h2 : AHeap} (o : h.Ok) (F : Fr A h h1) (G : Fr X h1 h2) (hx : ∀ j, X j → A j ∨ h.sz ≤ j) : Fr A h h2 := F.new (G.mono hx) o
theorem fr_ext {A : Nat → Prop} {h h1 h2 : AHeap} (F : Fr A h h1) (e : Ext h1 h2) : Fr A h h2 := F.trans (Fr.of_ext e)
theorem ext_two {h h1 h2 : AHeap} (e : Ext h h1) (f : Ext h1 h2) : Ext h h2 := ⟨Nat.le_trans e.1 f.1, fun j o g => f.2 j o (e.2 j o g)⟩
theorem View.at1 {h : AHeap} {n : Nat} {v : AV} {es : List (List AV)} (V : View h n v es) {i : Nat} {e : List AV} (hi : es[i]? = some e) : ∃ id g j, (∀ k, iadrA h n v (.int k (i : Int)) = some (.ptr id g j 0)) ∧ ∀ ag off m, loadA h ag m (.ptr id g j off) = partA ag off m e := by
  obtain ⟨id, g, j, q⟩ := V.atE hi
  exact ⟨id, g, j, q h (Ext.refl h)⟩
end Go.Ab
