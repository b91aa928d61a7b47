/-
  A heap that is only read: what a call on it leaves is as it was, but for new blocks.
-/
import Derived.Test.YtbamgdknkhhikaaAbLaw
import Derived.Test.YtbamgdknkhhikaaAbSim
import Derived.Sort.Grow
import Derived.Deep.Draws
namespace Go.Ab
set_option linter.unusedSimpArgs false
set_option linter.unusedVariables false

def PT.mapT {α : Type} (f : α → α) : PT α → PT α
  | .lf => .lf
  | .nd l v r => .nd (PT.mapT f l) (v.map f) (PT.mapT f r)

theorem PT.get_mapT {α : Type} (f : α → α) : ∀ (t : PT α) (n : Nat), (PT.mapT f t).get n = (t.get n).map f
  | .lf, n => rfl
  | .nd l v r, 0 => rfl
  | .nd l v r, k + 1 => by
    simp only [PT.mapT, PT.get]
    cases Nat.beq (Nat.mod k 2) 0 with
    | true => simp only [cond_true]; exact PT.get_mapT f l _
    | false => simp only [cond_false]; exact PT.get_mapT f r _

def frzO : AObj → AObj
  | .row r => .row { r with rw := false }
  | .map es c => .rmap es c
  | .rmap es c => .rmap es c
  | _ => .dead

def AHeap.frz (h : AHeap) : AHeap := { h with t := PT.mapT frzO h.t }

theorem AHeap.get_frz (h : AHeap) (id : Nat) : h.frz.get id = (h.get id).map frzO := PT.get_mapT _ _ _
theorem AHeap.sz_frz (h : AHeap) : h.frz.sz = h.sz := rfl
theorem AHeap.row_frz {h : AHeap} {id : Nat} {r : Row} (e : h.row id = some r) : h.frz.row id = some { r with rw := false } := by
  rw [AHeap.row_some] at *
  rw [AHeap.get_frz, e]; rfl
theorem AHeap.Ok.frz {h : AHeap} (k : h.Ok) : h.frz.Ok := fun id hid => by rw [AHeap.get_frz, k id hid]; rfl

theorem RelO.frz {P : Program} {φ : Phi} {id : Nat} {o : AObj} {w : World} (h : RelO P φ id o w) : RelO P φ id (frzO o) w := by
  cases o with
  | row r => exact ⟨h.mg, h.sz, h.es, h.leaf, h.cur, h.gen, h.cells, (fun e => by cases e), (fun _ _ e => by cases e)⟩
  | map es c => exact h
  | rmap es c => exact h
  | iter m s l p => trivial
  | loop l => trivial
  | gone => trivial
  | dead => trivial

theorem own_frz (o : AObj) : (frzO o).own = false := by cases o <;> rfl

theorem RelH.frz {P : Program} {B : Base} {φ : Phi} {h : AHeap} {w : World} (H : RelH P B φ h w) : RelH P ⟨w.heap.size, fun id => (B.gh id).map frzO⟩ φ h.frz w := by
  refine ⟨Nat.le_refl _, H.dom, fun id hid => ?_, fun id hid => ?_, fun id o ho hd => ?_, H.lt, fun id o g L ho hL => ?_, fun id o id' g g' L L' ho hown _ _ _ => ?_, H.nodef, fun id o e => ?_⟩
  · obtain ⟨o, ho⟩ := H.there id hid
    exact ⟨frzO o, by rw [AHeap.get_frz, ho]; rfl⟩
  · rw [AHeap.get_frz, H.gone id hid]; rfl
  · rw [AHeap.get_frz] at ho
    cases hg : h.get id with
    | none => rw [hg] at ho; cases ho
    | some o' =>
      rw [hg] at ho
      cases ho
      refine (H.objn id o' hg ?_).frz
      cases hb : B.gh id with
      | none => rfl
      | some u => simp [hb] at hd
  · rw [AHeap.get_frz] at ho
    cases hg : h.get id with
    | none => rw [hg] at ho; cases ho
    | some o' =>
      rw [hg] at ho
      cases ho
      exact ⟨(fun e => by rw [own_frz] at e; cases e), fun _ => H.lt id g L hL⟩
  · rw [AHeap.get_frz] at ho
    cases hg : h.get id with
    | none => rw [hg] at ho; cases ho
    | some o' =>
      rw [hg] at ho
      cases ho
      rw [own_frz] at hown; cases hown
  · cases hb : B.gh id with
    | none => simp [hb] at e
    | some u =>
      simp only [hb, Option.map_some, Option.some.injEq] at e
      subst e
      obtain ⟨h1, h2⟩ := H.ghost id u hb
      exact ⟨by rw [AHeap.get_frz, h1]; rfl, h2⟩

/-- All that lay there is as it was. -/
theorem Gw.grown {w w' : World} (g : Gw w.heap.size w w') : ∃ q os, w' = Go.Sort.grow (w.drewN q) os := by
  refine ⟨w'.drawn - w.drawn, w'.heap.extract w.heap.size w'.heap.size, ?_⟩
  have h1 := g.os
  have h2 := g.tape
  have h3 := g.output
  have h4 := g.drawn
  have h5 : w'.heap = w.heap ++ w'.heap.extract w.heap.size w'.heap.size := by
    apply Array.ext_getElem?
    intro k
    have hs := g.size
    by_cases hk : k < w.heap.size
    · rw [g.below k hk, Array.getElem?_append_left hk]
    · rw [Array.getElem?_append_right (by omega), Array.getElem?_extract]
      by_cases hk2 : k < w'.heap.size
      · rw [if_pos (by omega), show w.heap.size + (k - w.heap.size) = k by omega]
      · rw [if_neg (by omega), Array.getElem?_eq_none (by omega)]
  obtain ⟨hp, tp, dr, os, out⟩ := w
  obtain ⟨hp', tp', dr', os', out'⟩ := w'
  simp only at h1 h2 h3 h4 h5
  subst h1; subst h2; subst h3
  unfold Go.Sort.grow World.drewN
  simp only
  rw [← h5, show dr + (dr' - dr) = dr' by omega]

theorem Gw.ahead (B : Nat) (w : World) (n : Nat) : Gw B w (Go.Sort.ahead w n) := ⟨rfl, rfl, Nat.le_add_right _ _, rfl, Nat.le_refl _, fun _ _ => rfl, fun _ _ h => h, fun _ r h => ⟨r, h⟩⟩
theorem Gw.grow {B : Nat} {w : World} (hB : B ≤ w.heap.size) (os : Array Obj) : Gw B w (Go.Sort.grow w os) := by
  have old : ∀ k : Nat, k < w.heap.size → (Go.Sort.grow w os).heap[k]? = w.heap[k]? := fun k hk => Go.Sort.heap_grow_old w os hk
  refine ⟨rfl, rfl, Nat.le_refl _, rfl, ?_, fun k hk => old k (by omega), fun k ds hk => ?_, fun k r hk => ⟨r, ?_⟩⟩
  · show w.heap.size ≤ (w.heap ++ os).size
    rw [Array.size_append]; omega
  · rw [old k (Array.getElem?_eq_some_iff.1 hk).1]; exact hk
  · rw [old k (Array.getElem?_eq_some_iff.1 hk).1]; exact hk
theorem RelH.grow {P : Program} {B : Base} {φ : Phi} {h : AHeap} {w : World} (H : RelH P B φ h w) (os : Array Obj) : RelH P B φ h (Go.Sort.grow w os) :=
  H.keep (by show w.heap.size ≤ (w.heap ++ os).size; rw [Array.size_append]; omega) fun id g L hL => Go.Sort.heap_grow_old w os (H.lt id g L hL)
end Go.Ab
