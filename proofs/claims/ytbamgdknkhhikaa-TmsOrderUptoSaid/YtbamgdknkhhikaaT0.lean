/-
  Lists of keys with what is told of each.
-/
import Derived.Test.YtbamgdknkhhikaaAbOwn
namespace Go.Proofs.Ytbamgdknkhhikaa
open Go.Ab
set_option linter.unusedSimpArgs false
set_option linter.unusedVariables false

section
variable {κ β γ : Type} [DecidableEq κ]
def lkG : List (κ × β) → κ → Option β
  | [], _ => none
  | p :: t, k => if k = p.1 then some p.2 else lkG t k
def upG : List (κ × β) → κ → β → List (κ × β)
  | [], k, v => [(k, v)]
  | p :: t, k, v => if k = p.1 then (k, v) :: t else p :: upG t k v
def dlG : List (κ × β) → κ → List (κ × β)
  | [], _ => []
  | p :: t, k => if k = p.1 then t else p :: dlG t k

def mp (f : β → γ) (l : List (κ × β)) : List (κ × γ) := l.map fun p => (p.1, f p.2)

theorem lkG_mp (f : β → γ) (k : κ) : ∀ (l : List (κ × β)), lkG (mp f l) k = (lkG l k).map f
  | [] => rfl
  | p :: t => by
    show (if k = p.1 then some (f p.2) else lkG (mp f t) k) = _
    simp only [lkG]
    by_cases e : k = p.1
    · rw [if_pos e, if_pos e]; rfl
    · rw [if_neg e, if_neg e, lkG_mp f k t]
theorem upG_mp (f : β → γ) (k : κ) (v : β) : ∀ (l : List (κ × β)), mp f (upG l k v) = upG (mp f l) k (f v)
  | [] => rfl
  | p :: t => by
    show _ = (if k = p.1 then (k, f v) :: mp f t else (p.1, f p.2) :: upG (mp f t) k (f v))
    simp only [upG]
    by_cases e : k = p.1
    · rw [if_pos e, if_pos e]; rfl
    · rw [if_neg e, if_neg e, ← upG_mp f k v t]; rfl
theorem dlG_mp (f : β → γ) (k : κ) : ∀ (l : List (κ × β)), mp f (dlG l k) = dlG (mp f l) k
  | [] => rfl
  | p :: t => by
    show _ = (if k = p.1 then mp f t else (p.1, f p.2) :: dlG (mp f t) k)
    simp only [dlG]
    by_cases e : k = p.1
    · rw [if_pos e, if_pos e]
    · rw [if_neg e, if_neg e, ← dlG_mp f k t]; rfl
theorem lk_G (k : κ) : ∀ (l : List (κ × AV)), lk l k = lkG l k
  | [] => rfl
  | p :: t => by simp only [lk, lkG, lk_G k t]
theorem up_G (k : κ) (v : AV) : ∀ (l : List (κ × AV)), up l k v = upG l k v
  | [] => rfl
  | p :: t => by simp only [up, upG, up_G k v t]
theorem dl_G (k : κ) : ∀ (l : List (κ × AV)), dl l k = dlG l k
  | [] => rfl
  | p :: t => by simp only [dl, dlG, dl_G k t]
theorem upG_none {k : κ} {v : β} : ∀ {l : List (κ × β)}, lkG l k = none → upG l k v = l ++ [(k, v)]
  | [], _ => rfl
  | p :: t, h => by
    simp only [lkG] at h
    simp only [upG]
    by_cases e : k = p.1
    · rw [if_pos e] at h; cases h
    · rw [if_neg e] at h ⊢
      rw [upG_none h]; rfl
theorem upG_some {δ : Type} (f : β → δ) {k : κ} {v u : β} (hf : f v = f u) : ∀ {l : List (κ × β)}, lkG l k = some u → (upG l k v).map (fun p => f p.2) = l.map fun p => f p.2
  | [], h => by cases h
  | p :: t, h => by
    simp only [lkG] at h
    simp only [upG]
    by_cases e : k = p.1
    · rw [if_pos e] at h ⊢
      cases h
      simp only [List.map_cons, hf]
    · rw [if_neg e] at h ⊢
      simp only [List.map_cons, upG_some f hf h]
theorem upG_keys {k : κ} {v u : β} : ∀ {l : List (κ × β)}, lkG l k = some u → (upG l k v).map (fun p => p.1) = l.map fun p => p.1
  | [], h => by cases h
  | p :: t, h => by
    simp only [lkG] at h
    simp only [upG]
    by_cases e : k = p.1
    · rw [if_pos e]; simp [e]
    · rw [if_neg e] at h ⊢
      simp only [List.map_cons, upG_keys h]
theorem upG_mem {k : κ} {v : β} : ∀ {l : List (κ × β)} {x : κ × β}, x ∈ upG l k v → x = (k, v) ∨ x ∈ l
  | [], x, h => .inl (List.mem_singleton.1 h)
  | p :: t, x, h => by
    simp only [upG] at h
    by_cases e : k = p.1
    · rw [if_pos e] at h
      rcases List.mem_cons.1 h with h | h
      · exact .inl h
      · exact .inr (List.mem_cons_of_mem _ h)
    · rw [if_neg e] at h
      rcases List.mem_cons.1 h with h | h
      · exact .inr (by rw [h]; exact List.mem_cons_self)
      · rcases upG_mem h with h | h
        · exact .inl h
        · exact .inr (List.mem_cons_of_mem _ h)
theorem dlG_sub {k : κ} : ∀ {l : List (κ × β)}, (dlG l k).Sublist l
  | [] => .slnil
  | p :: t => by
    simp only [dlG]
    by_cases e : k = p.1
    · rw [if_pos e]; exact List.sublist_cons_self _ _
    · rw [if_neg e]; exact dlG_sub.cons_cons _
theorem lkG_mem {k : κ} {u : β} : ∀ {l : List (κ × β)}, lkG l k = some u → (k, u) ∈ l
  | [], h => by cases h
  | p :: t, h => by
    simp only [lkG] at h
    by_cases e : k = p.1
    · rw [if_pos e] at h
      cases h; rw [e]; exact List.mem_cons_self
    · rw [if_neg e] at h
      exact List.mem_cons_of_mem _ (lkG_mem h)
theorem lkG_of_mem {k : κ} {u : β} : ∀ {l : List (κ × β)}, (l.map fun p => p.1).Nodup → (k, u) ∈ l → lkG l k = some u
  | [], _, h => by cases h
  | p :: t, hn, h => by
    simp only [List.map_cons, List.nodup_cons] at hn
    simp only [lkG]
    rcases List.mem_cons.1 h with h | h
    · rw [← h]; simp
    · by_cases e : k = p.1
      · exact absurd (List.mem_map.2 ⟨_, h, e⟩) hn.1
      · rw [if_neg e]; exact lkG_of_mem hn.2 h
theorem lkG_none {k : κ} : ∀ {l : List (κ × β)}, lkG l k = none ↔ k ∉ l.map fun p => p.1
  | [] => by simp [lkG]
  | p :: t => by
    simp only [lkG, List.map_cons, List.mem_cons, not_or]
    by_cases e : k = p.1
    · simp [e]
    · rw [if_neg e, lkG_none (l := t)]; simp [e]
theorem lkG_up {k j : κ} {v : β} : ∀ {l : List (κ × β)}, lkG (upG l k v) j = if j = k then some v else lkG l j
  | [] => rfl
  | p :: t => by
    simp only [upG]
    by_cases e : k = p.1
    · rw [if_pos e]
      simp only [lkG, ← e]
      by_cases e2 : j = k
      · rw [if_pos e2, if_pos e2]
      · rw [if_neg e2, if_neg e2, if_neg e2]
    · rw [if_neg e]
      simp only [lkG]
      by_cases e2 : j = p.1
      · rw [if_pos e2, if_neg (fun q => e (q.symm.trans e2)), if_pos e2]
      · rw [if_neg e2, lkG_up (l := t), if_neg e2]
theorem lkG_dl {k j : κ} : ∀ {l : List (κ × β)}, (l.map fun p => p.1).Nodup → lkG (dlG l k) j = if j = k then none else lkG l j
  | [], _ => by simp [dlG, lkG]
  | p :: t, hn => by
    simp only [List.map_cons, List.nodup_cons] at hn
    simp only [dlG]
    by_cases e : k = p.1
    · rw [if_pos e]
      simp only [lkG, ← e]
      by_cases e2 : j = k
      · rw [if_pos e2, lkG_none, e2, e]; exact hn.1
      · rw [if_neg e2, if_neg e2]
    · rw [if_neg e]
      simp only [lkG]
      by_cases e2 : j = p.1
      · rw [if_pos e2, if_neg (fun q => e (q.symm.trans e2)), if_pos e2]
      · rw [if_neg e2, lkG_dl hn.2, if_neg e2]
theorem upG_nodup {k : κ} {v : β} : ∀ {l : List (κ × β)}, (l.map fun p => p.1).Nodup → ((upG l k v).map fun p => p.1).Nodup
  | l, hn => by
    cases h : lkG l k with
    | some u => rw [upG_keys h]; exact hn
    | none =>
      rw [upG_none h, List.map_append, List.nodup_append]
      refine ⟨hn, by simp, fun a ha b hb => ?_⟩
      rw [lkG_none] at h
      simp only [List.map_cons, List.map_nil, List.mem_singleton] at hb
      subst hb
      exact fun q => h (by rw [← q]; exact ha)
theorem dlG_nodup {k : κ} {l : List (κ × β)} (hn : (l.map fun p => p.1).Nodup) : ((dlG l k).map fun p => p.1).Nodup := hn.sublist (dlG_sub.map _)
end


section
variable {κ β : Type} [DecidableEq κ]
theorem upG_same {k : κ} {u : β} : ∀ {l : List (κ × β)}, lkG l k = some u → upG l k u = l
  | [], h => by cases h
  | p :: t, h => by
    simp only [lkG] at h
    simp only [upG]
    by_cases e : k = p.1
    · rw [if_pos e] at h ⊢
      cases h; subst e; rfl
    · rw [if_neg e] at h ⊢
      rw [upG_same h]
theorem dlG_none {k : κ} : ∀ {l : List (κ × β)}, lkG l k = none → dlG l k = l
  | [], _ => rfl
  | p :: t, h => by
    simp only [lkG] at h
    simp only [dlG]
    by_cases e : k = p.1
    · rw [if_pos e] at h; cases h
    · rw [if_neg e] at h ⊢
      rw [dlG_none h]
theorem dlG_up {k : κ} {v : β} : ∀ {l : List (κ × β)}, (l.map fun p => p.1).Nodup → dlG (upG l k v) k = dlG l k
  | [], _ => by simp [upG, dlG]
  | p :: t, hn => by
    simp only [List.map_cons, List.nodup_cons] at hn
    simp only [upG]
    by_cases e : k = p.1
    · rw [if_pos e]; simp only [dlG, if_true, if_pos e]
    · rw [if_neg e]; simp only [dlG, if_neg e]; rw [dlG_up hn.2]
theorem dlG_len {k : κ} {u : β} : ∀ {l : List (κ × β)}, lkG l k = some u → (dlG l k).length + 1 = l.length
  | [], h => by cases h
  | p :: t, h => by
    simp only [lkG] at h
    simp only [dlG]
    by_cases e : k = p.1
    · rw [if_pos e]; rfl
    · rw [if_neg e] at h ⊢
      simp only [List.length_cons]
      rw [dlG_len h]
theorem upG_length {k : κ} {u v : β} {l : List (κ × β)} (h : lkG l k = some u) : (upG l k v).length = l.length := by
  have := congrArg List.length (upG_keys (v := v) h)
  simpa using this
theorem upG_up {k : κ} {u v : β} : ∀ {l : List (κ × β)}, upG (upG l k u) k v = upG l k v
  | [] => by simp [upG]
  | p :: t => by
    simp only [upG]
    by_cases e : k = p.1
    · rw [if_pos e, if_pos e]; simp [upG]
    · rw [if_neg e, if_neg e]
      simp only [upG, if_neg e]
      rw [upG_up]
theorem dlG_filter {k : κ} : ∀ {l : List (κ × β)}, (l.map fun p => p.1).Nodup → dlG l k = l.filter fun p => !decide (p.1 = k)
  | [], _ => rfl
  | p :: t, hn => by
    simp only [List.map_cons, List.nodup_cons] at hn
    simp only [dlG]
    by_cases e : k = p.1
    · rw [if_pos e, List.filter_cons_of_neg (by simp [e])]
      rw [List.filter_eq_self.2]
      intro q hq
      have : q.1 ≠ k := fun e' => hn.1 (by rw [← e, ← e']; exact List.mem_map.2 ⟨q, hq, rfl⟩)
      simp [this]
    · rw [if_neg e, List.filter_cons_of_pos (by simp; exact fun e' => e e'.symm), dlG_filter hn.2]
theorem mem_dlG {k j : κ} {u : β} {l : List (κ × β)} (hn : (l.map fun p => p.1).Nodup) : (j, u) ∈ dlG l k ↔ (j, u) ∈ l ∧ j ≠ k := by
  rw [dlG_filter hn, List.mem_filter]
  simp
theorem lkG_iff {k : κ} {u : β} {l : List (κ × β)} (hn : (l.map fun p => p.1).Nodup) : lkG l k = some u ↔ (k, u) ∈ l := ⟨lkG_mem, lkG_of_mem hn⟩
omit [DecidableEq κ] in
theorem mp_keys {γ : Type} (f : β → γ) (l : List (κ × β)) : (mp f l).map (fun p => p.1) = l.map fun p => p.1 := by simp [mp, List.map_map, Function.comp_def]
end
end Go.Proofs.Ytbamgdknkhhikaa
