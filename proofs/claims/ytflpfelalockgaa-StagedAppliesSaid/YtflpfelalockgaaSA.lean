/-
  StagedApplies, walked.
-/
import Derived.Test.YtflpfelalockgaaS8
namespace Go.Proofs.Ytflpfelalockgaa
open Go.Ab
set_option linter.unusedSimpArgs false
set_option linter.unusedVariables false

/-! ### Truth values in a row -/
def encT (l : List Bool) : List (List AV) := l.map fun b => [AV.bool b]
def Arr (h : AHeap) (id : Nat) (v : AV) (l : List Bool) : Prop :=
  ∃ r cap ex, v = .slc id r.g 0 l.length cap ex ∧ h.row id = some r ∧ r.rw = true ∧ r.m ≤ r.g ∧ r.sz = 1 ∧ r.es = encT l ∧ l.length ≤ cap

section
variable {h h' : AHeap} {id : Nat} {v : AV} {l : List Bool}
theorem encT_len (l : List Bool) : (encT l).length = l.length := by simp [encT]
theorem encT_at {i : Nat} {b : Bool} (hi : l[i]? = some b) : (encT l)[i]? = some [AV.bool b] := by simp only [encT, List.getElem?_map, hi, Option.map]
theorem Arr.view (A : Arr h id v l) : View h 1 v (encT l) := by
  obtain ⟨r, cap, ex, rfl, h2, h3, h4, h5, h6, h7⟩ := A
  exact .inr ⟨id, r.g, 0, cap, ex, r, by rw [encT_len], h2, h4, h5, by rw [List.drop_zero, h6, List.take_of_length_le (Nat.le_refl _)], by rw [encT_len]; exact h7⟩
theorem Arr.fr {X : Nat → Prop} (A : Arr h id v l) (F : Fr X h h') (n : ¬ X id) : Arr h' id v l := by
  obtain ⟨r, cap, ex, h1, h2, h3⟩ := A
  exact ⟨r, cap, ex, h1, F.row n h2, h3⟩
theorem Arr.lt (A : Arr h id v l) (o : h.Ok) : id < h.sz := by
  obtain ⟨r, cap, ex, h1, h2, h3⟩ := A
  exact o.lt (AHeap.row_some.1 h2)
theorem Arr.read (A : Arr h id v l) {i : Nat} {b : Bool} (hi : l[i]? = some b) : ∃ p, ∀ h', Ext h h' → iadrA h' 1 v (.int .i64 (i : Int)) = some p ∧ loadA h' false 1 p = some (.bool b) := by
  obtain ⟨id', g, j, q⟩ := View.atE A.view (encT_at hi)
  exact ⟨_, fun h' e => ⟨(q h' e).1 _, (q h' e).2 false 0 1⟩⟩
theorem Arr.set (A : Arr h id v l) {i : Nat} (hi : i < l.length) (b : Bool) : ∃ p h', iadrA h 1 v (.int .i64 (i : Int)) = some p ∧ storeA h 1 p (.bool b) = some h' ∧ Arr h' id v (l.set i b) ∧ But id h h' ∧ (h.Ok → h'.Ok) := by
  obtain ⟨r, cap, ex, rfl, w3, w4, w5, w6, w7, w8⟩ := A
  refine ⟨.ptr id r.g i 0, h.put id (.row { r with es := encT (l.set i b), m := r.g }), ?_, ?_, ⟨_, cap, ex, by rw [List.length_set], AHeap.row_some.2 (get_put_same _ _ _), w4, Nat.le_refl _, w6, rfl, by rw [List.length_set]; exact w8⟩, But.put _ _ _, fun o => o.put (o.lt (AHeap.row_some.1 w3)) _⟩
  · have : rowSz h id 1 = true := by simp only [rowSz, w3, nbeq_true]; exact w6
    simp only [iadrA, asNat_nat, nblt_true.2 hi, this, Bool.and_self, cond_true, Nat.zero_add]
  · have hn : nth r.es i = some [.bool l[i]] := by rw [nth_eq, w7]; exact encT_at (List.getElem?_eq_getElem hi)
    simp only [storeA, w3, w4, Nat.beq_refl, AV.cells, Bool.and_self, cond_true, hn, List.length_cons, List.length_nil, Nat.zero_add, allLeaf, AV.leaf]
    have e1 : setNth r.es i (lay [AV.bool l[i]] 0 [AV.bool b]) = encT (l.set i b) := by
      rw [setNth_eq, w7]
      simp only [encT, List.map_set]; rfl
    rw [e1]; rfl
end

/-! ### Which of some texts -/
def ixL (k : Str) : List Str → Option Nat
  | [] => none
  | p :: t => if p = k then some 0 else (ixL k t).map (· + 1)
theorem ixL_step {k : Str} {b : List Str} {i : Nat} {p : Str} (hp : b[i]? = some p) : (ixL k (b.drop i)).map (· + i) = if p = k then some i else (ixL k (b.drop (i + 1))).map (· + (i + 1)) := by
  obtain ⟨hlt, hp'⟩ := List.getElem?_eq_some_iff.1 hp
  rw [List.drop_eq_getElem_cons hlt, hp']
  simp only [ixL]
  by_cases e : p = k
  · rw [if_pos e, if_pos e]; simp
  · rw [if_neg e, if_neg e, Option.map_map]
    congr 1; funext x; simp only [Function.comp_apply]; omega

theorem c10 {n : Nat} {h : AHeap} {x : AV} {ks : List Str} {key : Str} {K : Kont} (V : View h 1 x (enc1 ks)) (hb : ks.length < lim) (hn : ks.length < n) (k : K (.int .i64 (fin1 (ixL key ks))) h = true) : callN E (n + 1) (.func 10) [x, .str key] h K = true := by
  apply d10
  unfold s10
  suffices H : ∀ m i, i ≤ ks.length → ks.length - i < m → K (.int .i64 (fin1 ((ixL key (ks.drop i)).map (· + i)))) h = true → l10_6 (callN E n) n m x (.str key) (.int .i64 (i : Int)) h K = true from
    H n 0 (Nat.zero_le _) (by omega) (by rw [List.drop_zero]; simpa using k)
  intro m
  induction m with
  | zero => intro i _ hm; omega
  | succ m ih =>
    intro i hi hm k
    unfold l10_6 b10_6
    rw [o_of V.len, enc1_len, o_lss]
    by_cases hlt : i < ks.length
    · rw [condB_t (decide_eq_true (by omega))]
      have hki := List.getElem?_eq_getElem hlt
      generalize ks[i] = p at hki
      obtain ⟨q, q1, q2⟩ := view_read V hki
      rw [o_of q1, o_of q2, o_of (binA_seql _ _)]
      rw [ixL_step hki] at k
      by_cases e : p = key
      · rw [condB_t (decide_eq_true e)]
        rw [if_pos e] at k
        exact k
      · rw [condB_f (decide_eq_false e), o_of (inc64 (show i < lim by omega))]
        rw [if_neg e] at k
        exact ih (i + 1) (by omega) (by omega) k
    · rw [condB_f (decide_eq_false (by omega))]
      rw [List.drop_of_length_le (by omega)] at k
      exact k

/-! ### In plain Lean -/
def ks5 : List Str := [[97], [98], [99], [100], [101]]
def T5 : List Bool := [true, false, true, false, true]
theorem ix5 {i : Nat} {k : Str} (h : ks5[i]? = some k) : ixL k ks5 = some i := by
  have hi : i < 5 := (List.getElem?_eq_some_iff.1 h).1
  have : i = 0 ∨ i = 1 ∨ i = 2 ∨ i = 3 ∨ i = 4 := by omega
  rcases this with rfl | rfl | rfl | rfl | rfl <;> (cases h; rfl)
theorem ks5_inj {i j : Nat} {k : Str} (h : ks5[i]? = some k) (g : ks5[j]? = some k) : i = j := by
  have := ix5 h
  rw [ix5 g] at this
  exact (Option.some.inj this).symm

/-- What a change, what was there, and what is there now have to do with one another. -/
def Rl (kd : Nat) (t nw : Bool) : Prop := (kd = 0 ∧ nw = t) ∨ (kd = 1 ∧ t = false ∧ nw = true) ∨ (kd = 2 ∧ t = true ∧ nw = true) ∨ (kd = 3 ∧ t = true ∧ nw = false)
def fits (d : Nat) (nw : Bool) : Prop := (d = 1 ∧ nw = false) ∨ (d ≠ 1 ∧ nw = true)
theorem Rl.step {kd d : Nat} {t nw : Bool} (r : Rl kd t nw) (f : fits d nw) (h1 : 1 ≤ d) (h2 : d ≤ 3) : ∃ j, bec kd d = some j ∧ Rl j t (!decide (d = 3)) := by
  have hd : d = 1 ∨ d = 2 ∨ d = 3 := by omega
  rcases r with ⟨rfl, rfl⟩ | ⟨rfl, rfl, rfl⟩ | ⟨rfl, rfl, rfl⟩ | ⟨rfl, rfl, rfl⟩ <;> rcases hd with rfl | rfl | rfl <;> rcases f with ⟨f1, f2⟩ | ⟨f1, f2⟩ <;> first | (cases f1; done) | (cases f2; done) | exact absurd rfl f1 | (subst f2; exact ⟨_, rfl, by simp [Rl]⟩) | exact ⟨_, rfl, by simp [Rl]⟩

structure Ivt (b : Bk) (N : List Bool) : Prop where
  len : N.length = 5
  keys : ∀ x ∈ b, ∃ i : Nat, ks5[i]? = some x.1
  rel : ∀ (i : Nat) key t nw, ks5[i]? = some key → T5[i]? = some t → N[i]? = some nw → Rl (kindB b key) t nw

theorem Ivt.step {b : Bk} {N : List Bool} (I : Ivt b N) (hb : nd b) {k d : Nat} {key : Str} {nw : Bool} (hk : ks5[k]? = some key) (hw : N[k]? = some nw) (f : fits d nw) (h1 : 1 ≤ d) (h2 : d ≤ 3) : (doR b key d).1 = 0 ∧ Ivt (doR b key d).2 (N.set k (!decide (d = 3))) := by
  have hk5 : k < 5 := (List.getElem?_eq_some_iff.1 hk).1
  have hT := List.getElem?_eq_getElem (show k < T5.length from hk5)
  obtain ⟨j, e, r⟩ := (I.rel k key _ nw hk hT hw).step f h1 h2
  have hd : doR b key d = (0, putB b key j) := by unfold doR; rw [e]; rfl
  rw [hd]
  refine ⟨rfl, by rw [List.length_set]; exact I.len, fun x hx => ?_, fun i key' t nw' hi ht hn => ?_⟩
  · cases j with
    | zero => exact I.keys x (dlG_sub.subset hx)
    | succ j =>
      rcases upG_mem hx with rfl | hx
      · exact ⟨k, hk⟩
      · exact I.keys x hx
  · by_cases hik : i = k
    · subst hik
      rw [hk] at hi; cases hi
      rw [hT] at ht; cases ht
      rw [List.getElem?_set_self (by rw [I.len]; exact hk5)] at hn
      cases hn
      rw [kindB_same hb]
      exact r
    · rw [List.getElem?_set_ne (fun q => hik q.symm)] at hn
      have : key' ≠ key := fun q => hik (ks5_inj hi (by rw [q]; exact hk))
      rw [kindB_put hb this]
      exact I.rel i key' t nw' hi ht hn

def setAll (T : List Bool) (ks : List Str) (v : Bool) : List Bool := ks.foldl (fun T k => T.set ((ixL k ks5).getD 0) v) T
theorem setAll_len (v : Bool) : ∀ (ks : List Str) (T : List Bool), (setAll T ks v).length = T.length
  | [], T => rfl
  | k :: ks, T => by
    show (setAll (T.set _ v) ks v).length = _
    rw [setAll_len v ks, List.length_set]
theorem setAll_at (v : Bool) {i : Nat} {key : Str} (hi : ks5[i]? = some key) : ∀ (ks : List Str) (T : List Bool), T.length = 5 → (∀ k ∈ ks, ∃ j : Nat, ks5[j]? = some k) → (setAll T ks v)[i]? = if key ∈ ks then some v else T[i]?
  | [], T, _, _ => by simp [setAll]
  | k :: ks, T, hT, hk => by
    obtain ⟨j, hj⟩ := hk k List.mem_cons_self
    have hi5 : i < 5 := (List.getElem?_eq_some_iff.1 hi).1
    show (setAll (T.set ((ixL k ks5).getD 0) v) ks v)[i]? = _
    rw [ix5 hj]
    show (setAll (T.set j v) ks v)[i]? = _
    rw [setAll_at v hi ks (T.set j v) (by rw [List.length_set]; exact hT) fun k' h => hk k' (List.mem_cons_of_mem _ h)]
    by_cases hm : key ∈ ks
    · rw [if_pos hm, if_pos (List.mem_cons_of_mem _ hm)]
    · rw [if_neg hm]
      by_cases hkk : key = k
      · subst hkk
        have := ks5_inj hi hj
        subst this
        rw [if_pos List.mem_cons_self, List.getElem?_set_self (by omega)]
      · rw [if_neg (by simp [hkk, hm])]
        have : j ≠ i := fun q => hkk (by subst q; rw [hi] at hj; cases hj; rfl)
        rw [List.getElem?_set_ne this]

theorem kd_mem {b : Bk} (h : nd b) {k : Str} {d : Nat} (hd : 1 ≤ d) : k ∈ keysOf b d ↔ kindB b k = d := by
  have : k ∈ keysOf b d ↔ (k, d) ∈ b := by
    have : k ∈ keysOf b d ↔ (k, d) ∈ seqOf b d := by unfold seqOf; simp
    rw [this, mem_seqOf]; simp
  rw [this]
  constructor
  · intro hm
    unfold kindB
    rw [lkG_of_mem h hm]; rfl
  · intro hk
    unfold kindB at hk
    cases e : lkG b k with
    | none => rw [e] at hk; simp at hk; omega
    | some u =>
      rw [e] at hk
      simp at hk
      subst hk
      exact lkG_mem e
theorem Ivt.ins {b : Bk} {N : List Bool} (I : Ivt b N) (d : Nat) : ∀ k ∈ keysOf b d, ∃ j : Nat, ks5[j]? = some k := fun k hk => by
  obtain ⟨x, hx, rfl⟩ := List.mem_map.1 hk
  exact I.keys x (List.mem_filter.1 hx).1
/-- What was taken, applied. -/
theorem Ivt.fin {b : Bk} {N : List Bool} (I : Ivt b N) (hb : nd b) : setAll (setAll T5 (keysOf b 1) true) (keysOf b 3) false = N := by
  apply List.ext_getElem?
  intro i
  by_cases hi : i < 5
  · have hk : ks5[i]? = some (ks5[i]'hi) := List.getElem?_eq_getElem _
    generalize ks5[i]'hi = key at hk
    obtain ⟨t, hT⟩ : ∃ t, T5[i]? = some t := ⟨_, List.getElem?_eq_getElem (show i < T5.length from hi)⟩
    obtain ⟨nw, hN⟩ : ∃ nw, N[i]? = some nw := ⟨_, List.getElem?_eq_getElem (show i < N.length by rw [I.len]; exact hi)⟩
    rw [setAll_at _ hk _ _ (by rw [setAll_len]; rfl) (I.ins 3), setAll_at _ hk _ _ rfl (I.ins 1), hT, hN]
    have := I.rel i key t nw hk hT hN
    rcases this with ⟨h1, rfl⟩ | ⟨h1, rfl, rfl⟩ | ⟨h1, rfl, rfl⟩ | ⟨h1, rfl, rfl⟩
    · rw [if_neg (by rw [kd_mem hb (by decide), h1]; decide), if_neg (by rw [kd_mem hb (by decide), h1]; decide)]
    · rw [if_neg (by rw [kd_mem hb (by decide), h1]; decide), if_pos (by rw [kd_mem hb (by decide), h1])]
    · rw [if_neg (by rw [kd_mem hb (by decide), h1]; decide), if_neg (by rw [kd_mem hb (by decide), h1]; decide)]
    · rw [if_pos (by rw [kd_mem hb (by decide), h1])]
  · rw [List.getElem?_eq_none (by rw [setAll_len, setAll_len]; exact Nat.le_of_not_lt hi), List.getElem?_eq_none (by rw [I.len]; exact Nat.le_of_not_lt hi)]
theorem Ivt.upd {b : Bk} {N : List Bool} (I : Ivt b N) (hb : nd b) {k : Str} (hk : k ∈ keysOf b 2) : ∃ i : Nat, ks5[i]? = some k ∧ N[i]? = some true := by
  obtain ⟨i, hi⟩ := I.ins 2 k hk
  have hi5 : i < 5 := (List.getElem?_eq_some_iff.1 hi).1
  have hT := List.getElem?_eq_getElem (show i < T5.length from hi5)
  have hN := List.getElem?_eq_getElem (show i < N.length by rw [I.len]; exact hi5)
  refine ⟨i, hi, ?_⟩
  have := I.rel i k _ _ hi hT hN
  rw [(kd_mem hb (by decide)).1 hk] at this
  rw [hN]
  rcases this with ⟨h1, _⟩ | ⟨h1, _⟩ | ⟨h1, _, h2⟩ | ⟨h1, _⟩
  · cases h1
  · cases h1
  · rw [h2]
  · cases h1
end Go.Proofs.Ytflpfelalockgaa
