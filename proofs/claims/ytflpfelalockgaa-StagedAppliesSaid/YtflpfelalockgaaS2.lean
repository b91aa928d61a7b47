/-
  Lists of one's own: written, appended to; texts compared; the law's own book.
-/
import Derived.Test.YtflpfelalockgaaS1
namespace Go.Proofs.Ytflpfelalockgaa
open Go.Ab
set_option linter.unusedSimpArgs false
set_option linter.unusedVariables false

def inRow (v : AV) (j : Nat) : Prop := ∃ g s l c ex, v = .slc j g s l c ex

theorem inRow_nil {j : Nat} : ¬ inRow .nilSlc j := by rintro ⟨_, _, _, _, _, e⟩; cases e
theorem inRow_slc {i g s l c : Nat} {ex : Bool} {j : Nat} : inRow (.slc i g s l c ex) j ↔ i = j := ⟨fun ⟨_, _, _, _, _, e⟩ => by cases e; rfl, fun e => by subst e; exact ⟨_, _, _, _, _, rfl⟩⟩

theorem app_row {h h' : AHeap} {n bytes : Nat} {v x v' : AV} (e : appendA h n bytes v x = some (v', h')) {j : Nat} (i : inRow v' j) : inRow v j ∨ j = h.sz := by
  unfold appendA at e
  cases hn : Nat.beq n 0 with
  | true => rw [hn] at e; cases e
  | false =>
    rw [hn, cond_false] at e
    split at e
    · cases e
    · rename_i new hs
      unfold appendNew at e
      split at e
      · split at e
        · cases e; exact absurd i inRow_nil
        · cases hc : (Nat.ble (new.length * bytes) most && Nat.ble new.length most) with
          | true => rw [hc] at e; cases e; exact .inr (inRow_slc.1 i).symm
          | false => rw [hc] at e; cases e
      · split at e
        · cases e; obtain ⟨_, _, _, _, _, e⟩ := i; cases e
        · cases hc : (Nat.ble (new.length * bytes) most && Nat.ble new.length most) with
          | true => rw [hc] at e; cases e; exact .inr (inRow_slc.1 i).symm
          | false => rw [hc] at e; cases e
      · rename_i id g st len cap ex
        split at e
        · cases e; exact .inl i
        · split at e
          · cases e
          · rename_i r hr
            revert e
            cases (Nat.ble ((len + new.length) * bytes) most && Nat.ble (len + new.length) most && Nat.beq r.sz n) with
            | false => intro e; cases e
            | true =>
              cases Nat.ble (len + new.length) cap with
              | true =>
                cases (r.rw && Nat.beq g r.g) with
                | true => intro e; cases e; exact .inl (inRow_slc.2 (inRow_slc.1 i))
                | false => intro e; cases e
              | false =>
                cases ex with
                | true =>
                  simp only [cond_true, cond_false]
                  cases Nat.ble r.m g with
                  | false => intro e; cases e
                  | true =>
                    simp only [cond_true]
                    cases Nat.beq (List.take len (List.drop st r.es)).length len with
                    | true => intro e; cases e; exact .inr (inRow_slc.1 i).symm
                    | false => intro e; cases e
                | false =>
                  simp only [cond_true, cond_false]
                  cases (r.rw && Nat.beq g r.g && Nat.beq st 0) with
                  | false => intro e; cases e
                  | true =>
                    simp only [cond_true]
                    cases Nat.beq len r.es.length with
                    | true => intro e; cases e; exact .inl (inRow_slc.2 (inRow_slc.1 i))
                    | false => intro e; cases e; exact .inl (inRow_slc.2 (inRow_slc.1 i))
      · cases e

theorem ext_none {h : AHeap} : Ext AHeap.empty h := ⟨Nat.zero_le _, fun id o e => by cases e⟩
theorem ok_none : AHeap.empty.Ok := fun id _ => rfl

theorem own_app {h : AHeap} {n bytes : Nat} {v x : AV} {es new : List (List AV)} (O : Own 0 h n v es) (hn : 0 < n) (o : h.Ok) (hs : source h n x = some new) (h1 : (es.length + new.length) * bytes ≤ most) (h2 : es.length + new.length ≤ most) :
    ∃ v' h', appendA h n bytes v x = some (v', h') ∧ Own 0 h' n v' (es ++ new) ∧ h'.Ok ∧ Fr (inRow v) h h' ∧ (∀ j, inRow v' j → inRow v j ∨ h.sz ≤ j) := by
  obtain ⟨v', h', a1, a2, a3, a4, a5, a6, a7⟩ := O.app hn (Nat.zero_le _) o ok_none ext_none (Nat.le_refl _) hs h1 h2
  exact ⟨v', h', a1, a2, a3, ⟨a5, fun j o' nj g => a6 j o' g fun id g' s l c ex e q => nj ⟨g', s, l, c, ex, by rw [e, q]⟩⟩, fun j i => by rcases app_row a1 i with e | e; exact .inl e; exact .inr (by omega)⟩

theorem setNth_eq {α : Type} : ∀ (l : List α) (n : Nat) (y : α), setNth l n y = l.set n y
  | [], _, _ => rfl
  | x :: l, 0, y => rfl
  | x :: l, n + 1, y => by show x :: setNth l n y = x :: l.set n y; rw [setNth_eq l n y]

/-- A cell of an element, written. -/
theorem own_set {h : AHeap} {n i off : Nat} {v x : AV} {es : List (List AV)} {e : List AV} (O : Own 0 h n v es) (hi : es[i]? = some e) (ho : off < e.length) (hx : x.leaf = true) :
    ∃ id g, (∀ k, iadrA h n v (.int k (i : Int)) = some (.ptr id g i 0)) ∧ inRow v id ∧ ∃ h', storeA h 1 (.ptr id g i off) x = some h' ∧ Own 0 h' n v (es.set i (e.set off x)) ∧ But id h h' ∧ (h.Ok → h'.Ok) := by
  have hlt : i < es.length := (List.getElem?_eq_some_iff.1 hi).1
  rcases O with ⟨rfl, rfl⟩ | ⟨id, r, w1, rfl, w3, w4, w5, w6, w7⟩
  · simp at hi
  · have hc := cells_leaf hx
    refine ⟨id, r.g, fun k => ?_, ⟨_, _, _, _, _, rfl⟩, h.put id (.row { r with es := es.set i (e.set off x), m := r.g }), ?_, ?_, But.put _ _ _, fun o => o.put (o.lt (AHeap.row_some.1 w3)) _⟩
    · have : rowSz h id n = true := by simp only [rowSz, w3, nbeq_true]; exact w6
      simp only [iadrA, asNat_nat, nblt_true.2 hlt, this, Bool.and_self, cond_true, Nat.zero_add]
    · have hn : nth r.es i = some e := by rw [nth_eq, w7]; exact hi
      simp only [storeA, w3, w4, Nat.beq_refl, hc, Bool.and_self, cond_true, hn, List.length_cons, List.length_nil, Nat.zero_add, allLeaf, hx]
      rw [nble_true.2 (by omega), cond_true, setNth_eq, lay_one ho, w7]
    · exact .inr ⟨id, _, w1, by simp only [List.length_set], AHeap.row_some.2 (get_put_same _ _ _), w4, Nat.le_refl _, w6, rfl⟩

theorem own_fr {X : Nat → Prop} {h h' : AHeap} {n : Nat} {v : AV} {es : List (List AV)} (O : Own 0 h n v es) (f : Fr X h h') (d : ∀ j, inRow v j → ¬ X j) : Own 0 h' n v es := by
  rcases O with V | ⟨id, r, w1, w2, w3, w4, w5, w6, w7⟩
  · exact .inl V
  · exact .inr ⟨id, r, w1, w2, f.row (d id (by rw [w2]; exact ⟨_, _, _, _, _, rfl⟩)) w3, w4, w5, w6, w7⟩
theorem own_lt {h : AHeap} {n : Nat} {v : AV} {es : List (List AV)} (O : Own 0 h n v es) (o : h.Ok) {j : Nat} (i : inRow v j) : j < h.sz := by
  rcases O with ⟨rfl, _⟩ | ⟨id, r, w1, rfl, w3, _⟩
  · exact absurd i inRow_nil
  · rw [← inRow_slc.1 i]; exact o.lt (AHeap.row_some.1 w3)

/-! ### Lists of texts -/
def enc1 (l : List Str) : List (List AV) := l.map fun s => [AV.str s]
theorem enc1_at {l : List Str} {i : Nat} {s : Str} (h : l[i]? = some s) : (enc1 l)[i]? = some [AV.str s] := by simp only [enc1, List.getElem?_map, h, Option.map]
theorem enc1_len (l : List Str) : (enc1 l).length = l.length := by simp [enc1]

theorem view_read {h : AHeap} {v : AV} {l : List Str} (V : View h 1 v (enc1 l)) {i : Nat} {s : Str} (hi : l[i]? = some s) : ∃ p, iadrA h 1 v (.int .i64 (i : Int)) = some p ∧ loadA h false 1 p = some (.str s) := by
  obtain ⟨id, g, j, q⟩ := View.atE V (enc1_at hi)
  exact ⟨_, (q h (Ext.refl h)).1 _, (q h (Ext.refl h)).2 false 0 1⟩

theorem l21 {n : Nat} {h : AHeap} {x y : AV} {a b : List Str} {K : Kont} (V : View h 1 x (enc1 a)) (W : View h 1 y (enc1 b)) (hl : a.length = b.length) (hb : a.length < lim) (k : K (.bool (decide (a = b))) h = true) :
    ∀ m i, i ≤ a.length → a.length - i < m → a.take i = b.take i → l21_14 (callN E n) n m x y (.int .i64 (i : Int)) h K = true := by
  intro m
  induction m with
  | zero => intro i _ hm; omega
  | succ m ih =>
    intro i hi hm he
    unfold l21_14 b21_14
    rw [o_of V.len, o_lss, enc1_len]
    by_cases hlt : i < a.length
    · rw [condB_t (decide_eq_true (by omega))]
      obtain ⟨p, p1, p2⟩ := view_read V (List.getElem?_eq_getElem hlt)
      obtain ⟨q, q1, q2⟩   := view_read W (List.getElem?_eq_getElem (show i < b.length by omega))
      rw [o_of p1, o_of p2, o_of q1, o_of q2, o_of (binA_sneq _ _)]
      by_cases hq : a[i] = b[i]'(by omega)
      · rw [condB_f (by simp [hq]), o_of (inc64 (show i < lim by omega))]
        refine ih (i + 1) (by omega) (by omega) ?_
        rw [List.take_succ_eq_append_getElem hlt, List.take_succ_eq_append_getElem (show i < b.length by omega), he, hq]
      · rw [condB_t (by simp [hq])]
        rw [decide_eq_false (fun e => hq (by subst e; rfl))] at k
        exact k
    · rw [condB_f (decide_eq_false (by omega))]
      rw [List.take_of_length_le (by omega), List.take_of_length_le (by omega)] at he
      rw [decide_eq_true he] at k
      exact k

theorem c21 {n : Nat} {h : AHeap} {x y : AV} {a b : List Str} {K : Kont} (V : View h 1 x (enc1 a)) (W : View h 1 y (enc1 b)) (hb : a.length < lim) (hn : a.length < n) (k : K (.bool (decide (a = b))) h = true) : callN E (n + 1) (.func 21) [x, y] h K = true := by
  apply d21
  unfold s21
  rw [o_of V.len, o_of W.len, o_of (binA_neq _ _ _), enc1_len, enc1_len]
  by_cases hl : a.length = b.length
  · rw [condB_f (by simp [hl])]
    exact l21 V W hl hb k n 0 (Nat.zero_le _) (by omega) rfl
  · rw [condB_t (by simp; omega)]
    rw [decide_eq_false (fun e => hl (by rw [e]))] at k
    exact k



theorem c27 {n : Nat} {h0 : AHeap} {x : AV} {l : List Str} {K : Kont} (O0 : Own 0 h0 1 x (enc1 l)) (o0 : h0.Ok) (hl : l.length < 1000000) (hn : l.length < n) (k : ∀ h', Fr (inRow x) h0 h' → h'.Ok → K (.tup []) h' = true) : callN E (n + 1) (.func 27) [x] h0 K = true := by
  have hlim : lim = 4611686018427387904 := rfl
  have hm : most = 1099511627776 := rfl
  apply d27
  unfold s27
  suffices H : ∀ m i h es, Own 0 h 1 x es → es.length = l.length → (∀ e ∈ es, e.length = 1) → Fr (inRow x) h0 h → h.Ok → i ≤ l.length → l.length - i < m → l27_4 (callN E n) n m x (.int .i64 (i : Int)) h K = true from
    H n 0 h0 _ O0 (enc1_len l) (fun e he => by obtain ⟨s, _, rfl⟩ := List.mem_map.1 he; rfl) (Fr.refl _ _) o0 (Nat.zero_le _) (by omega)
  intro m
  induction m with
  | zero => intro i h es _ _ _ _ _ _ hm; omega
  | succ m ih =>
    intro i h es O he h1 f o hi hmm
    unfold l27_4 b27_4
    rw [o_of O.view.len, o_lss, he]
    by_cases hlt : i < l.length
    · rw [condB_t (decide_eq_true (by omega))]
      have hei := List.getElem?_eq_getElem (show i < es.length by omega)
      obtain ⟨id, g, q1, q2, h2, q3, q4, q5, q6⟩ := own_set (x := .str [111, 118, 101, 114]) (off := 0) O hei (by rw [h1 _ (List.getElem_mem _)]; omega) rfl
      rw [o_of (q1 _), u_of q3, o_of (inc64 (show i < lim by omega))]
      refine ih (i + 1) h2 _ q4 (by rw [List.length_set]; exact he) (fun e hh => ?_) (f.trans (Fr.of_but q2 q5)) (q6 o) (by omega) (by omega)
      rcases List.mem_or_eq_of_mem_set hh with hh | hh
      · exact h1 e hh
      · rw [hh, List.length_set, h1 _ (List.getElem_mem _)]
    · rw [condB_f (decide_eq_false (by omega))]
      unfold p27_15
      obtain ⟨w, b1, b2⟩ := bslice_view (h := h) (n := 1) (sz := 1) (z := [AV.str []]) (ps := [(0, .str [98, 101, 121, 111, 110, 100])]) (es := [[.str [98, 101, 121, 111, 110, 100]]]) rfl (by decide) (by decide) rfl rfl rfl
      rw [p_of b1]
      have e2 := ext_newRow o [[AV.str [98, 101, 121, 111, 110, 100]]] 1
      have o2 := ok_newRow o [[AV.str [98, 101, 121, 111, 110, 100]]] 1
      have O2 := O.ext e2
      generalize Ab.newRow h [[AV.str [98, 101, 121, 111, 110, 100]]] 1 = h2 at *
      obtain ⟨v', h3, a1, a2, a3, a4, a5⟩ := own_app (bytes := 16) O2 (by decide) o2 b2.src (by simp; omega) (by simp; omega)
      rw [p_of a1]
      rw [o_of (show lenA h3 1 x = some (.int .i64 (es.length : Int)) from (show lenA h3 1 x = lenA h 1 x by cases x <;> rfl).trans O.view.len)]
      have hei : (es ++ [[AV.str [98, 101, 121, 111, 110, 100]]])[es.length]? = some [AV.str [98, 101, 121, 111, 110, 100]] := by simp
      obtain ⟨id, g, q1, q2, h4, q3, q4, q5, q6⟩ := own_set (x := .str [111, 118, 101, 114]) (off := 0) a2 hei (by decide) rfl
      rw [o_of (q1 _), u_of q3]
      refine k h4 ?_ (q6 a3)
      have F1 : Fr (fun j => inRow x j ∨ h.sz ≤ j) h h4 := ((Fr.of_ext e2).trans (a4.mono fun j e => .inl e)).trans (Fr.of_but (by
        rcases a5 id q2 with e | e
        · exact .inl e
        · exact .inr (Nat.le_trans e2.1 e)) q5)
      exact f.trans (Fr.new (Fr.refl _ h) F1 o)

/-! ### The book -/
def encK (b : Bk) : List (List AV) := b.map fun x => [AV.str x.1, .int .i64 (x.2 : Int)]
theorem encK_at {b : Bk} {i : Nat} {x : Str × Nat} (h : b[i]? = some x) : (encK b)[i]? = some [AV.str x.1, .int .i64 (x.2 : Int)] := by simp only [encK, List.getElem?_map, h, Option.map]
theorem encK_len (b : Bk) : (encK b).length = b.length := by simp [encK]

structure BookO (h : AHeap) (q : Nat) (v : AV) (b : Bk) : Prop where
  var : Var h q [v]
  own : Own 0 h 2 v (encK b)
  ne : ¬ inRow v q

theorem BookO.fr {X : Nat → Prop} {h h' : AHeap} {q : Nat} {v : AV} {b : Bk} (B : BookO h q v b) (f : Fr X h h') (h1 : ¬ X q) (h2 : ∀ j, inRow v j → ¬ X j) : BookO h' q v b :=
  ⟨f.var B.var h1, own_fr B.own f h2, B.ne⟩
theorem BookO.ext {h h' : AHeap} {q : Nat} {v : AV} {b : Bk} (B : BookO h q v b) (e : Ext h h') : BookO h' q v b := B.fr (Fr.of_ext (X := fun _ => False) e) id fun _ _ => id

def ixB (k : Str) : Bk → Option Nat
  | [] => none
  | p :: t => if k = p.1 then some 0 else (ixB k t).map (· + 1)
def fin1 : Option Nat → Int
  | none => -1
  | some i => (i : Int)

theorem ixB_some {k : Str} : ∀ {b : Bk} {i : Nat}, ixB k b = some i → ∃ u, b[i]? = some (k, u) ∧ lkG b k = some u ∧ (∀ v, upG b k v = b.set i (k, v)) ∧ dlG b k = b.take i ++ b.drop (i + 1)
  | [], i, h => by cases h
  | p :: t, i, h => by
    simp only [ixB] at h
    by_cases e : k = p.1
    · rw [if_pos e] at h
      cases h
      refine ⟨p.2, by rw [e]; rfl, by simp only [lkG, if_pos e], fun v => by simp only [upG, if_pos e, List.set_cons_zero], by simp only [dlG, if_pos e, List.take_zero, List.nil_append, List.drop_succ_cons, List.drop_zero]⟩
    · rw [if_neg e] at h
      cases h' : ixB k t with
      | none => rw [h'] at h; cases h
      | some j =>
        rw [h'] at h
        cases h
        obtain ⟨u, i1, i2, i3, i4⟩ := ixB_some h'
        exact ⟨u, by simpa using i1, by simp only [lkG, if_neg e, i2], fun v => by simp only [upG, if_neg e, i3, List.set_cons_succ], by simp only [dlG, if_neg e, i4, List.take_succ_cons, List.drop_succ_cons, List.cons_append]⟩
theorem ixB_none {k : Str} : ∀ {b : Bk}, ixB k b = none → lkG b k = none
  | [], _ => rfl
  | p :: t, h => by
    simp only [ixB] at h
    by_cases e : k = p.1
    · rw [if_pos e] at h; cases h
    · rw [if_neg e] at h
      cases h' : ixB k t with
      | none => simp only [lkG, if_neg e, ixB_none h']
      | some j => rw [h'] at h; cases h
theorem ixB_step {k : Str} {b : Bk} {i : Nat} {p : Str × Nat} (hp : b[i]? = some p) : (ixB k (b.drop i)).map (· + i) = if k = p.1 then some i else (ixB k (b.drop (i + 1))).map (· + (i + 1)) := by
  obtain ⟨hlt, hp'⟩ := List.getElem?_eq_some_iff.1 hp
  rw [List.drop_eq_getElem_cons hlt, hp']
  simp only [ixB]
  by_cases e : k = p.1
  · rw [if_pos e, if_pos e]; simp
  · rw [if_neg e, if_neg e, Option.map_map]
    congr 1; funext x; simp only [Function.comp_apply]; omega

section
variable {n q : Nat} {h : AHeap} {v : AV} {b : Bk} {key : Str} {K : Kont}

theorem b0 (V : Var h q [v]) : loadA h false 1 (.ptr q 0 0 0) = some v := by rw [V.load]; rfl

theorem BookO.at (B : BookO h q v b) {i : Nat} {x : Str × Nat} (hi : b[i]? = some x) : ∃ id g j, iadrA h 2 v (.int .i64 (i : Int)) = some (.ptr id g j 0) ∧ loadA h false 1 (.ptr id g j 0) = some (.str x.1) ∧ loadA h false 1 (.ptr id g j 1) = some (.int .i64 (x.2 : Int)) := by
  obtain ⟨id, g, j, w⟩ := View.atE B.own.view (encK_at hi)
  exact ⟨id, g, j, (w h (Ext.refl h)).1 _, (w h (Ext.refl h)).2 false 0 1, (w h (Ext.refl h)).2 false 1 1⟩

theorem c24 (B : BookO h q v b) (hb : b.length < lim) (hn : b.length < n) (k : K (.int .i64 (fin1 (ixB key b))) h = true) : callN E (n + 1) (.func 24) [.ptr q 0 0 0, .str key] h K = true := by
  apply d24
  unfold s24
  suffices H : ∀ m i, i ≤ b.length → b.length - i < m → K (.int .i64 (fin1 ((ixB key (b.drop i)).map (· + i)))) h = true → l24_6 (callN E n) n m (.ptr q 0 0 0) (.str key) (.int .i64 (i : Int)) h K = true from
    H n 0 (Nat.zero_le _) (by omega) (by rw [List.drop_zero]; simpa using k)
  intro m
  induction m with
  | zero => intro i _ hm; omega
  | succ m ih =>
    intro i hi hm k
    unfold l24_6 b24_6
    rw [o_nilck, o_fadr0, o_of (b0 B.var), o_of B.own.view.len, encK_len, o_lss]
    by_cases hlt : i < b.length
    · rw [condB_t (decide_eq_true (by omega))]
      obtain ⟨id, g, j, p1, p2, p3⟩ := B.at (List.getElem?_eq_getElem hlt)
      rw [o_nilck, o_fadr0, o_of (b0 B.var), o_of p1, o_fadr0, o_of p2, o_of (binA_seql _ _)]
      rw [ixB_step (List.getElem?_eq_getElem hlt)] at k
      by_cases e : key = b[i].1
      · rw [condB_t (decide_eq_true e.symm)]
        rw [if_pos e] at k
        exact k
      · rw [condB_f (decide_eq_false (fun q => e q.symm)), o_of (inc64 (show i < lim by omega))]
        rw [if_neg e] at k
        exact ih (i + 1) (by omega) (by omega) k
    · rw [condB_f (decide_eq_false (by omega))]
      rw [List.drop_of_length_le (by omega)] at k
      exact k

theorem c14 (B : BookO h q v b) (hb : b.length < lim) (hn : b.length < n) (k : K (.int .i64 (kindB b key : Int)) h = true) : callN E (n + 2) (.func 14) [.ptr q 0 0 0, .str key] h K = true := by
  apply d14
  unfold s14
  refine c24 B hb hn ?_
  rw [o_lss]
  cases hx : ixB key b with
  | none =>
    rw [condB_t (decide_eq_true (by decide))]
    have : kindB b key = 0 := by unfold kindB; rw [ixB_none hx]; rfl
    rw [this] at k
    exact k
  | some i =>
    obtain ⟨u, i1, i2, _⟩ := ixB_some hx
    rw [condB_f (decide_eq_false (by simp only [fin1]; omega))]
    obtain ⟨id, g, j, p1, p2, p3⟩ := B.at i1
    have ef : ∀ k : AV → Bool, optB (fadrA 1 (.ptr id g j 0)) k = k (.ptr id g j 1) := fun k => rfl
    rw [o_nilck, o_fadr0, o_of (b0 B.var)]
    show (optB (iadrA h 2 v (.int .i64 (i : Int))) _) = true
    rw [o_of p1, ef, o_of p3]
    have : kindB b key = u := by unfold kindB; rw [i2]; rfl
    rw [this] at k
    exact k
end
end Go.Proofs.Ytflpfelalockgaa
