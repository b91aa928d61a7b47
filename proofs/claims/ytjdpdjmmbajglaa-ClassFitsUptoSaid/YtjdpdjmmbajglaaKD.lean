/-
  What the laws share: whether classes are few, whether texts are the same, a table known beforehand.
-/
import Derived.Test.YtjdpdjmmbajglaaKC
namespace Go.Proofs.Ytjdpdjmmbajglaa
open Go.Ab
set_option linter.unusedSimpArgs false
set_option linter.unusedVariables false

def load (l : List Cls) : Nat := (l.map fun c => 1 + c.fields.length).sum
def light (l : List Cls) : Bool := decide (load l ≤ 1500)

theorem load_append (a b : List Cls) : load (a ++ b) = load a + load b := by simp [load]
theorem load_take (l : List Cls) (i : Nat) : load (l.take i) ≤ load l := by
  have := load_append (l.take i) (l.drop i)
  rw [List.take_append_drop] at this; omega

theorem l8 {n : Nat} {h : AHeap} {v : AV} {l : List Cls} {K : Kont} (C : CV h v l) (hl : load l < lim) (hl2 : l.length < lim) (k : K (.bool (light l)) h = true) : ∀ (m i : Nat), i ≤ l.length → l.length - i < m →
    l8_8 (callN E n) n m v (.int .i64 (load (l.take i) : Int)) (.int .i64 (i : Int)) h K = true := by
  intro m
  induction m with
  | zero => intro i _ hm; omega
  | succ m ih =>
    intro i hi hm
    rw [l8_8_s]
    unfold b8_8
    rw [C.len, optB_some, binA_lss, optB_some]
    have ht := load_take l i
    have hlim : lim = 4611686018427387904 := rfl
    by_cases hlt : i < l.length
    · have hnx := take_next hlt
      have hs : load (l.take (i + 1)) = load (l.take i) + (1 + l[i].fields.length) := by
        rw [hnx, load_append]; simp [load]
      have ht1 := load_take l (i + 1)
      obtain ⟨id, g, j, f, p1, p2, p3, p4, p5, p6⟩ := C.at (List.getElem?_eq_getElem hlt)
      rw [condB_t (by simpa using hlt), inc64 (by omega), optB_some, p1, optB_some, fadrA_ptr, optB_some, Nat.zero_add, p5, optB_some, p6.len, optB_some, add64 (by rw [List.length_map]; omega) (by rw [List.length_map]; omega), optB_some, inc64 (by omega), optB_some]
      have := ih (i + 1) (by omega) (by omega)
      rw [hs] at this
      rw [List.length_map]
      have e : ((load (l.take i) + 1 : Nat) : Int) + (l[i].fields.length : Int) = ((load (l.take i) + (1 + l[i].fields.length) : Nat) : Int) := by omega
      rw [e]; exact this
    · rw [condB_f (by simpa using hlt)]
      unfold p8_19
      rw [binA_leq, optB_some]
      have he : l.take i = l := List.take_of_length_le (by omega)
      rw [he]
      have hd : decide ((load l : Int) ≤ 1500) = light l := by
        unfold light
        by_cases hh : load l ≤ 1500
        · rw [decide_eq_true hh, decide_eq_true (by omega)]
        · rw [decide_eq_false hh, decide_eq_false (by omega)]
      rw [hd]; exact k

theorem c8 {n : Nat} {h : AHeap} {v : AV} {l : List Cls} {K : Kont} (C : CV h v l) (hl : load l < lim) (hl2 : l.length < lim) (hn : l.length < n) (k : K (.bool (light l)) h = true) : callN E (n + 1) (.func 8) [v] h K = true := by
  apply d8
  unfold s8
  exact l8 C hl hl2 k n 0 (by omega) (by omega)

def one (w : Str) : List AV := [.str w]

theorem l21 {n : Nat} {h : AHeap} {a b : AV} {A B : List Str} {K : Kont} (VA : View h 1 a (A.map one)) (VB : View h 1 b (B.map one)) (hlen : A.length = B.length) (hl : A.length < lim) (k : K (.bool (decide (A = B))) h = true) : ∀ (m i : Nat), i ≤ A.length → A.length - i < m → A.take i = B.take i →
    l21_14 (callN E n) n m a b (.int .i64 (i : Int)) h K = true := by
  intro m
  induction m with
  | zero => intro i _ hm; omega
  | succ m ih =>
    intro i hi hm he
    rw [l21_14_s]
    unfold b21_14
    rw [VA.len, optB_some, List.length_map, binA_lss, optB_some]
    by_cases hlt : i < A.length
    · obtain ⟨i1, g1, j1, p1, p2⟩ := VA.at (i := i) (e := one A[i]) (by simp [hlt])
      obtain ⟨i2, g2, j2, q1, q2⟩ := VB.at (i := i) (e := one (B[i]'(by omega))) (by simp [hlen ▸ hlt])
      rw [condB_t (by simpa using hlt), p1, optB_some, p2, one, partA_false, nth_zero, optB_some, q1, optB_some, q2, one, partA_false, nth_zero, optB_some, binA_sneq, optB_some]
      by_cases hs : A[i] = B[i]'(by omega)
      · rw [condB_f (by simpa using hs), inc64 (by omega), optB_some]
        refine ih (i + 1) (by omega) (by omega) ?_
        rw [List.take_add_one, List.take_add_one, he, List.getElem?_eq_getElem hlt, List.getElem?_eq_getElem (hlen ▸ hlt), hs]
      · rw [condB_t (by simpa using hs)]
        have : ¬ A = B := by
          intro e; subst e; exact hs rfl
        rw [decide_eq_false this] at k; exact k
    · rw [condB_f (by simpa using hlt)]
      rw [List.take_of_length_le (by omega), List.take_of_length_le (by omega)] at he
      rw [decide_eq_true he] at k; exact k

theorem c21 {n : Nat} {h : AHeap} {a b : AV} {A B : List Str} {K : Kont} (VA : View h 1 a (A.map one)) (VB : View h 1 b (B.map one)) (hl : A.length < lim) (hn : A.length < n) (k : K (.bool (decide (A = B))) h = true) : callN E (n + 1) (.func 21) [a, b] h K = true := by
  apply d21
  unfold s21
  rw [VA.len, optB_some, VB.len, optB_some, binA_neq, optB_some, List.length_map, List.length_map]
  by_cases hlen : A.length = B.length
  · rw [condB_f (by simp; omega)]
    unfold p21_10
    exact l21 VA VB hlen hl k n 0 (by omega) (by omega) rfl
  · rw [condB_t (by simp; omega)]
    have : ¬ A = B := by intro e; subst e; exact hlen rfl
    rw [decide_eq_false this] at k; exact k

def tabAB : List Cls := [⟨[65], [], [⟨[120], 2, []⟩]⟩, ⟨[66], [65], [⟨[121], 3, []⟩]⟩]

theorem cls2_fill (a b c d : Str) (f g : AV) (hf : f.leaf = true) (hg : g.leaf = true) : fillRowV 3 (repl 2 [AV.str [], AV.str [], AV.nilSlc]) [(0, AV.agg [AV.str a, AV.str b, f]), (1, AV.agg [AV.str c, AV.str d, g])] = some [[AV.str a, AV.str b, f], [AV.str c, AV.str d, g]] := by
  have hc : (AV.agg [AV.str a, AV.str b, f]).cells = [AV.str a, AV.str b, f] := rfl
  have hd : (AV.agg [AV.str c, AV.str d, g]).cells = [AV.str c, AV.str d, g] := rfl
  have e := leaf3 (a := a) (b := b) hf
  have e2 := leaf3 (a := c) (b := d) hg
  simp only [fillRowV, e, hc, e2, hd]
  rw [hc] at e
  rw [hd] at e2
  simp only [e, e2]
  rfl

theorem c29 {n : Nat} {h : AHeap} {K : Kont} (ho : h.Ok) (k : ∀ h' v, Ext h h' → h'.Ok → CV h' v tabAB → K v h' = true) : callN E (n + 1) (.func 29) [] h K = true := by
  apply d29
  unfold s29
  have b1 : buildV [AV.str [], AV.int .i64 0, AV.str []] [(0, 1, AV.str [120]), (1, 1, AV.int .i64 2)] = some (.agg (encF ⟨[120], 2, []⟩)) := rfl
  have b2 : ∀ v, v.leaf = true → buildV [AV.str [], AV.str [], AV.nilSlc] [(0, 1, AV.str [65]), (2, 1, v)] = some (.agg [.str [65], .str [], v]) := fun v hv => by cases v <;> first | rfl | cases hv
  have b3 : buildV [AV.str [], AV.int .i64 0, AV.str []] [(0, 1, AV.str [121]), (1, 1, AV.int .i64 3)] = some (.agg (encF ⟨[121], 3, []⟩)) := rfl
  have b4 : ∀ v, v.leaf = true → buildV [AV.str [], AV.str [], AV.nilSlc] [(0, 1, AV.str [66]), (1, 1, AV.str [65]), (2, 1, v)] = some (.agg [.str [66], .str [65], v]) := fun v hv => by cases v <;> first | rfl | cases hv
  rw [b1, optB_some]
  obtain ⟨v2, f1, f2⟩ := bslice_view (h := h) (n := 1) (sz := 3) (z := [AV.str [], AV.int .i64 0, AV.str []]) (ps := [(0, AV.agg (encF ⟨[120], 2, []⟩))]) (es := [encF ⟨[120], 2, []⟩]) rfl (by decide) (by decide) rfl rfl rfl
  rw [f1, optP_some]
  have e1 := ext_newRow ho [encF ⟨[120], 2, []⟩] 3
  have o1 := ok_newRow ho [encF ⟨[120], 2, []⟩] 3
  generalize Ab.newRow h [encF ⟨[120], 2, []⟩] 3 = h1 at *
  rw [b2 _ f2.leaf, optB_some, b3, optB_some]
  obtain ⟨v5, g1, g2⟩ := bslice_view (h := h1) (n := 1) (sz := 3) (z := [AV.str [], AV.int .i64 0, AV.str []]) (ps := [(0, AV.agg (encF ⟨[121], 3, []⟩))]) (es := [encF ⟨[121], 3, []⟩]) rfl (by decide) (by decide) rfl rfl rfl
  rw [g1, optP_some]
  have e2 := ext_newRow o1 [encF ⟨[121], 3, []⟩] 3
  have o2 := ok_newRow o1 [encF ⟨[121], 3, []⟩] 3
  generalize Ab.newRow h1 [encF ⟨[121], 3, []⟩] 3 = h2 at *
  rw [b4 _ g2.leaf, optB_some]
  obtain ⟨v7, k1, k2⟩ := bslice_view (h := h2) (n := 2) (sz := 3) (z := [AV.str [], AV.str [], AV.nilSlc]) rfl (by decide) (by decide) rfl (cls2_fill [65] [] [66] [65] v2 v5 f2.leaf g2.leaf) rfl
  rw [k1, optP_some]
  have e3 := ext_newRow o2 [[AV.str [65], AV.str [], v2], [AV.str [66], AV.str [65], v5]] 3
  have o3 := ok_newRow o2 [[AV.str [65], AV.str [], v2], [AV.str [66], AV.str [65], v5]] 3
  exact k _ _ (e1.trans (e2.trans e3)) o3 ⟨_, k2, .cons ⟨v2, rfl, f2.ext (e2.trans e3)⟩ (.cons ⟨v5, rfl, g2.ext e3⟩ .nil)⟩

theorem tab_valid : valid tabAB = true := by decide
theorem tab_mask : maskOf tabAB [66] [[121]] = (2, 0) := by decide
theorem tab_subs : subsOf tabAB [65] = [[65], [66]] := by decide
theorem tab_is : ((chain tabAB [66]).any fun c => decide (c.name = [65])) = true := by decide
theorem tab_has : (idx [65] (names tabAB)).isSome = true := by decide
theorem tab_fields : (fieldsOf tabAB [66]).length = 2 := by decide

theorem ext01 {a b : AV} {k : AV → AV → Bool} : (optB (extA 0 (.tup [a, b])) fun x => optB (extA 1 (.tup [a, b])) fun y => k x y) = k a b := rfl
theorem new_ok {h : AHeap} {id : Nat} {k : AV → Bool} : (optB (binA .neq (.int .i64 0) (.int .i64 0)) fun v5 => optB (grdO (wantV v5 false) (some (.ptr id 0 0 0))) fun v6 => optB (grdO (wantV v5 false) (eqV h false .ptr v6 .nilPtr)) fun v7 => optB (pickV v5 (.bool true) v7) fun v8 => k v8) = k (.bool false) := rfl
theorem new_bad {h : AHeap} {k : AV → Bool} : (optB (binA .neq (.int .i64 10) (.int .i64 0)) fun v5 => optB (grdO (wantV v5 false) (some .nilPtr)) fun v6 => optB (grdO (wantV v5 false) (eqV h false .ptr v6 .nilPtr)) fun v7 => optB (pickV v5 (.bool true) v7) fun v8 => k v8) = k (.bool true) := rfl
theorem wk_a {k : AV → Bool} : (optB (binA .eql (.int .i64 0) (.int .i64 0)) fun v16 => optB (grdO (wantV v16 true) (some (.int .u64 2))) fun v17 => optB (grdO (wantV v16 true) (binA .eql v17 (.int .u64 2))) fun v18 => optB (pickV v16 v18 (.bool false)) fun v19 => optB (grdO (wantV v19 true) (some (.int .i64 0))) fun v20 => optB (grdO (wantV v19 true) (binA .eql v20 (.int .i64 0))) fun v21 => optB (pickV v19 v21 (.bool false)) fun v22 => k v22) = k (.bool true) := rfl
theorem and_t {call : CallFn} {f : AFn} {a b : AV} {h : AHeap} {k : AV → AHeap → Bool} : (optB (grdO (wantV (.bool true) true) (some a)) fun x => grdC (wantV (.bool true) true) (fun k => call f [x, b] h k) h fun v h => optB (pickV (.bool true) v (.bool false)) fun w => k w h) = call f [a, b] h (fun v h => k v h) := rfl
theorem and_t3 {call : CallFn} {f : AFn} {a b c : AV} {h : AHeap} {k : AV → AHeap → Bool} : (optB (grdO (wantV (.bool true) true) (some a)) fun x => grdC (wantV (.bool true) true) (fun k => call f [x, b, c] h k) h fun v h => optB (pickV (.bool true) v (.bool false)) fun w => k w h) = call f [a, b, c] h (fun v h => k v h) := rfl
theorem and_s {call : CallFn} {f : AFn} {a s : AV} {o : Option (AV × AHeap)} {h h' : AHeap} {k : AV → AHeap → Bool} (ho : o = some (s, h')) : (optB (grdO (wantV (.bool true) true) (some a)) fun x => optP (grdP (wantV (.bool true) true) o h) fun y h => grdC (wantV (.bool true) true) (fun k => call f [x, y] h k) h fun v h => optB (pickV (.bool true) v (.bool false)) fun w => k w h) = call f [a, s] h' (fun v h => k v h) := by subst ho; rfl

theorem c9 {n : Nat} {h : AHeap} {K : Kont} (ho : h.Ok) (hn : 5000 < n) (hL : n + 10 < lim) (k : ∀ h', Ext h h' → h'.Ok → K (.bool true) h' = true) : callN E (n + 7) (.func 9) [] h K = true := by
  apply d9
  unfold s9
  refine c29 ho ?_
  intro h1 v e1 o1 C1
  refine c11 o1 C1 ⟨hn, hL, ?_⟩ (fun hb => by rw [tab_valid] at hb; cases hb) ?_
  · intro c hc
    simp only [tabAB, List.mem_cons, List.not_mem_nil, or_false] at hc
    rcases hc with rfl | rfl <;> simp <;> omega
  intro _ G h2 t e2 o2 T
  obtain ⟨id, lv, mid, rfl, _⟩ := id T
  rw [ext01, new_ok, condB_false]
  obtain ⟨v9, f1, f2⟩ := bslice_view (h := h2) (n := 1) (sz := 1) (z := [AV.str []]) (ps := [(0, AV.str [121])]) (es := [[AV.str [121]]]) rfl (by decide) (by decide) rfl rfl rfl
  rw [f1, optP_some]
  have e3 := ext_newRow o2 [[AV.str [121]]] 1
  have o3 := ok_newRow o2 [[AV.str [121]]] 1
  generalize Ab.newRow h2 [[AV.str [121]]] 1 = h3 at *
  refine c18 (T.ext e3) G.asc o3 f2 (fs := [[121]]) (.cons rfl .nil) (by decide) (by simp <;> omega) (by simp [tabAB] <;> omega) (by rw [tab_fields]; decide) (by rw [tab_fields] <;> omega) ?_
  intro h4 e4 o4
  rw [tab_mask, ext01]
  have T4 := (T.ext e3).ext e4
  refine c20 T4 G.asc o4 (by simp [tabAB]) (by simp [tabAB] <;> omega) (fun hh => by cases hh) ?_
  intro i h5 v14 _ e5 o5 V14
  rw [ext01, wk_a]
  rw [tab_subs] at V14
  obtain ⟨v24, g1, g2⟩ := bslice_view (h := h5) (n := 2) (sz := 1) (z := [AV.str []]) (ps := [(0, AV.str [65]), (1, AV.str [66])]) (es := [[AV.str [65]], [AV.str [66]]]) rfl (by decide) (by decide) rfl rfl rfl
  rw [and_s g1]
  have e6 := ext_newRow o5 [[AV.str [65]], [AV.str [66]]] 1
  have o6 := ok_newRow o5 [[AV.str [65]], [AV.str [66]]] 1
  generalize Ab.newRow h5 [[AV.str [65]], [AV.str [66]]] 1 = h6 at *
  refine c21 (A := [[65], [66]]) (B := [[65], [66]]) (V14.ext e6) g2 (by decide) (by simp <;> omega) ?_
  rw [decide_eq_true rfl, and_t3]
  have T6 := (T4.ext e5).ext e6
  refine c14 T6 G.asc o6 (by simp [tabAB] <;> omega) ?_
  intro h7 e7 o7
  rw [tab_is, and_t]
  refine c19 (T6.ext e7) ?_
  rw [tab_has]
  exact k h7 (e1.trans (e2.trans (e3.trans (e4.trans (e5.trans (e6.trans e7)))))) o7
end Go.Proofs.Ytjdpdjmmbajglaa
