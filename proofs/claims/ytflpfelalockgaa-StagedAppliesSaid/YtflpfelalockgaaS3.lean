/-
  The book's 'do' and 'take'; the law's operations on sets.
-/
import Derived.Test.YtflpfelalockgaaS2
namespace Go.Proofs.Ytflpfelalockgaa
open Go.Ab
set_option linter.unusedSimpArgs false
set_option linter.unusedVariables false

theorem z10 (k : AV → Bool) : optB (binA .eql (.int .i64 ((1 : Nat) : Int)) (.int .i64 0)) k = k (.bool false) := rfl
theorem z11 (k : AV → Bool) : optB (binA .eql (.int .i64 ((1 : Nat) : Int)) (.int .i64 1)) k = k (.bool true) := rfl
theorem z12 (k : AV → Bool) : optB (binA .eql (.int .i64 ((1 : Nat) : Int)) (.int .i64 2)) k = k (.bool false) := rfl
theorem z13 (k : AV → Bool) : optB (binA .eql (.int .i64 ((1 : Nat) : Int)) (.int .i64 3)) k = k (.bool false) := rfl
theorem zn1 (k : AV → Bool) : optB (binA .neq (.int .i64 ((1 : Nat) : Int)) (.int .i64 3)) k = k (.bool true) := rfl
theorem z20 (k : AV → Bool) : optB (binA .eql (.int .i64 ((2 : Nat) : Int)) (.int .i64 0)) k = k (.bool false) := rfl
theorem z21 (k : AV → Bool) : optB (binA .eql (.int .i64 ((2 : Nat) : Int)) (.int .i64 1)) k = k (.bool false) := rfl
theorem z22 (k : AV → Bool) : optB (binA .eql (.int .i64 ((2 : Nat) : Int)) (.int .i64 2)) k = k (.bool true) := rfl
theorem z23 (k : AV → Bool) : optB (binA .eql (.int .i64 ((2 : Nat) : Int)) (.int .i64 3)) k = k (.bool false) := rfl
theorem zn2 (k : AV → Bool) : optB (binA .neq (.int .i64 ((2 : Nat) : Int)) (.int .i64 3)) k = k (.bool true) := rfl
theorem z30 (k : AV → Bool) : optB (binA .eql (.int .i64 ((3 : Nat) : Int)) (.int .i64 0)) k = k (.bool false) := rfl
theorem z31 (k : AV → Bool) : optB (binA .eql (.int .i64 ((3 : Nat) : Int)) (.int .i64 1)) k = k (.bool false) := rfl
theorem z32 (k : AV → Bool) : optB (binA .eql (.int .i64 ((3 : Nat) : Int)) (.int .i64 2)) k = k (.bool false) := rfl
theorem z33 (k : AV → Bool) : optB (binA .eql (.int .i64 ((3 : Nat) : Int)) (.int .i64 3)) k = k (.bool true) := rfl
theorem zn3 (k : AV → Bool) : optB (binA .neq (.int .i64 ((3 : Nat) : Int)) (.int .i64 3)) k = k (.bool false) := rfl

theorem upG_same {κ β : Type} [DecidableEq κ] {k : κ} {v : β} : ∀ {l : List (κ × β)}, lkG l k = some v → upG l k v = l
  | [], h => by cases h
  | p :: t, h => by
    simp only [lkG] at h
    simp only [upG]
    by_cases e : k = p.1
    · rw [if_pos e] at h ⊢
      cases h; rw [e]
    · rw [if_neg e] at h ⊢
      rw [upG_same h]

section
variable {n q d : Nat} {h : AHeap} {v : AV} {b : Bk} {key : Str} {K : Kont}

theorem book_set {i a : Nat} (j : Nat) (B : BookO h q v b) (hx : b[i]? = some (key, a)) (hu : upG b key j = b.set i (key, j)) : ∃ id g, iadrA h 2 v (.int .i64 (i : Int)) = some (.ptr id g i 0) ∧ ∃ h', storeA h 1 (.ptr id g i 1) (.int .i64 (j : Int)) = some h' ∧ BookO h' q v (upG b key j) ∧ Fr (fun j => j = q ∨ inRow v j) h h' ∧ (h.Ok → h'.Ok) := by
  obtain ⟨id, g, q1, q2, h', q3, q4, q5, q6⟩ := own_set (x := .int .i64 (j : Int)) (off := 1) B.own (encK_at hx) (show 1 < 2 by omega) rfl
  have f := Fr.of_but (X := fun j => inRow v j) q2 q5
  refine ⟨id, g, q1 _, h', q3, ⟨f.var B.var B.ne, ?_, B.ne⟩, f.mono fun j e => .inr e, q6⟩
  rw [hu]
  have : encK (b.set i (key, j)) = (encK b).set i ([AV.str key, .int .i64 (a : Int)].set 1 (.int .i64 (j : Int))) := by
    simp only [encK, List.map_set]; rfl
  rw [this]; exact q4

theorem c12 (B : BookO h q v b) (o : h.Ok) (hb : b.length < 1000000) (hn : b.length < n) (hk : ∀ x ∈ b, 1 ≤ x.2 ∧ x.2 ≤ 3) (hd1 : 1 ≤ d) (hd : d ≤ 3)
    (k : ∀ h' v', BookO h' q v' (doR b key d).2 → Fr (fun j => j = q ∨ inRow v j) h h' → h'.Ok → (∀ j, inRow v' j → inRow v j ∨ h.sz ≤ j) → K (.int .i64 ((doR b key d).1 : Int)) h' = true) : callN E (n + 3) (.func 12) [.ptr q 0 0 0, .int .i64 (d : Int), .str key] h K = true := by
  have hlim : lim = 4611686018427387904 := rfl
  have hm : most = 1099511627776 := rfl
  apply d12
  unfold s12
  refine c24 (n := n + 1) B (by omega) (by omega) ?_
  refine c14 B (by omega) hn ?_
  obtain ⟨a, ha⟩ : ∃ a, kindB b key = a := ⟨_, rfl⟩
  rw [ha]
  have hR : doR b key d = doA b key (bec a d) := by unfold doR; rw [ha]
  have bn := fun j (h : inRow v j) => own_lt B.own o h
  cases hx : ixB key b with
  | none =>
    have hl := ixB_none hx
    have ha0 : a = 0 := by rw [← ha]; unfold kindB; rw [hl]; rfl
    subst ha0
    rw [o_eql, condB_t (by decide), o_nilck, o_fadr0, o_of (b0 B.var)]
    rw [o_of (show buildV [AV.str [], AV.int .i64 0] [(0, 1, AV.str key), (1, 1, AV.int .i64 (d : Int))] = some (.agg [.str key, .int .i64 (d : Int)]) from rfl)]
    obtain ⟨w, b1, b2⟩ := bslice_view (h := h) (n := 1) (sz := 2) (z := [AV.str [], AV.int .i64 0]) (ps := [(0, .agg [.str key, .int .i64 (d : Int)])]) (es := [[.str key, .int .i64 (d : Int)]]) rfl (by decide) (by decide) rfl rfl rfl
    rw [p_of b1]
    have e1 := ext_newRow o [[AV.str key, .int .i64 (d : Int)]] 2
    have o1 := ok_newRow o [[AV.str key, .int .i64 (d : Int)]] 2
    have B1 := B.ext e1
    generalize Ab.newRow h [[AV.str key, .int .i64 (d : Int)]] 2 = h1 at *
    obtain ⟨v', h2, a1, a2, a3, a4, a5⟩ := own_app (bytes := 24) B1.own (by decide) o1 b2.src (by rw [encK_len]; simp; omega) (by rw [encK_len]; simp; omega)
    rw [p_of a1, o_nilck, o_fadr0]
    have V2 := a4.var B1.var B.ne
    have ql := B.var.lt o
    rw [u_of (V2.set1 (off := 0) (v := v') (show 0 < 1 by omega) a2.view.leaf)]
    have f3 := Fr.put (X := fun j => j = q) rfl h2 (.row (VRow ([v].set 0 v')))
    have o3 := a3.put (V2.lt a3) (.row (VRow ([v].set 0 v')))
    have V3 : Var (h2.put q (.row (VRow ([v].set 0 v')))) q [v'] := var_put q _
    have e2 : bec 0 d = some d := by
      have : d = 1 ∨ d = 2 ∨ d = 3 := by omega
      rcases this with rfl | rfl | rfl <;> rfl
    have e3 : doR b key d = (0, upG b key d) := by
      rw [hR, e2]
      obtain ⟨j, rfl⟩ : ∃ j, d = j + 1 := ⟨d - 1, by omega⟩
      rfl
    rw [e3, upG_none hl] at k
    have nq : ¬ inRow v' q := fun i => by
      rcases a5 q i with i | i
      · exact B.ne i
      · have := e1.1; omega
    have a5' : ∀ j, inRow v' j → inRow v j ∨ h.sz ≤ j := fun j i => by
      rcases a5 j i with i | i
      · exact .inl i
      · exact .inr (Nat.le_trans e1.1 i)
    refine k _ v' ⟨V3, own_fr ?_ f3 fun j i e => nq (by rw [← e]; exact i), nq⟩ ?_ o3 a5'
    · have : encK (b ++ [(key, d)]) = encK b ++ [[.str key, .int .i64 (d : Int)]] := by simp [encK]
      rw [this]; exact a2
    · exact ((Fr.of_ext e1).trans (a4.mono fun j i => .inr i)).trans (f3.mono fun j e => .inl e)
  | some i =>
    obtain ⟨u, i1, i2, i3, i4⟩ := ixB_some hx
    have hu : u = a := by rw [← ha]; unfold kindB; rw [i2]; rfl
    subst hu
    have hil : i < b.length := (List.getElem?_eq_some_iff.1 i1).1
    have hu3 := hk _ (List.mem_of_getElem? i1)
    have e33 : doR b key d = (33, b) → K (.int .i64 33) h = true := fun e => by
      rw [e] at k
      exact k h v B (Fr.refl _ _) o fun j i => .inl i
    have e00 : ∀ j, doR b key d = (0, upG b key j) → j = u → K (.int .i64 0) h = true := fun j e hj => by
      subst hj
      rw [e, upG_same i2] at k
      exact k h v B (Fr.refl _ _) o fun j i => .inl i
    have eset : ∀ j : Nat, doR b key d = (0, upG b key j) → (optB (nilckA (.ptr q 0 0 0)) fun v17 => optB (fadrA 0 v17) fun v18 => optB (loadA h false 1 v18) fun v19 => optB (iadrA h 2 v19 (.int .i64 (fin1 (some i)))) fun v20 => optB (fadrA 1 v20) fun v21 => optP (unit (storeA h 1 v21 (.int .i64 (j : Int)))) fun _ h => K (.int .i64 0) h) = true := fun j e => by
      obtain ⟨id, g, q1, h', q3, q4, q5, q6⟩ := book_set j B i1 (i3 j)
      rw [o_nilck, o_fadr0, o_of (b0 B.var)]
      show (optB (iadrA h 2 v (.int .i64 (i : Int))) _) = true
      have ef : ∀ k : AV → Bool, optB (fadrA 1 (.ptr id g i 0)) k = k (.ptr id g i 1) := fun k => rfl
      rw [o_of q1, ef, u_of q3]
      rw [e] at k
      exact k h' v q4 q5 (q6 o) fun j i => .inl i
    have e1 : u = 1 ∨ u = 2 ∨ u = 3 := by omega
    have e2 : d = 1 ∨ d = 2 ∨ d = 3 := by omega
    rcases e1 with rfl | rfl | rfl <;> rcases e2 with rfl | rfl | rfl <;> (repeat first | rw [o_some] | rw [g_tt] | rw [g_tf] | rw [g_ff] | rw [g_ft] | rw [k_t] | rw [k_f] | rw [condB_true] | rw [condB_false] | rw [z10] | rw [z11] | rw [z12] | rw [z13] | rw [z20] | rw [z21] | rw [z22] | rw [z23] | rw [z30] | rw [z31] | rw [z32] | rw [z33] | rw [zn1] | rw [zn2] | rw [zn3])
    · exact e33 hR
    · exact e00 1 hR rfl
    · have hR : doR b key 3 = (0, dlG b key) := hR
      rw [hR, i4] at k
      have LL := b0 B.var
      rw [o_nilck, o_fadr0, o_of LL]
      obtain ⟨x1, s1, s2⟩ := View.front B.own.view (j := .i64) (b := i) (by rw [encK_len]; omega)
      rw [o_of (show sliceV h 2 v none (some (.int .i64 (fin1 (some i)))) none = some x1 from s1)]
      obtain ⟨v1, h1, a1, a2, a3, a4, a5⟩ := own_app (bytes := 24) (Own.nil 0 h 2) (by decide) o s2.src (by simp [encK_len]; omega) (by simp [encK_len]; omega)
      rw [p_of a1]
      have B1 := B.fr a4 inRow_nil (fun j _ => inRow_nil)
      rw [o_nilck, o_fadr0, o_of (b0 B1.var)]
      rw [o_of (show binA .add (.int .i64 (fin1 (some i))) (.int .i64 1) = some (.int .i64 ((i + 1 : Nat) : Int)) from inc64 (show i < lim by omega))]
      obtain ⟨x2, t1, t2⟩ := View.back B1.own.view (k := .i64) (a := i + 1) (by rw [encK_len]; omega)
      rw [o_of t1]
      rw [List.nil_append] at a2
      obtain ⟨v2, h2, c1, c2, c3, c4, c5⟩ := own_app (bytes := 24) a2 (by decide) a3 t2.src (by simp [encK_len]; omega) (by simp [encK_len]; omega)
      rw [p_of c1, o_nilck, o_fadr0]
      have new1 : ∀ j, inRow v1 j → h.sz ≤ j := fun j i => by
        rcases a5 j i with i | i
        · exact absurd i inRow_nil
        · exact i
      have ql := B.var.lt o
      have q1 : ¬ inRow v1 q := fun i => by have := new1 q i; omega
      have V2 := c4.var B1.var q1
      rw [u_of (V2.set1 (off := 0) (v := v2) (show 0 < 1 by omega) c2.view.leaf)]
      have f3 := Fr.put (X := fun j => j = q) rfl h2 (.row (VRow ([v].set 0 v2)))
      have o3 := c3.put (V2.lt c3) (.row (VRow ([v].set 0 v2)))
      have V3 : Var (h2.put q (.row (VRow ([v].set 0 v2)))) q [v2] := var_put q _
      have new2 : ∀ j, inRow v2 j → h.sz ≤ j := fun j i => by
        rcases c5 j i with i | i
        · exact new1 j i
        · exact Nat.le_trans a4.sz i
      have q2 : ¬ inRow v2 q := fun i => by have := new2 q i; omega
      refine k _ v2 ⟨V3, own_fr ?_ f3 fun j i e => q2 (by rw [← e]; exact i), q2⟩ ?_ o3 fun j i => .inr (new2 j i)
      · have : encK (b.take i ++ b.drop (i + 1)) = (encK b).take i ++ (encK b).drop (i + 1) := by simp [encK]
        rw [this]; exact c2
      · refine Fr.new (a4.mono fun j i => absurd i inRow_nil) ?_ o
        exact (c4.mono fun j i => .inr (new1 j i)).trans (f3.mono fun j e => .inl (.inl e)) |>.mono fun j e => e
    · exact e33 hR
    · exact e00 2 hR rfl
    · exact eset 3 hR
    · exact eset 2 hR
    · exact e33 hR
    · exact e33 hR

/-! ### 'take' -/
theorem keys_cons (p : Str × Nat) (b : Bk) (d : Nat) : keysOf (p :: b) d = if p.2 = d then p.1 :: keysOf b d else keysOf b d := by
  unfold keysOf
  by_cases e : p.2 = d
  · rw [if_pos e, List.filter_cons_of_pos (by simp [e])]; rfl
  · rw [if_neg e, List.filter_cons_of_neg (by simp [e])]
theorem keys_len (b : Bk) (d : Nat) : (keysOf b d).length ≤ b.length := by
  unfold keysOf
  rw [List.length_map]; exact List.length_filter_le _ _

theorem c17 {h0 : AHeap} (B0 : BookO h0 q v b) (k0 : h0.Ok) (hb : b.length < 1000000) (hn : b.length < n) (k : ∀ u h', Ext h0 h' → h'.Ok → Own h0.sz h' 1 u (enc1 (keysOf b d)) → K u h' = true) :
    callN E (n + 1) (.func 17) [.ptr q 0 0 0, .int .i64 (d : Int)] h0 K = true := by
  have hlim : lim = 4611686018427387904 := rfl
  have hmo : most = 1099511627776 := rfl
  apply d17
  unfold s17
  suffices H : ∀ m i acc h x, Ext h0 h → h.Ok → Own h0.sz h 1 x (enc1 acc) → acc.length ≤ i → i ≤ b.length → b.length - i < m → acc ++ keysOf (b.drop i) d = keysOf b d → l17_8 (callN E n) n m (.ptr q 0 0 0) (.int .i64 (d : Int)) x (.int .i64 (i : Int)) h K = true from
    H n 0 [] h0 .nilSlc (Ext.refl _) k0 (Own.nil _ _ _) (Nat.le_refl _) (Nat.zero_le _) (by omega) rfl
  intro m
  induction m with
  | zero => intro i acc h x _ _ _ _ _ hm; omega
  | succ m ih =>
    intro i acc h x e o O ha hi hm hq
    unfold l17_8 b17_8
    have B := B0.ext e
    rw [o_nilck, o_fadr0, o_of (b0 B.var), o_of B.own.view.len, encK_len, o_lss]
    by_cases hlt : i < b.length
    · rw [condB_t (decide_eq_true (by omega))]
      have hp := List.getElem?_eq_getElem hlt
      generalize b[i] = p at hp
      obtain ⟨id, g, j, p1, p2, p3⟩ := B.at hp
      have ef : ∀ k : AV → Bool, optB (fadrA 1 (.ptr id g j 0)) k = k (.ptr id g j 1) := fun k => rfl
      rw [o_nilck, o_fadr0, o_of (b0 B.var), o_of p1, ef, o_of p3, o_eql]
      have hd : b.drop i = p :: b.drop (i + 1) := by
        obtain ⟨h1, h2⟩ := List.getElem?_eq_some_iff.1 hp
        rw [List.drop_eq_getElem_cons h1, h2]
      rw [hd, keys_cons] at hq
      by_cases hpd : p.2 = d
      · rw [condB_t (decide_eq_true (by omega)), o_nilck, o_fadr0, o_of (b0 B.var), o_of p1, o_fadr0, o_of p2]
        rw [if_pos hpd] at hq
        obtain ⟨w, b1, b2⟩ := bslice_view (h := h) (n := 1) (sz := 1) (z := [AV.str []]) (ps := [(0, .str p.1)]) (es := [[.str p.1]]) rfl (by decide) (by decide) rfl rfl rfl
        rw [p_of b1]
        have e1 := ext_newRow o [[AV.str p.1]] 1
        have o1 := ok_newRow o [[AV.str p.1]] 1
        have O1 := O.ext e1
        generalize Ab.newRow h [[AV.str p.1]] 1 = h1 at *
        obtain ⟨x', h2, a1, a2, a3, a4, a5, a6, a7⟩ := O1.app (bytes := 16) (by decide) (Nat.le_trans e.1 e1.1) o1 k0 (e.trans e1) (Nat.le_refl _) b2.src (by rw [enc1_len]; simp; omega) (by rw [enc1_len]; simp; omega)
        rw [p_of a1]
        unfold p17_22
        rw [o_of (inc64 (show i < lim by omega))]
        refine ih (i + 1) (acc ++ [p.1]) h2 x' a4 a3 ?_ (by simp; omega) (by omega) (by omega) (by rw [List.append_assoc]; exact hq)
        have : enc1 (acc ++ [p.1]) = enc1 acc ++ [[.str p.1]] := by simp [enc1]
        rw [this]; exact a2
      · rw [condB_f (decide_eq_false (by omega))]
        unfold p17_22
        rw [o_of (inc64 (show i < lim by omega))]
        rw [if_neg hpd] at hq
        exact ih (i + 1) acc h x e o O (by omega) (by omega) (by omega) hq
    · rw [condB_f (decide_eq_false (by omega))]
      rw [List.drop_of_length_le (by omega)] at hq
      have hq : acc = keysOf b d := by simpa [keysOf] using hq
      subst hq
      exact k x h e o O
end

/-! ### The law's operations -/
def kdO (z : Int) : Nat := if z = 1 then 1 else if z = 2 then 2 else 3
theorem kdO_le (z : Int) : 1 ≤ kdO z ∧ kdO z ≤ 3 := by unfold kdO; split; decide; split <;> decide

theorem c7 {n : Nat} {h : AHeap} {z : Int} {s : Str} {K : Kont} (o : h.Ok) (k : ∀ h', Ext h h' → h'.Ok → K (.int .i64 (kdO z : Int)) h' = true) : callN E (n + 1) (.func 7) [.agg [.int .i64 z, .str s]] h K = true := by
  apply d7
  unfold s7
  have A : boxA h 2 (.agg [.int .i64 z, .str s]) = some (.ptr h.sz 0 0 0, Ab.newRow h [[.int .i64 z, .str s]] 2) := box_eq (n := 2) rfl (by decide) rfl
  rw [p_of A]
  have e1 := ext_newRow o [[AV.int .i64 z, .str s]] 2
  have o1 := ok_newRow o [[AV.int .i64 z, .str s]] 2
  have V1 : Var (Ab.newRow h [[AV.int .i64 z, .str s]] 2) h.sz [.int .i64 z, .str s] := var_new h _
  generalize Ab.newRow h [[AV.int .i64 z, .str s]] 2 = h1 at *
  have L : loadA h1 false 1 (.ptr h.sz 0 0 0) = some (.int .i64 z) := by rw [V1.load]; rfl
  have k := k h1 e1 o1
  rw [o_fadr0, o_of L, o_eql]
  unfold kdO at k
  by_cases e : z = 1
  · rw [decide_eq_true e, g_tf, g_tf, g_tf, k_t, condB_true, o_fadr0, o_of L]
    rw [if_pos e] at k
    rw [e]; exact k
  · rw [decide_eq_false e, g_ff, o_fadr0, g_ff, o_of L, g_ff, o_eql, k_f]
    rw [if_neg e] at k
    by_cases e2 : z = 2
    · rw [condB_t (decide_eq_true e2), o_fadr0, o_of L]
      rw [if_pos e2] at k
      rw [e2]; exact k
    · rw [condB_f (decide_eq_false e2)]
      rw [if_neg e2] at k
      exact k

section
variable {n : Nat} {h : AHeap} {p m c d : Nat} {l : Ls} {key : Str} {K : Kont}
theorem c19 (S : SetO h p m c l) (o : h.Ok) (hc : c < 1000000) (kk : ∀ h' l' c', c' ≤ c + 1 → SetO h' p m c' l' → Fr (fun j => j = p ∨ j = m) h h' → h'.Ok → bk l' = (doR (bk l) key 1).2 → K (.int .i64 ((doR (bk l) key 1).1 : Int)) h' = true) :
    callN E (n + 3) (.func 19) [.ptr p 0 0 0, .str key] h K = true := by
  apply d19
  unfold s19
  exact c26 (d := 1) S o hc (by decide) (by decide) kk
theorem c22 (S : SetO h p m c l) (o : h.Ok) (hc : c < 1000000) (kk : ∀ h' l' c', c' ≤ c + 1 → SetO h' p m c' l' → Fr (fun j => j = p ∨ j = m) h h' → h'.Ok → bk l' = (doR (bk l) key 2).2 → K (.int .i64 ((doR (bk l) key 2).1 : Int)) h' = true) :
    callN E (n + 3) (.func 22) [.ptr p 0 0 0, .str key] h K = true := by
  apply d22
  unfold s22
  exact c26 (d := 2) S o hc (by decide) (by decide) kk
theorem c20 (S : SetO h p m c l) (o : h.Ok) (hc : c < 1000000) (kk : ∀ h' l' c', c' ≤ c + 1 → SetO h' p m c' l' → Fr (fun j => j = p ∨ j = m) h h' → h'.Ok → bk l' = (doR (bk l) key 3).2 → K (.int .i64 ((doR (bk l) key 3).1 : Int)) h' = true) :
    callN E (n + 3) (.func 20) [.ptr p 0 0 0, .str key] h K = true := by
  apply d20
  unfold s20
  exact c26 (d := 3) S o hc (by decide) (by decide) kk

theorem c8 {z : Int} (S : SetO h p m c l) (o : h.Ok) (hc : c < 1000000) (kk : ∀ h' l' c', c' ≤ c + 1 → SetO h' p m c' l' → Fr (fun j => j = p ∨ j = m) h h' → h'.Ok → bk l' = (doR (bk l) key (kdO z)).2 → K (.int .i64 ((doR (bk l) key (kdO z)).1 : Int)) h' = true) :
    callN E (n + 4) (.func 8) [.ptr p 0 0 0, .agg [.int .i64 z, .str key]] h K = true := by
  apply d8
  unfold s8
  have A : boxA h 2 (.agg [.int .i64 z, .str key]) = some (.ptr h.sz 0 0 0, Ab.newRow h [[.int .i64 z, .str key]] 2) := box_eq (n := 2) rfl (by decide) rfl
  rw [p_of A]
  have e1 := ext_newRow o [[AV.int .i64 z, .str key]] 2
  have o1 := ok_newRow o [[AV.int .i64 z, .str key]] 2
  have V1 : Var (Ab.newRow h [[AV.int .i64 z, .str key]] 2) h.sz [.int .i64 z, .str key] := var_new h _
  have S1 := S.ext e1
  have kk' : ∀ h' l' c', c' ≤ c + 1 → SetO h' p m c' l' → Fr (fun j => j = p ∨ j = m) (Ab.newRow h [[AV.int .i64 z, .str key]] 2) h' → h'.Ok → bk l' = (doR (bk l) key (kdO z)).2 → K (.int .i64 ((doR (bk l) key (kdO z)).1 : Int)) h' = true :=
    fun h' l' c' h1 h2 h3 => kk h' l' c' h1 h2 ((Fr.of_ext e1).trans h3)
  generalize Ab.newRow h [[AV.int .i64 z, .str key]] 2 = h1 at *
  have L : loadA h1 false 1 (.ptr h.sz 0 0 0) = some (.int .i64 z) := by rw [V1.load]; rfl
  have L2 : loadA h1 false 1 (.ptr h.sz 0 0 1) = some (.str key) := by rw [V1.load]; rfl
  have ef : ∀ k : AV → Bool, optB (fadrA 1 (.ptr h.sz 0 0 0)) k = k (.ptr h.sz 0 0 1) := fun k => rfl
  clear kk
  rw [o_fadr0, o_of L, o_eql]
  unfold kdO at kk'
  by_cases e : z = 1
  · rw [condB_t (decide_eq_true e), ef, o_of L2]
    rw [if_pos e] at kk'
    exact c19 S1 o1 hc kk'
  · rw [condB_f (decide_eq_false e), o_eql]
    rw [if_neg e] at kk'
    by_cases e2 : z = 2
    · rw [condB_t (decide_eq_true e2), ef, o_of L2]
      rw [if_pos e2] at kk'
      exact c22 S1 o1 hc kk'
    · rw [condB_f (decide_eq_false e2), ef, o_of L2]
      rw [if_neg e2] at kk'
      exact c20 S1 o1 hc kk'

theorem c13 (S : SetO h p m c l) (k : K (.int .i64 (kindB (bk l) key : Int)) h = true) : callN E (n + 1) (.func 13) [.ptr p 0 0 0, .str key] h K = true := by
  apply d13
  unfold s13
  rw [o_nilck, o_fadr0, o_of (l0 S.var), o_of (S.look key)]
  rw [← kind_cur] at k
  exact k

theorem c15 (S : SetO h p m c l) (k : K (.int .i64 ((bk l).length : Int)) h = true) : callN E (n + 1) (.func 15) [.ptr p 0 0 0] h K = true := by
  apply d15
  unfold s15
  rw [o_nilck, o_fadr0, o_of (l0 S.var), o_of S.map.len]
  simpa [bk, mp] using k

theorem c6 (o : h.Ok) (k : ∀ h' p m, Ext h h' → h'.Ok → SetO h' p m 0 [] → h.sz ≤ p → h.sz ≤ m → K (.ptr p 0 0 0) h' = true) : callN E (n + 1) (.func 6) [] h K = true := by
  apply d6
  unfold s6
  obtain ⟨q1, q2⟩ := kmap_new (ek := strKey) h
  rw [p_of q1]
  have e1 := ext_push o (.map [] 0)
  have o1 := o.push (.map [] 0)
  have z1 : (h.push (.map [] 0)).sz = h.sz + 1 := by simp
  generalize h.push (.map [] 0) = h1 at *
  rw [o_of (show buildV [AV.nilMap, AV.int .i64 0] [(0, 1, AV.map h.sz)] = some (.agg [.map h.sz, .int .i64 0]) from rfl)]
  have A : boxA h1 2 (.agg [.map h.sz, .int .i64 0]) = some (.ptr h1.sz 0 0 0, Ab.newRow h1 [[.map h.sz, .int .i64 0]] 2) := box_eq (n := 2) rfl (by decide) rfl
  rw [p_of A]
  have e2 := ext_newRow o1 [[AV.map h.sz, .int .i64 0]] 2
  refine k _ h1.sz h.sz (e1.trans e2) (ok_newRow o1 _ _) ⟨var_new h1 _, (Fr.of_ext (X := fun _ => False) e2).kmap q2 id, by omega, .nil, by simp, Nat.le_refl _⟩ (by omega) (Nat.le_refl _)
end
end Go.Proofs.Ytflpfelalockgaa
