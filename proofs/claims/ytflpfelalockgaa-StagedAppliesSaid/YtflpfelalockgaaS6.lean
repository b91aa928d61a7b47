/-
  What is taken into another one, step by step; what wakes; 'same'; a set and its book.
-/
import Derived.Test.YtflpfelalockgaaS5
namespace Go.Proofs.Ytflpfelalockgaa
open Go.Ab
set_option linter.unusedSimpArgs false
set_option linter.unusedVariables false

/-! ### In plain Lean -/
def nd (b : Bk) : Prop := (b.map fun p => p.1).Nodup
theorem putB_nd {b : Bk} (h : nd b) (k : Str) : ∀ j, nd (putB b k j)
  | 0 => dlG_nodup h
  | j + 1 => upG_nodup h
theorem doR_nd {b : Bk} (h : nd b) (k : Str) (d : Nat) : nd (doR b k d).2 := by
  unfold doR
  cases bec (kindB b k) d with
  | none => exact h
  | some j => exact putB_nd h k j
theorem kindB_put {b : Bk} (h : nd b) {k i : Str} (e : i ≠ k) : ∀ j, kindB (putB b k j) i = kindB b i
  | 0 => by unfold kindB putB; rw [lkG_dl h, if_neg e]
  | j + 1 => by unfold kindB putB; rw [lkG_up, if_neg e]
theorem kindB_do {b : Bk} (h : nd b) {k i : Str} (e : i ≠ k) (d : Nat) : kindB (doR b k d).2 i = kindB b i := by
  unfold doR
  cases bec (kindB b k) d with
  | none => rfl
  | some j => exact kindB_put h e j
theorem kindB_same {b : Bk} (h : nd b) (k : Str) : ∀ j, kindB (putB b k j) k = j
  | 0 => by unfold kindB putB; rw [lkG_dl h, if_pos rfl]; rfl
  | j + 1 => by unfold kindB putB; rw [lkG_up, if_pos rfl]; rfl

def stp1 (x : Nat × Bk) (y : Str × Nat) : Nat × Bk := if x.1 = 0 then doR x.2 y.1 y.2 else x
def foldP (x : Nat × Bk) (q : Bk) : Nat × Bk := q.foldl stp1 x
def foldB (b : Bk) (q : Bk) : Bk := q.foldl (fun b y => (doR b y.1 y.2).2) b
def seqOf (b : Bk) (d : Nat) : Bk := (keysOf b d).map fun k => (k, d)
def seqs (b : Bk) : Bk := seqOf b 1 ++ (seqOf b 2 ++ seqOf b 3)

theorem foldP_no {w : Nat} (hw : w ≠ 0) (b : Bk) : ∀ q, foldP (w, b) q = (w, b)
  | [] => rfl
  | y :: q => by
    show foldP (stp1 (w, b) y) q = _
    have : stp1 (w, b) y = (w, b) := if_neg hw
    rw [this]; exact foldP_no hw b q
theorem foldP_yes : ∀ {q : Bk} {b : Bk}, nd b → nd q → (∀ x ∈ q, bec (kindB b x.1) x.2 ≠ none) → foldP (0, b) q = (0, foldB b q)
  | [], _, _, _, _ => rfl
  | y :: q, b, hb, hq, h => by
    have hy := h y List.mem_cons_self
    have h1 : doR b y.1 y.2 = (0, (doR b y.1 y.2).2) := by
      unfold doR
      cases e : bec (kindB b y.1) y.2 with
      | none => exact absurd e hy
      | some j => rfl
    have hq' := hq
    simp only [nd, List.map_cons, List.nodup_cons] at hq'
    show foldP (stp1 (0, b) y) q = _
    have : stp1 (0, b) y = (0, (doR b y.1 y.2).2) := by rw [← h1]; rfl
    rw [this]
    exact foldP_yes (doR_nd hb _ _) hq'.2 fun x hx => by
      rw [kindB_do hb (fun e => hq'.1 (by rw [← e]; exact List.mem_map.2 ⟨x, hx, rfl⟩))]
      exact h x (List.mem_cons_of_mem _ hx)
theorem foldP_not : ∀ {q : Bk} {b : Bk}, nd b → nd q → ¬ (∀ x ∈ q, bec (kindB b x.1) x.2 ≠ none) → (foldP (0, b) q).1 = 33
  | [], _, _, _, h => absurd (fun x hx => by cases hx) h
  | y :: q, b, hb, hq, h => by
    have hq' := hq
    simp only [nd, List.map_cons, List.nodup_cons] at hq'
    show (foldP (stp1 (0, b) y) q).1 = _
    have hs : stp1 (0, b) y = doA b y.1 (bec (kindB b y.1) y.2) := rfl
    cases e : bec (kindB b y.1) y.2 with
    | none =>
      rw [hs, e]
      show (foldP (33, b) q).1 = 33
      rw [foldP_no (by decide)]
    | some j =>
      have h1 : stp1 (0, b) y = (0, (doR b y.1 y.2).2) := by rw [hs, e]; unfold doR; rw [e]; rfl
      rw [h1]
      refine foldP_not (doR_nd hb _ _) hq'.2 fun hall => h fun x hx => ?_
      rcases List.mem_cons.1 hx with rfl | hx'
      · rw [e]; exact fun q => by cases q
      · have := hall x hx'
        rw [kindB_do hb (fun e => hq'.1 (by rw [← e]; exact List.mem_map.2 ⟨x, hx', rfl⟩))] at this
        exact this

theorem mem_seqOf {b : Bk} {d : Nat} {x : Str × Nat} : x ∈ seqOf b d ↔ x ∈ b ∧ x.2 = d := by
  unfold seqOf keysOf
  simp only [List.mem_map, List.mem_filter]
  constructor
  · rintro ⟨k, ⟨y, ⟨h1, h2⟩, rfl⟩, rfl⟩
    have : y.2 = d := by simpa using h2
    subst this
    exact ⟨h1, rfl⟩
  · rintro ⟨h1, rfl⟩
    exact ⟨x.1, ⟨x, ⟨h1, by simp⟩, rfl⟩, rfl⟩
theorem mem_seqs {b : Bk} (hk : ∀ x ∈ b, 1 ≤ x.2 ∧ x.2 ≤ 3) {x : Str × Nat} : x ∈ seqs b ↔ x ∈ b := by
  unfold seqs
  simp only [List.mem_append, mem_seqOf]
  constructor
  · rintro (h | h | h) <;> exact h.1
  · intro h
    have := hk x h
    have : x.2 = 1 ∨ x.2 = 2 ∨ x.2 = 3 := by omega
    rcases this with e | e | e
    · exact .inl ⟨h, e⟩
    · exact .inr (.inl ⟨h, e⟩)
    · exact .inr (.inr ⟨h, e⟩)
theorem seqOf_nd {b : Bk} (h : nd b) (d : Nat) : nd (seqOf b d) := by
  unfold nd seqOf keysOf at *
  rw [List.map_map]
  have : ((fun p : Str × Nat => p.1) ∘ fun k => (k, d)) = id := rfl
  rw [this, List.map_id]
  exact h.sublist (List.filter_sublist.map _)
theorem uniq {b : Bk} (h : nd b) {x y : Str × Nat} (hx : x ∈ b) (hy : y ∈ b) (e : x.1 = y.1) : x.2 = y.2 := by
  have h1 := lkG_of_mem (k := x.1) (u := x.2) h hx
  have h2 := lkG_of_mem (k := y.1) (u := y.2) h hy
  rw [e, h2] at h1
  exact (Option.some.inj h1).symm
theorem seqs_nd {b : Bk} (h : nd b) : nd (seqs b) := by
  have key : ∀ {d e : Nat}, d ≠ e → ∀ a ∈ (seqOf b d).map (fun p => p.1), ∀ c ∈ (seqOf b e).map (fun p => p.1), a ≠ c := by
    intro d e hne a ha c hc q
    obtain ⟨x, hx, rfl⟩ := List.mem_map.1 ha
    obtain ⟨y, hy, rfl⟩ := List.mem_map.1 hc
    have h1 := mem_seqOf.1 hx
    have h2 := mem_seqOf.1 hy
    have := uniq h h1.1 h2.1 q
    omega
  have n1 := seqOf_nd h 1
  have n2 := seqOf_nd h 2
  have n3 := seqOf_nd h 3
  unfold nd at *
  unfold seqs
  rw [List.map_append, List.map_append, List.nodup_append, List.nodup_append]
  refine ⟨n1, ⟨n2, n3, key (by decide)⟩, fun a ha c hc => ?_⟩
  rcases List.mem_append.1 hc with hc | hc
  · exact key (by decide) a ha c hc
  · exact key (by decide) a ha c hc
theorem mergeB_fold (b b' : Bk) : mergeB b b' = foldB b (seqs b') := by
  have : ∀ (b : Bk) (ks : List Str) (d : Nat), putAll b ks d = foldB b (ks.map fun k => (k, d)) := fun b ks d => by
    unfold putAll foldB; rw [List.foldl_map]
  unfold mergeB putK seqs
  simp only [List.foldl_cons, List.foldl_nil, this]
  unfold foldB
  rw [List.foldl_append, List.foldl_append]; rfl
theorem mergeOk_iff {b b' : Bk} (hk : ∀ x ∈ b', 1 ≤ x.2 ∧ x.2 ≤ 3) : mergeOk b b' ↔ ∀ x ∈ seqs b', bec (kindB b x.1) x.2 ≠ none :=
  ⟨fun h x hx => h x ((mem_seqs hk).1 hx), fun h x hx => h x ((mem_seqs hk).2 hx)⟩

section
variable {h h' : AHeap} {p m c : Nat} {l : Ls}
theorem SetO.nd (S : SetO h p m c l) : nd (bk l) := by
  have := S.keys
  unfold Go.Proofs.Ytflpfelalockgaa.nd bk mp
  rw [List.map_map]; exact this
theorem SetO.kinds (S : SetO h p m c l) : ∀ x ∈ bk l, 1 ≤ x.2 ∧ x.2 ≤ 3 := fun x hx => by
  obtain ⟨y, hy, rfl⟩ := List.mem_map.1 hx
  exact (S.top y hy).2
theorem bk_len (l : Ls) : (bk l).length = l.length := by simp [bk, mp]
end

/-! ### What wakes -/
theorem ne0 (k : AV → Bool) : optB (binA .neq (.int .i64 ((0 : Nat) : Int)) (.int .i64 0)) k = k (.bool false) := rfl
theorem eqp (h : AHeap) (p : Nat) (k : AV → Bool) : optB (eqV h false .ptr (.ptr p 0 0 0) .nilPtr) k = k (.bool false) := rfl

theorem c11 {n : Nat} {h : AHeap} {K : Kont} (o : h.Ok) (hn : 4 < n) (k : ∀ h', K (.bool true) h' = true) : callN E (n + 5) (.func 11) [] h K = true := by
  have hlim : lim = 4611686018427387904 := rfl
  apply d11
  unfold s11
  refine c6 (n := n + 3) o fun h0 p m e0 o0 S0 hp hm => ?_
  rw [eqp, g_ff, o_some, gc_ff]
  refine c19 (n := n + 1) S0 o0 (by decide) fun h1 l1 c1 hc1 S1 F1 o1 b1 => ?_
  have r1 : doR (bk []) [97] 1 = (0, [([97], 1)]) := rfl
  rw [r1] at b1 ⊢
  simp only at b1
  rw [g_ff, ne0, k_f, g_ff, o_some, gc_ff]
  refine c20 (n := n + 1) S1 o1 (by omega) fun h2 l2 c2 hc2 S2 F2 o2 b2 => ?_
  have r2 : doR [([97], 1)] [97] 3 = (0, []) := rfl
  rw [b1, r2] at b2 ⊢
  simp only at b2
  rw [g_ff, ne0, k_f, g_ff, o_some, gc_ff]
  refine c20 (n := n + 1) S2 o2 (by omega) fun h3 l3 c3 hc3 S3 F3 o3 b3 => ?_
  have r3 : doR [] [98] 3 = (0, [([98], 3)]) := rfl
  rw [b2, r3] at b3 ⊢
  simp only at b3
  rw [g_ff, ne0, k_f, g_ff, o_some, gc_ff]
  refine c19 (n := n + 1) S3 o3 (by omega) fun h4 l4 c4 hc4 S4 F4 o4 b4 => ?_
  have r4 : doR [([98], 3)] [98] 1 = (0, [([98], 2)]) := rfl
  rw [b3, r4] at b4 ⊢
  simp only at b4
  rw [g_ff, ne0, k_f, g_ff, o_some, gc_ff]
  refine c22 (n := n + 1) S4 o4 (by omega) fun h5 l5 c5 hc5 S5 F5 o5 b5 => ?_
  have r5 : doR [([98], 2)] [99] 2 = (0, [([98], 2), ([99], 2)]) := rfl
  rw [b4, r5] at b5 ⊢
  simp only at b5
  rw [g_ff, ne0, k_f, condB_false]
  have ll := bk_len l5
  rw [b5] at ll
  simp only [List.length_cons, List.length_nil] at ll
  refine c9 (n := n) S5 o5 (by omega) (by omega) hn fun h6 f m' S6 F6 o6 U6 hm6 nr6 => ?_
  rw [o_ext0, o_ext1, o_ext2]
  obtain ⟨w, w1, w2⟩ := bslice_view (h := h6) (n := 2) (sz := 1) (z := [AV.str []]) (ps := [(0, .str [98]), (1, .str [99])]) (es := [[.str [98]], [.str [99]]]) rfl (by decide) (by decide) rfl rfl rfl
  rw [p_of w1]
  have e7 := ext_newRow o6 [[AV.str [98]], [.str [99]]] 1
  have U := (U6.own 2 (by omega)).view
  have kk : keysOf (bk l5) 2 = [[98], [99]] := by rw [b5]; rfl
  rw [kk] at U
  refine c21 (n := n + 3) (a := [[98], [99]]) (b := [[98], [99]]) (U.ext e7) w2 (by decide) (by simp only [List.length_cons, List.length_nil]; omega) ?_
  rw [decide_eq_true rfl, g_tt, o_some, gc_tt]
  refine c15 (n := n + 3) (S6.ext e7) ?_
  rw [g_tt, show bk [] = [] from rfl]
  exact k _

/-! ### 'same' -/
theorem c18 {n p m c q : Nat} {h : AHeap} {l : Ls} {v : AV} {K : Kont} (S : SetO h p m c l) (B : BookO h q v (bk l)) (o : h.Ok) (h1 : q ≠ p) (h2 : ¬ inRow v p) (hc : c < 1000000) (hn : l.length < n) (hn4 : 4 < n)
    (k : ∀ h' m', SetO h' p m' c [] → Fr (fun j => j = p) h h' → h'.Ok → K (.bool true) h' = true) : callN E (n + 5) (.func 18) [.ptr p 0 0 0, .ptr q 0 0 0] h K = true := by
  have hlim : lim = 4611686018427387904 := rfl
  apply d18
  unfold s18
  have hl := S.len
  have kl : ∀ i, (keysOf (bk l) i).length ≤ l.length := fun i => by have := keys_len (bk l) i; rw [bk_len] at this; exact this
  refine c9 (n := n) S o hc hn hn4 fun ha f m' Sa Fa oa Ua hm nr => ?_
  have Ba := B.fr Fa h1 (fun j q e => h2 (by rw [← e]; exact q))
  rw [o_ext0, o_ext1, o_ext2]
  have go : ∀ (i : Nat) (iv : AV) (hb : AHeap) (f : Nat → AV) (K : Kont), iv = .int .i64 (i : Int) → i < 4 → Ext ha hb → hb.Ok → Outs h.sz hb f (keysOf (bk l)) → (∀ hc, Ext hb hc → hc.Ok → K (.bool true) hc = true) →
      callN E (n + 4) (.func 17) [.ptr q 0 0 0, iv] hb (fun v5 h => callN E (n + 4) (.func 21) [f i, v5] h K) = true := fun i iv hb f K hiv hi eb ob Ub kk => by
    subst hiv
    refine c17 (n := n + 3) (Ba.ext eb) ob (by rw [bk_len]; omega) (by rw [bk_len]; omega) fun u hc' ec oc V => ?_
    have := kl i
    refine c21 (n := n + 3) (a := keysOf (bk l) i) (b := keysOf (bk l) i) ((Ub.own i hi).view.ext ec) V.view (by omega) (by omega) ?_
    rw [decide_eq_true rfl]
    exact kk hc' ec oc
  have go2 : ∀ (i : Nat) (iv : AV) (hb : AHeap) (f : Nat → AV) (K : Kont), iv = .int .i64 (i : Int) → i < 4 → Ext ha hb → hb.Ok → Outs h.sz hb f (keysOf (bk l)) → (∀ hc, Ext hb hc → hc.Ok → K (.bool true) hc = true) →
      callN E (n + 4) (.func 17) [.ptr q 0 0 0, iv] hb (fun v5 h => grdC (wantV (.bool true) true) (fun k => callN E (n + 4) (.func 21) [f i, v5] h k) h K) = true := fun i iv hb f K hiv hi eb ob Ub kk => by
    subst hiv
    refine c17 (n := n + 3) (Ba.ext eb) ob (by rw [bk_len]; omega) (by rw [bk_len]; omega) fun u hc' ec oc V => ?_
    have := kl i
    rw [gc_tt]
    refine c21 (n := n + 3) (a := keysOf (bk l) i) (b := keysOf (bk l) i) ((Ub.own i hi).view.ext ec) V.view (by omega) (by omega) ?_
    rw [decide_eq_true rfl]
    exact kk hc' ec oc
  refine go 1 _ ha f _ rfl (by omega) (Ext.refl _) oa Ua fun hb eb ob => ?_
  have Ub := Ua.fr (Fr.of_ext (X := fun _ => False) eb) fun _ _ _ _ => id
  rw [g_tt, o_some, g_tt, o_some, gc_tt]
  refine go2 2 _ hb f _ rfl (by omega) eb ob Ub fun hc ec oc => ?_
  have Uc := Ub.fr (Fr.of_ext (X := fun _ => False) ec) fun _ _ _ _ => id
  rw [k_t, g_tt, o_some, g_tt, o_some, gc_tt]
  refine go2 3 _ hc f _ rfl (by omega) (eb.trans ec) oc Uc fun hd ed od => ?_
  have Ud := Uc.fr (Fr.of_ext (X := fun _ => False) ed) fun _ _ _ _ => id
  have ee := (eb.trans ec).trans ed
  have Sd := Sa.ext ee
  rw [k_t, g_tt, o_some, gc_tt]
  refine c15 (n := n + 3) Sd ?_
  rw [g_tt, o_of (show binA .eql (.int .i64 ((bk []).length : Int)) (.int .i64 0) = some (.bool true) from rfl), k_t]
  have new : ∀ i, i < 4 → ∀ j, inRow (f i) j → h.sz ≤ j := fun i hi j q => Ud.hi i hi j q
  have hpl := S.plt o
  have over : ∀ (i : Nat) (hb : AHeap) (f : Nat → AV) (K : Kont), i < 4 → hb.Ok → Own 0 hb 1 (f i) (enc1 (keysOf (bk l) i)) → (∀ hc, Fr (inRow (f i)) hb hc → hc.Ok → K (.tup []) hc = true) →
      callN E (n + 4) (.func 27) [f i] hb K = true := fun i hb f K hi ob Ob kk => by
    have := kl i
    exact c27 (n := n + 3) Ob ob (by omega) (by omega) kk
  refine over 1 hd f _ (by omega) od (Ud.own 1 (by omega)) fun h5 F5 o5 => ?_
  have O52 := own_fr (Ud.own 2 (by omega)) F5 (Ud.dis 2 1 (by omega) (by omega) (by omega))
  have O53 := own_fr (Ud.own 3 (by omega)) F5 (Ud.dis 3 1 (by omega) (by omega) (by omega))
  refine over 2 h5 f _ (by omega) o5 O52 fun h6 F6 o6 => ?_
  have O63 := own_fr O53 F6 (Ud.dis 3 2 (by omega) (by omega) (by omega))
  refine over 3 h6 f _ (by omega) o6 O63 fun h7 F7 o7 => ?_
  have nm : ∀ i, i < 4 → ¬ inRow (f i) m' := nr
  have np : ∀ i, i < 4 → ¬ inRow (f i) p := fun i hi q => by have := new i hi p q; omega
  refine k h7 m' (((Sd.fr F5 (np 1 (by omega)) (nm 1 (by omega))).fr F6 (np 2 (by omega)) (nm 2 (by omega))).fr F7 (np 3 (by omega)) (nm 3 (by omega))) ?_ o7
  refine Fr.new Fa ?_ o |>.mono fun j e => e
  exact ((Fr.of_ext ee).trans (F5.mono fun j q => .inr (new 1 (by omega) j q))).trans ((F6.mono fun j q => .inr (new 2 (by omega) j q)).trans (F7.mono fun j q => .inr (new 3 (by omega) j q)))

/-! ### A set and its book -/
def foot (p m q : Nat) (v : AV) (j : Nat) : Prop := j = p ∨ j = m ∨ j = q ∨ inRow v j

structure Duo (h : AHeap) (p m c q : Nat) (v : AV) (l : Ls) : Prop where
  set : SetO h p m c l
  book : BookO h q v (bk l)
  qp : q ≠ p
  qm : q ≠ m
  rp : ¬ inRow v p
  rm : ¬ inRow v m

section
variable {h h' : AHeap} {p m c q : Nat} {v : AV} {l : Ls}
theorem Duo.fr {X : Nat → Prop} (D : Duo h p m c q v l) (F : Fr X h h') (d : ∀ j, foot p m q v j → ¬ X j) : Duo h' p m c q v l :=
  ⟨D.set.fr F (d p (.inl rfl)) (d m (.inr (.inl rfl))), D.book.fr F (d q (.inr (.inr (.inl rfl)))) fun j i => d j (.inr (.inr (.inr i))), D.qp, D.qm, D.rp, D.rm⟩
theorem Duo.ext (D : Duo h p m c q v l) (e : Ext h h') : Duo h' p m c q v l := D.fr (Fr.of_ext (X := fun _ => False) e) fun _ _ => id
theorem Duo.lt (D : Duo h p m c q v l) (o : h.Ok) {j : Nat} (f : foot p m q v j) : j < h.sz := by
  rcases f with rfl | rfl | rfl | f
  · exact D.set.plt o
  · exact D.set.mlt o
  · exact D.book.var.lt o
  · exact own_lt D.book.own o f
end

def encO (x : Int × Str) : List AV := [.int .i64 x.1, .str x.2]

end Go.Proofs.Ytflpfelalockgaa
