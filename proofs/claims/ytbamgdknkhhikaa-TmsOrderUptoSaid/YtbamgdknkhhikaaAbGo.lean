/-
  Steps of walks as laws that are applied at the head; what is written, laid, deleted, each with all that is said of it; iterators over maps out of which keys go on the way.
-/
import Derived.Test.YtbamgdknkhhikaaAbMaps
namespace Go.Ab
set_option linter.unusedSimpArgs false
set_option linter.unusedVariables false

section
variable {k : AV → Bool} {K : Kont} {v u : AV} {h h' : AHeap} {o : Option AV} {p : Option (AV × AHeap)} {q : Option AHeap} {a b : Bool} {r : Kont → Bool}
theorem z_some (s : k v = true) : optB (some v) k = true := s
theorem z_of (e : o = some v) (s : k v = true) : optB o k = true := by subst e; exact s
theorem z_p (e : p = some (v, h)) (s : K v h = true) : optP p K = true := by subst e; exact s
theorem z_u (e : q = some h) (s : K (.tup []) h = true) : optP (unit q) K = true := by subst e; exact s
theorem z_nil {x y z w : Nat} (s : k (.ptr x y z w) = true) : optB (nilckA (.ptr x y z w)) k = true := s
theorem z_fadr {f x y z : Nat} (s : k (.ptr x y z f) = true) : optB (fadrA f (.ptr x y z 0)) k = true := by rw [o_fadr0]; exact s
theorem z_fadrN {f x y z d g : Nat} (e : d + f = g) (s : k (.ptr x y z g) = true) : optB (fadrA f (.ptr x y z d)) k = true := by subst e; exact s
theorem z_ext0 {l : List AV} (s : k v = true) : optB (extA 0 (.tup (v :: l))) k = true := s
theorem z_ext1 {l : List AV} (s : k u = true) : optB (extA 1 (.tup (v :: u :: l))) k = true := s
theorem z_ext2 {l : List AV} {w : AV} (s : k w = true) : optB (extA 2 (.tup (v :: u :: w :: l))) k = true := s
theorem z_not {c : Bool} (s : k (.bool (!c)) = true) : optB (notA (.bool c)) k = true := s
theorem z_notT (s : k (.bool false) = true) : optB (notA (.bool true)) k = true := s
theorem z_notF (s : k (.bool true) = true) : optB (notA (.bool false)) k = true := s
theorem z_ct {c : Bool} (e : c = true) (s : a = true) : condB (.bool c) a b = true := by subst e; exact s
theorem z_cf {c : Bool} (e : c = false) (s : b = true) : condB (.bool c) a b = true := by subst e; exact s
theorem z_cT (s : a = true) : condB (.bool true) a b = true := s
theorem z_cF (s : b = true) : condB (.bool false) a b = true := s
theorem z_gtt (s : optB o k = true) : optB (grdO (wantV (.bool true) true) o) k = true := s
theorem z_gff (s : optB o k = true) : optB (grdO (wantV (.bool false) false) o) k = true := s
theorem z_gtf (s : k (.tup []) = true) : optB (grdO (wantV (.bool true) false) o) k = true := s
theorem z_gft (s : k (.tup []) = true) : optB (grdO (wantV (.bool false) true) o) k = true := s
theorem z_ptt (s : optP p K = true) : optP (grdP (wantV (.bool true) true) p h) K = true := s
theorem z_pff (s : optP p K = true) : optP (grdP (wantV (.bool false) false) p h) K = true := s
theorem z_ptf (s : K (.tup []) h = true) : optP (grdP (wantV (.bool true) false) p h) K = true := s
theorem z_pft (s : K (.tup []) h = true) : optP (grdP (wantV (.bool false) true) p h) K = true := s
theorem z_rtt (s : r K = true) : grdC (wantV (.bool true) true) r h K = true := s
theorem z_rff (s : r K = true) : grdC (wantV (.bool false) false) r h K = true := s
theorem z_rtf (s : K (.tup []) h = true) : grdC (wantV (.bool true) false) r h K = true := s
theorem z_rft (s : K (.tup []) h = true) : grdC (wantV (.bool false) true) r h K = true := s
theorem z_kt (s : k v = true) : optB (pickV (.bool true) v u) k = true := s
theorem z_kf (s : k u = true) : optB (pickV (.bool false) v u) k = true := s
theorem z_lss {J : IntKind} {x y : Int} (s : k (.bool (decide (x < y))) = true) : optB (binA .lss (.int J x) (.int J y)) k = true := by rw [o_lss]; exact s
theorem z_gtr {J : IntKind} {x y : Int} (s : k (.bool (decide (y < x))) = true) : optB (binA .gtr (.int J x) (.int J y)) k = true := by rw [o_gtr]; exact s
theorem z_leq {J : IntKind} {x y : Int} (s : k (.bool (decide (x ≤ y))) = true) : optB (binA .leq (.int J x) (.int J y)) k = true := by rw [o_leq]; exact s
theorem z_geq {J : IntKind} {x y : Int} (s : k (.bool (decide (y ≤ x))) = true) : optB (binA .geq (.int J x) (.int J y)) k = true := by rw [o_geq]; exact s
theorem z_eql {J : IntKind} {x y : Int} (s : k (.bool (decide (x = y))) = true) : optB (binA .eql (.int J x) (.int J y)) k = true := by rw [o_eql]; exact s
theorem z_neq {J : IntKind} {x y : Int} (s : k (.bool (!decide (x = y))) = true) : optB (binA .neq (.int J x) (.int J y)) k = true := by rw [o_neq]; exact s
theorem z_seq {x y : Str} (s : k (.bool (decide (x = y))) = true) : optB (binA .eql (.str x) (.str y)) k = true := by rw [binA_seql]; exact s
theorem z_sne {x y : Str} (s : k (.bool (!decide (x = y))) = true) : optB (binA .neq (.str x) (.str y)) k = true := by rw [binA_sneq]; exact s
theorem z_slen {x : Str} (s : k (.int .i64 (x.length : Int)) = true) : optB (lenA h 0 (.str x)) k = true := s
theorem z_len0 (s : k (.int .i64 0) = true) : optB (lenA h 1 .nilSlc) k = true := s
theorem z_same (e : o = some u) (j : AV.same u u = true) (s : a = true) : sameB o u a = true := by subst e; simp only [sameB, j, cond_true, s]
theorem z_cv {call : CallFn} {f : AFn} {first args cap : List AV} (s : call f (first ++ args ++ cap) h K = true) : callV call (.fn f first cap) args h K = true := s
theorem z_eqp {a1 a2 a3 a4 : Nat} (s : k (.bool false) = true) : optB (eqV h false EqK.ptr (.ptr a1 a2 a3 a4) .nilPtr) k = true := s
theorem z_eqn (s : k (.bool true) = true) : optB (eqV h false EqK.ptr .nilPtr .nilPtr) k = true := s
end

/-! ### Told again -/
theorem same_map (a : Nat) : AV.same (.map a) (.map a) = true := by simp only [AV.same, Nat.beq_refl]
theorem same_agg {l : List AV} (h : sames l l = true) : AV.same (.agg l) (.agg l) = true := by simpa only [AV.same] using h
theorem same_tup {l : List AV} (h : sames l l = true) : AV.same (.tup l) (.tup l) = true := by simpa only [AV.same] using h
theorem sames_nil : sames [] [] = true := by simp only [sames]
theorem sames_cons {a : AV} {l : List AV} (h1 : AV.same a a = true) (h2 : sames l l = true) : sames (a :: l) (a :: l) = true := by simp only [sames, h1, h2, Bool.and_self]
theorem same_nslc : AV.same .nilSlc .nilSlc = true := by simp only [AV.same]
theorem same_emp : AV.same .emp .emp = true := by simp only [AV.same]
theorem same_nptr : AV.same .nilPtr .nilPtr = true := by simp only [AV.same]
theorem View.same {h : AHeap} {n : Nat} {v : AV} {es : List (List AV)} (V : View h n v es) : AV.same v v = true := by
  rcases V with ⟨_, e | e⟩ | ⟨id, g, s, cap, ex, r, rfl, _⟩
  · subst e; exact same_nslc
  · subst e; exact same_emp
  · exact same_slc _ _ _ _ _ _

/-! ### What is laid, read, written -/
section
variable {h h' : AHeap} {id : Nat} {c : List AV}
theorem Var.get (V : Var h id c) {off : Nat} {v : AV} (e : nth c off = some v) : loadA h false 1 (.ptr id 0 0 off) = some v := by
  rw [V.load, partA_false]; exact e
theorem Var.all (V : Var h id c) {n : Nat} (e : c.length = n) : loadA h true n (.ptr id 0 0 0) = some (.agg c) := by
  subst e
  rw [V.load]
  simp [partA, nble_true.2 (Nat.le_refl _)]
theorem alloc_v {z : List AV} (o : h.Ok) (h1 : 0 < z.length) (h2 : allLeaf z = true) : ∃ h', allocV h z = some (.ptr h.sz 0 0 0, h') ∧ Var h' h.sz z ∧ Ext h h' ∧ h'.Ok ∧ h'.sz = h.sz + 1 :=
  ⟨_, alloc_eq h1 h2, var_new h z, ext_newRow o _ _, ok_newRow o _ _, rfl⟩
theorem box_v {n : Nat} {v : AV} (o : h.Ok) (h0 : v.cells.length = n) (h1 : 0 < n) (h2 : allLeaf v.cells = true) : ∃ h', boxA h n v = some (.ptr h.sz 0 0 0, h') ∧ Var h' h.sz v.cells ∧ Ext h h' ∧ h'.Ok ∧ h'.sz = h.sz + 1 := by
  refine ⟨_, box_eq h0 h1 h2, ?_, ext_newRow o _ _, ok_newRow o _ _, rfl⟩
  have := var_new h v.cells
  rw [h0] at this; exact this
theorem mkmap_v {κ : Type} (ek : κ → AV) (o : h.Ok) : ∃ h', mkmapV h = some (.map h.sz, h') ∧ KMap ek h' h.sz [] ∧ Ext h h' ∧ h'.Ok ∧ h'.sz = h.sz + 1 :=
  ⟨_, (kmap_new (ek := ek) h).1, (kmap_new (ek := ek) h).2, ext_push o _, o.push _, by simp⟩
theorem Var.wr (V : Var h id c) (o : h.Ok) {off : Nat} {v : AV} (h1 : off < c.length) (h2 : v.leaf = true) : ∃ h', storeA h 1 (.ptr id 0 0 off) v = some h' ∧ Var h' id (c.set off v) ∧ But id h h' ∧ h'.Ok ∧ h'.sz = h.sz :=
  ⟨_, V.set1 h1 h2, var_put id _, But.put _ _ _, o.put (V.lt o) _, by simp⟩
/-- All cells at once. -/
theorem Var.wrs (V : Var h id c) (o : h.Ok) {n : Nat} {v : AV} (h0 : v.cells.length = n) (h1 : c.length = n) (h2 : allLeaf v.cells = true) : ∃ h', storeA h n (.ptr id 0 0 0) v = some h' ∧ Var h' id v.cells ∧ But id h h' ∧ h'.Ok ∧ h'.sz = h.sz := by
  refine ⟨_, V.store h0 (by omega) h2, ?_, But.put _ _ _, o.put (V.lt o) _, by simp⟩
  have : lay c 0 v.cells = v.cells := by simp [lay]; omega
  rw [this]; exact var_put id _
theorem bslice1_v {sz : Nat} {z : List AV} {v : AV} (o : h.Ok) (h1 : z.length = sz) (h2 : 0 < sz) (h3 : 1 * sz ≤ 16777216) (h4 : allLeaf z = true) (h5 : v.cells.length = sz) (h6 : allLeaf v.cells = true) : ∃ w h', bsliceV h 1 sz z [(0, v)] = some (w, h') ∧ View h' sz w [v.cells] ∧ Ext h h' ∧ h'.Ok ∧ h'.sz = h.sz + 1 ∧ w = .slc h.sz 0 0 1 1 true := by
  refine ⟨.slc h.sz 0 0 1 1 true, Ab.newRow h [v.cells] sz, ?_, .inr ⟨h.sz, 0, 0, 1, true, { es := [v.cells], sz, g := 0, m := 0, rw := true }, rfl, ?_, Nat.le_refl _, rfl, by simp, by simp⟩, ext_newRow o _ _, ok_newRow o _ _, rfl, rfl⟩
  · simp only [bsliceV, nbeq_true.2 h1, nblt_true.2 h2, nble_true.2 h3, h4, Bool.and_self, cond_true, repl, fillRowV, nbeq_true.2 h5, List.length_cons, List.length_nil, h6, setNth]
    rfl
  · rw [AHeap.row_some]; simp only [newRow, AHeap.get_push, if_pos]
theorem But.fr {X : Nat → Prop} (b : But id h h') (x : X id) : Fr X h h' := Fr.of_but x b
end

/-! ### Keys of two parts -/
abbrev SK := Str × Str
abbrev BK := Int × Str
def sk (a : SK) : AV := .agg [.str a.1, .str a.2]
def bk2 (a : BK) : AV := .agg [.int .i64 a.1, .str a.2]
theorem sks : Keys (.st [.str, .str]) sk := ⟨fun _ => rfl, fun a b => by
  obtain ⟨a1, a2⟩ := a; obtain ⟨b1, b2⟩ := b
  simp only [sk, keyEq, leavesEq, leafEq, leqb_dec]
  by_cases e1 : a1 = b1 <;> by_cases e2 : a2 = b2 <;> simp [e1, e2]⟩
theorem bks : Keys (.st [.int, .str]) bk2 := ⟨fun _ => rfl, fun a b => by
  obtain ⟨a1, a2⟩ := a; obtain ⟨b1, b2⟩ := b
  simp only [bk2, keyEq, leavesEq, leafEq, leqb_dec, Nat.beq_refl, cond_true, ieqb_dec]
  by_cases e1 : a1 = b1 <;> by_cases e2 : a2 = b2 <;> simp [e1, e2]⟩

/-! ### Keys that go while the map is ranged over -/
/-- One key less, at the same clock. -/
def Dels {κ : Type} (ek : κ → AV) (h h' : AHeap) (id : Nat) (k : κ) : Prop := ∀ es c, h.get id = some (.map es c) → h'.get id = some (.map (delE (ek k) es) c)

section
variable {κ : Type} [DecidableEq κ] {kk : KK} {ek : κ → AV} {h h' : AHeap} {id it : Nat} {l : List (κ × AV)}

theorem KMap.delD (M : KMap ek h id l) (K : Keys kk ek) {k : κ} (hk : lk l k ≠ none) : ∃ h', delA h kk (.map id) (ek k) = some h' ∧ But id h h' ∧ h'.sz = h.sz ∧ (h.Ok → h'.Ok) ∧ KMap ek h' id (dl l k) ∧ Dels ek h h' id k := by
  obtain ⟨es, c, m⟩ := M
  cases hl : lk l k with
  | none => exact absurd hl hk
  | some u =>
    obtain ⟨i1, i2⟩ := m.ents.del K k
    refine ⟨h.put id (.map (delE (ek k) es) c), ?_, But.put _ _ _, by simp, fun o => o.put (o.lt m.get) _, ⟨delE (ek k) es, c, by rw [AHeap.get_put, if_pos rfl], i1, fun e he => m.born e (i2.subset he), m.nd.sublist (i2.map _), m.keys.sublist (dl_sub.map _)⟩, fun es' c' hg => ?_⟩
    · simp only [delA, K.fits, cond_true, m.get, m.ents.find K, hl]
    · rw [m.get] at hg; cases hg
      rw [AHeap.get_put, if_pos rfl]

/-- What is left in the map has not been come to. -/
def KIterD (ek : κ → AV) (h : AHeap) (it id : Nat) (l : List (κ × AV)) : Prop :=
  ∃ es c seen, KMapE ek h id es c l ∧ (∀ e ∈ es, e.2.2 ∉ seen) ∧ h.get it = some (.iter (some id) c seen c)
/-- But for the key that it stands at. -/
def KIterC (ek : κ → AV) (h : AHeap) (it id : Nat) (l : List (κ × AV)) (k : κ) : Prop :=
  ∃ es c seen, KMapE ek h id es c l ∧ (∀ e ∈ es, e.2.2 ∈ seen → e.1 = ek k) ∧ h.get it = some (.iter (some id) c seen c)

omit [DecidableEq κ] in
theorem KIterD.map (M : KIterD ek h it id l) : KMap ek h id l := by obtain ⟨es, c, s, m, _⟩ := M; exact ⟨es, c, m⟩
omit [DecidableEq κ] in
theorem KIterC.map {k : κ} (M : KIterC ek h it id l k) : KMap ek h id l := by obtain ⟨es, c, s, m, _⟩ := M; exact ⟨es, c, m⟩
omit [DecidableEq κ] in
theorem Fr.kiterD {X : Nat → Prop} (p : Fr X h h') (M : KIterD ek h it id l) (e1 : ¬ X it) (e2 : ¬ X id) : KIterD ek h' it id l := by
  obtain ⟨es, c, s, m, h1, h2⟩ := M
  exact ⟨es, c, s, ⟨p.keep _ _ e2 m.get, m.ents, m.born, m.nd, m.keys⟩, h1, p.keep _ _ e1 h2⟩
omit [DecidableEq κ] in
theorem Fr.kiterC {X : Nat → Prop} {k : κ} (p : Fr X h h') (M : KIterC ek h it id l k) (e1 : ¬ X it) (e2 : ¬ X id) : KIterC ek h' it id l k := by
  obtain ⟨es, c, s, m, h1, h2⟩ := M
  exact ⟨es, c, s, ⟨p.keep _ _ e2 m.get, m.ents, m.born, m.nd, m.keys⟩, h1, p.keep _ _ e1 h2⟩

omit [DecidableEq κ] in
theorem KMap.rangeD (M : KMap ek h id l) (o : h.Ok) : ∃ h', rngA h (.map id) = some (.itr h.sz, h') ∧ Ext h h' ∧ h'.Ok ∧ h'.sz = h.sz + 1 ∧ KIterD ek h' h.sz id l := by
  obtain ⟨h', h1, h2, h3, h4, es, c, de, m, q1, q2, q3, q4⟩ := M.range' o
  cases q1
  exact ⟨h', h1, h2, h3, h4, es, c, [], m, by simp, q4⟩

theorem KIterC.del {k : κ} (K : Keys kk ek) (M : KIterC ek h it id l k) (D : Dels ek h h' id k) (hi : h'.get it = h.get it) : KIterD ek h' it id (dl l k) := by
  obtain ⟨es, c, s, m, h1, h2⟩ := M
  obtain ⟨i1, i2⟩ := m.ents.del K k
  refine ⟨delE (ek k) es, c, s, ⟨D _ _ m.get, i1, fun e he => m.born e (i2.subset he), m.nd.sublist (i2.map _), m.keys.sublist (dl_sub.map _)⟩, fun e he hs => ?_, by rw [hi]; exact h2⟩
  have hk := h1 e (i2.subset he) hs
  obtain ⟨k', q1, q2⟩ := i1.mem he
  have : k' = k := K.inj (q1.symm.trans hk)
  subst this
  have hn := m.keys
  have : ∀ {l : List (κ × AV)}, (l.map fun p => p.1).Nodup → ∀ v, (k', v) ∉ dl l k' := by
    intro l hn v hm
    induction l with
    | nil => cases hm
    | cons p t ih =>
      simp only [List.map_cons, List.nodup_cons] at hn
      simp only [dl] at hm
      by_cases e : k' = p.1
      · rw [if_pos e] at hm
        exact hn.1 (by rw [← e]; exact List.mem_map.2 ⟨_, hm, rfl⟩)
      · rw [if_neg e] at hm
        rcases List.mem_cons.1 hm with hm | hm
        · exact e (by rw [← hm])
        · exact ih hn.2 hm
  exact this hn _ q2

theorem KIterD.next (K : Keys kk ek) {Kt : Kont} (M : KIterD ek h it id l) (o : h.Ok) (hne : it ≠ id) (kE : l = [] → Kt (.tup [.bool false]) h = true)
    (kN : ∀ k v h', (k, v) ∈ l → But it h h' → h'.Ok → h'.sz = h.sz → KIterC ek h' it id l k → entA h' (.itr it) = some (.tup [ek k, v]) → Kt (.tup [.bool true, ek k, v]) h' = true) : nextA h (.itr it) Kt = true := by
  obtain ⟨es, c, s, m, h1, h2⟩ := M
  have hc : ∀ e ∈ es, Nat.blt e.2.2 c = true := fun e he => nblt_true.2 (m.born e he)
  unfold nextA
  simp only [h2, m.get]
  have hg : (!s.isEmpty && !es.isEmpty && es.all fun e => !Nat.blt e.2.2 c) = false := by
    cases hes : es with
    | nil => simp
    | cons a t =>
      have := hc a (by rw [hes]; exact List.mem_cons_self)
      simp [this]
  rw [hg, cond_false, List.all_eq_true]
  intro x hx
  have hcand : x = none ∧ es = [] ∨ ∃ e, x = some e ∧ e ∈ es := by
    simp only [cands] at hx
    rcases List.mem_append.1 hx with hx | hx
    · refine .inl ?_
      cases he : (List.filter (fun e => Nat.blt e.2.2 c) (List.filter (fun e => !memN e.2.2 s) es)).isEmpty with
      | false => rw [he] at hx; cases hx
      | true =>
        rw [he] at hx
        simp only [cond_true, List.mem_singleton] at hx
        refine ⟨hx, ?_⟩
        rw [List.isEmpty_iff] at he
        cases hes : es with
        | nil => rfl
        | cons a t =>
          exfalso
          have ha : a ∈ es := by rw [hes]; exact List.mem_cons_self
          have : a ∈ List.filter (fun e => Nat.blt e.2.2 c) (List.filter (fun e => !memN e.2.2 s) es) := by
            rw [List.mem_filter, List.mem_filter]
            refine ⟨⟨ha, ?_⟩, hc a ha⟩
            cases hm : memN a.2.2 s with
            | false => rfl
            | true => exact absurd (memN_iff.1 hm) (h1 a ha)
          rw [he] at this; cases this
    · obtain ⟨e, he, rfl⟩ := List.mem_map.1 hx
      refine .inr ⟨e, rfl, ?_⟩
      rcases List.mem_append.1 he with he | he <;> exact (List.mem_filter.1 (List.mem_filter.1 he).1).1
  rcases hcand with ⟨rfl, hall⟩ | ⟨e, rfl, hes⟩
  · refine kE ?_
    have := m.ents
    rw [hall] at this
    cases this; rfl
  · obtain ⟨k, q1, q2⟩ := m.ents.mem hes
    obtain ⟨ek1, v, b⟩ := e
    simp only at q1 q2
    subst q1
    show Kt (.tup [.bool true, ek k, v]) _ = true
    have gm : (h.put it (.iter (some id) c (b :: s) c)).get id = some (.map es c) := by
      rw [AHeap.get_put, if_neg (fun e => hne e.symm)]; exact m.get
    have gi : (h.put it (.iter (some id) c (b :: s) c)).get it = some (.iter (some id) c (b :: s) c) := get_put_same _ _ _
    refine kN k v _ q2 (But.put _ _ _) (o.put (o.lt h2) _) (by simp) ⟨es, c, b :: s, ⟨gm, m.ents, m.born, m.nd, m.keys⟩, fun e he hs => ?_, gi⟩ ?_
    · rcases List.mem_cons.1 hs with hs | hs
      · have a1 := findBorn_mem m.nd he
        have a2 := findBorn_mem m.nd hes
        simp only at a2
        rw [hs, a2] at a1
        cases a1; rfl
      · exact absurd hs (h1 e he)
    · have hb := findBorn_mem m.nd hes
      simp only at hb
      simp only [entA, gi, gm, Nat.beq_refl, cond_true, hb]
end
end Go.Ab
